/- What the proof of FnStates leans on, part 23 of 29. -/
import Derived.Test.YthmcdfjijkecfaaGreatZFnStatesV
import Derived.Laws.CopyOwn
import Derived.Laws.MakeOwn
/- copy of elements of any size, between rows. -/
namespace Go.Proofs.YthmcdfjijkecfaaGreat
open Go.RowKit
set_option linter.unusedVariables false
set_option linter.unusedSimpArgs false

/-- As many elements as the shorter of the two has go over, sz cells each. -/
theorem run_copy_N {P : Program} (w : World) (dT sT ty elem : TypeId) (sz g o dLen dCap : Nat) (a : Addr) (sLen sCap : Nat) (cur : Array Value) (t : TypeId) (cs : List Value)
    (hu : P.underlying dT = some (.slice elem)) (hs : (P.info? elem).map (·.size) = some sz)
    (hg : w.heap[g]? = some (.cells cur t (0, 0))) (hn : cs.length = Nat.min sLen dLen * sz)
    (hsrc : ∀ j v, cs[j]? = some v → w.cell? (a.add j) = some v) (hfit : o + cs.length ≤ cur.size) (h1 : ∀ v ∈ cs, v.oneCell' = true) :
    (Builtin.copy_ #[dT, sT] ty #[.slice (some ⟨g, o, none⟩) dLen dCap, .slice (some a) sLen sCap]).run P w =
      .ok (goInt (Nat.min sLen dLen)) (w.setRow g (cur.toList.take o ++ cs ++ cur.toList.drop (o + cs.length)).toArray) := by
  have hl := run_loadCells_list (P := P) w a cs hsrc
  have hst := run_storeCells_at P g o t cs 0 cur w hg (by simpa using hfit) h1
  cases hq : P.info? elem with
  | none => simp [hq] at hs
  | some i =>
    have hi : i.size = sz := by simpa [hq] using hs
    rw [hn] at hl
    simp [Builtin.copy_, run_underlying hu, Builtin.lenOf, Builtin.firstCells, sizeOf, typeInfo, hq, hi, hl, hst]

/-- .. as a law for the walk. -/
theorem wpList_copy_N {P : Program} {w : World} {ops : Array Oper} {rest : List Oper} {o : Oper} {a : Act} {Q : Exit → Act → World → Prop} (hgd : o.guard = none) (d s : Operand) (dT sT : TypeId)
    (ho : o.op = .call { callee := .builtin .copy, args := #[d, s], argTypes := #[dT, sT] }) (elem : TypeId) (sz : Nat) (hu : P.underlying dT = some (.slice elem)) (hsz : (P.info? elem).map (·.size) = some sz)
    (g off dLen dCap : Nat) (ad : Addr) (sLen sCap : Nat) (hd : a.eval d = .slice (some ⟨g, off, none⟩) dLen dCap) (hs : a.eval s = .slice (some ad) sLen sCap)
    (cur : List Value) (t : TypeId) (hg : w.heap[g]? = some (.cells cur.toArray t (0, 0))) (cs : List Value) (hn : cs.length = Nat.min sLen dLen * sz)
    (hsrc : ∀ j v, cs[j]? = some v → w.cell? (ad.add j) = some v) (hfit : off + cs.length ≤ cur.length) (h1 : ∀ v ∈ cs, v.oneCell' = true)
    (h : wpList P ops Q rest (a.put o.dst (goInt (Nat.min sLen dLen))) (w.setRow g (splice cur off cs).toArray)) : wpList P ops Q (o :: rest) a w := by
  refine wpList_plain hgd fun K hK => ?_
  have hrun := run_copy_N (P := P) w dT sT o.type elem sz g off dLen dCap ad sLen sCap cur.toArray t cs hu hsz hg hn hsrc (by simpa using hfit) h1
  unfold Oper.wp
  simp [execOp, ho, resolve, invoke, builtin, hd, hs, hrun, Result.andThen]
  have e : w.setRow g (splice cur off cs).toArray = w.setRow g (List.take off cur ++ (cs ++ List.drop (off + cs.length) cur)).toArray := rfl
  first
    | exact hK _ _ h
    | (rw [e] at h; simpa using hK _ _ h)
end Go.Proofs.YthmcdfjijkecfaaGreat

/- bits.Mul at 1 and small numbers. -/
namespace Go.Proofs.YthmcdfjijkecfaaGreat
open Go.RowKit
set_option linter.unusedVariables false
set_option linter.unusedSimpArgs false
set_option maxRecDepth 4000 in
theorem bitsMul64_small (w : World) (n : Nat) (hn : n ≤ 16) :
    Calls Tryz.prog 264 #[.int .u64 1, .int .u64 n] w fun e w' => e = .returned (.tuple #[.int .u64 0, .int .u64 n]) ∧ w = w' := by
  have h : n = 0 ∨ n = 1 ∨ n = 2 ∨ n = 3 ∨ n = 4 ∨ n = 5 ∨ n = 6 ∨ n = 7 ∨ n = 8 ∨ n = 9 ∨ n = 10 ∨ n = 11 ∨ n = 12 ∨ n = 13 ∨ n = 14 ∨ n = 15 ∨ n = 16 := by omega
  clear hn
  rcases h with rfl | rfl | rfl | rfl | rfl | rfl | rfl | rfl | rfl | rfl | rfl | rfl | rfl | rfl | rfl | rfl | rfl <;>
  · go_enter Tryz.func264, Tryz.ntmps264
    go_wp2
    go_ret2
    exact ⟨rfl, rfl⟩
theorem bitsMul_small (w : World) (n : Nat) (hn : n ≤ 16) :
    Calls Tryz.prog 238 #[.int .u64 1, .int .u64 n] w fun e w' => e = .returned (.tuple #[.int .u64 0, .int .u64 n]) ∧ w = w' := by
  have hm := hid (fun W => bitsMul64_small W n hn)
  have xn : (n : Int) % 18446744073709551616 = n := by omega
  clear hn
  go_enter Tryz.func238, Tryz.ntmps238
  go_wp2_with (first
    | (go_at_call 264; (with_reducible refine (hm.out _).mono ?_); rintro e w1 ⟨rfl, rfl⟩))
  go_ret2
  exact ⟨rfl, rfl⟩
end Go.Proofs.YthmcdfjijkecfaaGreat

/- slices.Repeat of one element, a few times. -/
namespace Go.Proofs.YthmcdfjijkecfaaGreat
open Go.RowKit
set_option linter.unusedVariables false
set_option linter.unusedSimpArgs false
-- @LONG

/-- The cells cs, n times. -/
def rp (cs : List Value) (n : Nat) : List Value := (List.range (n * cs.length)).map fun j => cs.getD (j % cs.length) undef
theorem rp_length (cs : List Value) (n : Nat) : (rp cs n).length = n * cs.length := by simp [rp]
theorem rp_get (cs : List Value) (n j : Nat) (h : j < n * cs.length) : (rp cs n)[j]? = some (cs.getD (j % cs.length) undef) := by simp [rp, h]
theorem rp_at (cs : List Value) (n i j : Nat) (u : Value) (hi : i < n) (hu : cs[j]? = some u) : (rp cs n)[i * cs.length + j]? = some u := by
  have hj := (List.getElem?_eq_some_iff.1 hu).1
  have h1 : i * cs.length + cs.length ≤ n * cs.length := by rw [← Nat.succ_mul]; exact Nat.mul_le_mul_right _ hi
  rw [rp_get _ _ _ (by omega), Nat.mul_comm i, Nat.mul_add_mod, Nat.mod_eq_of_lt hj, List.getD_eq_getElem?_getD, hu]; rfl
theorem rp_one (cs : List Value) (n : Nat) (h1 : ∀ v ∈ cs, v.oneCell' = true) : ∀ v ∈ rp cs n, v.oneCell' = true := fun v hv => by
  unfold rp at hv
  obtain ⟨j, hj, rfl⟩ := List.mem_map.1 hv
  have hj' := List.mem_range.1 hj
  have hpos : 0 < cs.length := Nat.pos_of_ne_zero (fun e => by rw [e] at hj'; simp at hj')
  have hlt := Nat.mod_lt j hpos
  rw [List.getD_eq_getElem?_getD, List.getElem?_eq_getElem hlt]
  exact h1 _ (List.getElem_mem hlt)
/-- What is in the row when k elements are there. -/
def Rep (cs : List Value) (n k : Nat) (cur : List Value) : Prop := cur.length = n * cs.length ∧ ∀ j, j < k * cs.length → cur[j]? = (rp cs n)[j]?
theorem Rep.all {cs cur : List Value} {n : Nat} (h : Rep cs n n cur) : cur = rp cs n := by
  apply List.ext_getElem?
  intro j
  by_cases hj : j < n * cs.length
  · exact h.2 j hj
  · rw [List.getElem?_eq_none (by rw [h.1]; omega), List.getElem?_eq_none (by rw [rp_length]; omega)]
theorem Rep.step {cs cur : List Value} {n k c : Nat} (h : Rep cs n k cur) (hc : k + c ≤ n) : Rep cs n (k + c) (splice cur (k * cs.length) ((rp cs n).take (c * cs.length))) := by
  have e1 : k * cs.length + c * cs.length = (k + c) * cs.length := (Nat.add_mul _ _ _).symm
  have e2 : (k + c) * cs.length ≤ n * cs.length := Nat.mul_le_mul_right _ hc
  have hl : ((rp cs n).take (c * cs.length)).length = c * cs.length := by rw [List.length_take, rp_length]; omega
  refine ⟨by rw [length_splice _ _ _ (by rw [hl, h.1]; omega)]; exact h.1, fun j hj => ?_⟩
  unfold splice
  have hk : (cur.take (k * cs.length)).length = k * cs.length := by rw [List.length_take, h.1]; omega
  by_cases hj1 : j < k * cs.length
  · rw [List.getElem?_append_left (by omega), List.getElem?_take_of_lt hj1]
    exact h.2 j hj1
  · rw [List.getElem?_append_right (by omega), hk, List.getElem?_append_left (by omega), List.getElem?_take_of_lt (by omega), rp_get _ _ _ (by omega), rp_get _ _ _ (by omega)]
    have e3 : j % cs.length = (j - k * cs.length) % cs.length := by
      conv => lhs; rw [show j = k * cs.length + (j - k * cs.length) by omega, Nat.mul_comm k, Nat.mul_add_mod]
      rw [Nat.mul_comm k]
    rw [e3]
theorem Rep.zero {cs Z : List Value} {n : Nat} (h : Z.length = n * cs.length) : Rep cs n 0 Z := ⟨h, fun j hj => by omega⟩

/-- A part that is one block, its row anew. -/
theorem St.setRow {base bn : Nat} {w0 w : World} {L : List Asn} {cs : Array Value} {t : Nat} (h : St base w0 (Asn.blk bn cs t :: L) w) (hb : base ≤ bn) (cs' : Array Value) : St base w0 (Asn.blk bn cs' t :: L) (w.setRow bn cs') :=
  h.turn (a' := Asn.blk bn cs' t) (setRow_heap w bn _ _ t _ h.star.1) (fun k hk => .inl hk) (fun k hk => (show k = bn from hk) ▸ hb) (below_setRow (Below.refl _ _) hb _)
    fun k _ hk => setRow_other w bn k _ hk
/-- copy as a step of a region that draws. -/
theorem step_copy_N {P : Program} {ops : Array Oper} {o : Oper} {a : Act} {w : World} {K : Act → World → Prop} {Q : Exit → Act → World → Prop} {E : Prop} (hgd : o.guard = none) (d s : Operand) (dT sT : TypeId)
    (ho : o.op = .call { callee := .builtin .copy, args := #[d, s], argTypes := #[dT, sT] }) (elem : TypeId) (sz : Nat) (hu : P.underlying dT = some (.slice elem)) (hsz : (P.info? elem).map (·.size) = some sz)
    (g off dLen dCap : Nat) (ad : Addr) (sLen sCap : Nat) (hd : a.eval d = .slice (some ⟨g, off, none⟩) dLen dCap) (hs : a.eval s = .slice (some ad) sLen sCap)
    (cur : List Value) (t : TypeId) (hg : w.heap[g]? = some (.cells cur.toArray t (0, 0))) (cs : List Value) (hn : cs.length = Nat.min sLen dLen * sz)
    (hsrc : ∀ j v, cs[j]? = some v → w.cell? (ad.add j) = some v) (hfit : off + cs.length ≤ cur.length) (h1 : ∀ v ∈ cs, v.oneCell' = true)
    (h : K (a.put o.dst (goInt (Nat.min sLen dLen))) (w.setRow g (splice cur off cs).toArray)) :
    if Region.wanted o (yielded ops a.tmps) = true then Oper.wp P o a w K Q else E := by
  have hw : Region.wanted o (yielded ops a.tmps) = true := by simp [Region.wanted, hgd]
  rw [if_pos hw]
  have hrun := run_copy_N (P := P) w dT sT o.type elem sz g off dLen dCap ad sLen sCap cur.toArray t cs hu hsz hg hn hsrc (by simpa using hfit) h1
  unfold Oper.wp
  simp [execOp, ho, resolve, invoke, builtin, hd, hs, hrun, Result.andThen]
  have e : w.setRow g (splice cur off cs).toArray = w.setRow g (List.take off cur ++ (cs ++ List.drop (off + cs.length) cur)).toArray := rfl
  first
    | exact h
    | (rw [e] at h; simpa using h)
/-- The numbers of times that are asked for. -/
def Few (n : Nat) : Prop := n ≤ 16 ∨ n = 27 ∨ n = 32 ∨ n = 81

end Go.Proofs.YthmcdfjijkecfaaGreat

/- A machine drawn: a known one or any, seldom spoilt. -/
namespace Go.Proofs.YthmcdfjijkecfaaGreat
open Go.RowKit
set_option linter.unusedVariables false
set_option linter.unusedSimpArgs false
-- @LONG

/-- The texts of the known machines. -/
def tx8 : List ByteArray := [{ data := #[50, 58, 48, 97, 49, 97, 44, 49, 97, 48, 98] }, { data := #[50, 58, 48, 97, 49, 97, 44, 49, 97, 48, 97, 44, 48, 98, 49, 100, 44, 48, 98, 49, 101, 44, 48, 97, 49, 99] }, { data := #[50, 58, 48, 97, 49, 97, 44, 48, 97, 49, 99, 44, 49, 97, 48, 98] }, { data := #[50, 58, 48, 97, 49, 98, 44, 49, 97, 48, 98] }, { data := #[51, 58, 48, 97, 49, 97, 50, 97, 44, 49, 97, 48, 97, 50, 98, 44, 50, 97, 49, 99, 48, 97, 44, 48, 100, 50, 97, 49, 97] }, { data := #[51, 58, 48, 97, 49, 97, 50, 97, 44, 49, 97, 50, 97, 48, 97, 44, 48, 98, 49, 99, 50, 100, 44, 50, 97, 48, 97, 49, 97] }, { data := #[50, 58, 49, 98, 48, 99, 44, 48, 99, 49, 99, 44, 49, 97, 48, 98] }, { data := #[50, 58, 48, 98, 49, 97, 44, 49, 98, 48, 97] }]
def tx7 : List ByteArray := [{ data := #[50, 58, 48, 97, 49, 97, 44, 49, 97, 48, 98] }, { data := #[50, 58, 48, 97, 49, 97, 44, 48, 97, 49, 99, 44, 49, 97, 48, 98] }, { data := #[50, 58, 48, 97, 49, 97, 44, 49, 97, 48, 97, 44, 48, 98, 49, 100, 44, 48, 98, 49, 101, 44, 48, 97, 49, 99] }, { data := #[50, 58, 48, 98, 49, 97, 44, 49, 98, 48, 97] }, { data := #[51, 58, 48, 97, 49, 97, 50, 97, 44, 49, 97, 48, 97, 50, 98] }, { data := #[50, 58, 48, 97, 49, 98, 44, 49, 97, 48, 98] }, { data := #[51, 58, 48, 97, 49, 97, 50, 97, 44, 49, 97, 50, 97, 48, 98] }]
theorem tx8_S : ∀ t ∈ tx8, (rdS t).length ≤ 8 ∧ t.size ≤ 1000 := by decide +kernel
theorem tx7_S : ∀ t ∈ tx7, (rdS t).length ≤ 8 ∧ t.size ≤ 1000 := by decide +kernel
theorem rdAns_S {t : ByteArray} (h : (rdS t).length ≤ 8) : 0 ≤ (rdAns t).1.S ∧ (rdAns t).1.S ≤ 8 := by
  unfold rdAns
  split
  · have e : (rdM (bt t 0 - 48) (rdS t)).S = (((rdS t).length : Nat) : Int) := rfl
    show 0 ≤ (rdM (bt t 0 - 48) (rdS t)).S ∧ (rdM (bt t 0 - 48) (rdS t)).S ≤ 8
    rw [e]; omega
  · exact ⟨by decide, by decide⟩
/-- A machine with few states. -/
def Few8 (m : Mach) : Prop := m.Ok ∧ 0 ≤ m.S ∧ m.S ≤ 8
/-- .. where it is one. -/
def Low8 (m : Mach) : Prop := m.Ok ∧ (IsM m → m.S ≤ 8)
theorem MLS.few {m : Mach} {L : Int} {S : Nat} (h : MLS m L S) (hS : S ≤ 8) : Few8 m := ⟨h.1, by rw [h.2.2]; omega⟩
theorem Few8.low {m : Mach} (h : Few8 m) : Low8 m := ⟨h.1, fun _ => h.2.2⟩
section
variable {w0 w : World} {S : Nat} {v : Value} {l : List Nat} {L : List Asn}
theorem pick_two {r : Int} (h : r ∈ [2, 2, (3 : Int)]) : ∃ d : Nat, r = d ∧ (d = 2 ∨ d = 3) := by
  simp only [List.mem_cons, List.not_mem_nil, or_false] at h
  rcases h with rfl | rfl | rfl
  · exact ⟨2, rfl, .inl rfl⟩
  · exact ⟨2, rfl, .inl rfl⟩
  · exact ⟨3, rfl, .inr rfl⟩
theorem pick_six {r : Int} {k : Nat} (hk : k < 8) (h : r ∈ [1, 2, 3, 4, 5, 1 + (k : Int)]) : ∃ n : Nat, r = n ∧ n ≤ 8 := by
  simp only [List.mem_cons, List.not_mem_nil, or_false] at h
  rcases h with rfl | rfl | rfl | rfl | rfl | rfl
  · exact ⟨1, rfl, by omega⟩
  · exact ⟨2, rfl, by omega⟩
  · exact ⟨3, rfl, by omega⟩
  · exact ⟨4, rfl, by omega⟩
  · exact ⟨5, rfl, by omega⟩
  · exact ⟨1 + k, by omega, by omega⟩
set_option maxHeartbeats 4000000 in
set_option maxRecDepth 100000 in
theorem Dg.draw (D : Dg w0 S v l) (hS : St w0.heap.size w0 (Asn.src S v l.length :: L) w) :
    Calls Tryz.prog 200 #[.pointer (some ⟨S, 0, none⟩)] w fun e w' => ∃ m : Mach, e = .returned (.agg (mcells m)) ∧ Hid (Few8 m) ∧ St w0.heap.size w0 (Asn.src S v l.length :: L) w' := by
  have hN := hid (fun W L n (h0 : n ≤ 1000000000) hW => D.next (w := W) (L := L) n h0 hW)
  have hP := hid (fun W L b2 v2 M hM hMl hW => D.pick (w := W) (L := L) (b2 := b2) (v2 := v2) M hM hMl hW)
  have hA := hid (fun W L d n hd hn hW => D.any (w := W) (L := L) d n hd hn hW)
  have hrd := hid (fun W t (ht : t.size ≤ 1000) => l01Read_any W t (by omega))
  have hro := hid (fun t (ht : (rdS t).length ≤ 8) => (show Few8 (rdAns t).1 from ⟨rdAns_ok t, rdAns_S ht⟩))
  have hz := zeroM_run
  have hz2 := hid (fun L W (h : St w0.heap.size w0 (Asn.src S v l.length :: L) W) => (h.newMB zeroM 27).f1)
  have hle := hid hS.le
  have hS := hid (((hz2.out _ _ hS).newOwn [.string { data := #[50, 58, 48, 97, 49, 97, 44, 49, 97, 48, 98] }, .string { data := #[50, 58, 48, 97, 49, 97, 44, 49, 97, 48, 97, 44, 48, 98, 49, 100, 44, 48, 98, 49, 101, 44, 48, 97, 49, 99] }, .string { data := #[50, 58, 48, 97, 49, 97, 44, 48, 97, 49, 99, 44, 49, 97, 48, 98] }, .string { data := #[50, 58, 48, 97, 49, 98, 44, 49, 97, 48, 98] }, .string { data := #[51, 58, 48, 97, 49, 97, 50, 97, 44, 49, 97, 48, 97, 50, 98, 44, 50, 97, 49, 99, 48, 97, 44, 48, 100, 50, 97, 49, 97] }, .string { data := #[51, 58, 48, 97, 49, 97, 50, 97, 44, 49, 97, 50, 97, 48, 97, 44, 48, 98, 49, 99, 50, 100, 44, 50, 97, 48, 97, 49, 97] }, .string { data := #[50, 58, 49, 98, 48, 99, 44, 48, 99, 49, 99, 44, 49, 97, 48, 98] }, .string { data := #[50, 58, 48, 98, 49, 97, 44, 49, 98, 48, 97] }] 9 (by simp)).f1)
  have htx := hid (fun W L r (hr : r < 8) (hW : St w0.heap.size w0 (Asn.src S v l.length :: Asn.own w0.heap.size 9 (.slice (some ⟨w.heap.size + 1, 0, none⟩) 8 8) [.string { data := #[50, 58, 48, 97, 49, 97, 44, 49, 97, 48, 98] }, .string { data := #[50, 58, 48, 97, 49, 97, 44, 49, 97, 48, 97, 44, 48, 98, 49, 100, 44, 48, 98, 49, 101, 44, 48, 97, 49, 99] }, .string { data := #[50, 58, 48, 97, 49, 97, 44, 48, 97, 49, 99, 44, 49, 97, 48, 98] }, .string { data := #[50, 58, 48, 97, 49, 98, 44, 49, 97, 48, 98] }, .string { data := #[51, 58, 48, 97, 49, 97, 50, 97, 44, 49, 97, 48, 97, 50, 98, 44, 50, 97, 49, 99, 48, 97, 44, 48, 100, 50, 97, 49, 97] }, .string { data := #[51, 58, 48, 97, 49, 97, 50, 97, 44, 49, 97, 50, 97, 48, 97, 44, 48, 98, 49, 99, 50, 100, 44, 50, 97, 48, 97, 49, 97] }, .string { data := #[50, 58, 49, 98, 48, 99, 44, 48, 99, 49, 99, 44, 49, 97, 48, 98] }, .string { data := #[50, 58, 48, 98, 49, 97, 44, 49, 98, 48, 97] }] :: L) W) => (show ∃ t, W.cell? ⟨w.heap.size + 1, r, none⟩ = some (.string t) ∧ Hid ((rdS t).length ≤ 8) ∧ t.size ≤ 1000 from by
    have hr' : r < tx8.length := hr
    have hm := tx8_S tx8[r] (List.getElem_mem hr')
    exact ⟨tx8[r], hW.o1.cellAt r _ (by rw [show ([.string { data := #[50, 58, 48, 97, 49, 97, 44, 49, 97, 48, 98] }, .string { data := #[50, 58, 48, 97, 49, 97, 44, 49, 97, 48, 97, 44, 48, 98, 49, 100, 44, 48, 98, 49, 101, 44, 48, 97, 49, 99] }, .string { data := #[50, 58, 48, 97, 49, 97, 44, 48, 97, 49, 99, 44, 49, 97, 48, 98] }, .string { data := #[50, 58, 48, 97, 49, 98, 44, 49, 97, 48, 98] }, .string { data := #[51, 58, 48, 97, 49, 97, 50, 97, 44, 49, 97, 48, 97, 50, 98, 44, 50, 97, 49, 99, 48, 97, 44, 48, 100, 50, 97, 49, 97] }, .string { data := #[51, 58, 48, 97, 49, 97, 50, 97, 44, 49, 97, 50, 97, 48, 97, 44, 48, 98, 49, 99, 50, 100, 44, 50, 97, 48, 97, 49, 97] }, .string { data := #[50, 58, 49, 98, 48, 99, 44, 48, 99, 49, 99, 44, 49, 97, 48, 98] }, .string { data := #[50, 58, 48, 98, 49, 97, 44, 49, 98, 48, 97] }] : List Value) = strs tx8 from rfl]; simp [strs, List.getElem?_eq_getElem hr']), hid hm.1, hm.2⟩))
  simp only [heap_alloc_size] at hS
  clear D
  go_enter Tryz.func200, Tryz.ntmps200
  go_upto_region 2 with (fail)
  generalize World.alloc (World.alloc w _) _ = wA at *
  simp only [List.length_cons, List.length_nil, Nat.reduceAdd] at hS
  generalize ([.string { data := #[50, 58, 48, 97, 49, 97, 44, 49, 97, 48, 98] }, .string { data := #[50, 58, 48, 97, 49, 97, 44, 49, 97, 48, 97, 44, 48, 98, 49, 100, 44, 48, 98, 49, 101, 44, 48, 97, 49, 99] }, .string { data := #[50, 58, 48, 97, 49, 97, 44, 48, 97, 49, 99, 44, 49, 97, 48, 98] }, .string { data := #[50, 58, 48, 97, 49, 98, 44, 49, 97, 48, 98] }, .string { data := #[51, 58, 48, 97, 49, 97, 50, 97, 44, 49, 97, 48, 97, 50, 98, 44, 50, 97, 49, 99, 48, 97, 44, 48, 100, 50, 97, 49, 97] }, .string { data := #[51, 58, 48, 97, 49, 97, 50, 97, 44, 49, 97, 50, 97, 48, 97, 44, 48, 98, 49, 99, 50, 100, 44, 50, 97, 48, 97, 49, 97] }, .string { data := #[50, 58, 49, 98, 48, 99, 44, 48, 99, 49, 99, 44, 49, 97, 48, 98] }, .string { data := #[50, 58, 48, 98, 49, 97, 44, 49, 98, 48, 97] }] : List Value) = cs at *
  generalize w.heap.size + 1 = gT at *
  have mk1 : True := trivial
  go_wp2_with (first
    | (go_at_call 130; clear mk1; (with_reducible refine (hN.out _ _ _ (by omega) hS.out).mono ?_); rintro e w1 ⟨r1, rfl, _, hS'⟩; replace hS := hid hS'; clear hS')
    | (go_at_call 130; (with_reducible refine (hN.out _ _ _ (by omega) hS.out).mono ?_); rintro e w2 ⟨r, rfl, hr, hS'⟩; (have hr8 : r < 8 := by omega); (have hr9 : (r : Int) < 8 := by omega); (have r0 : (0 : Int) ≤ (r : Int) := Int.natCast_nonneg _); (have e1 : wrap64 (1 + (r : Int)) = 1 + (r : Int) := w64 (by omega) (by omega)); (refine Exists.elim (htx.out w2 _ r hr8 hS') ?_); rintro t ⟨ct, ht, hts⟩; replace hS := hid hS'; clear hS' hr)
    | (go_at_call 130; (with_reducible refine (hN.out _ _ _ (by omega) hS.out).mono ?_); rintro e w2 ⟨r, rfl, hr, hS'⟩; (have hr8 : r < 8 := by omega); (have hr9 : (r : Int) < 8 := by omega); (have r0 : (0 : Int) ≤ (r : Int) := Int.natCast_nonneg _); (have e1 : wrap64 (1 + (r : Int)) = 1 + (r : Int) := w64 (by omega) (by omega)); replace hS := hid hS'; clear hS' hr)
    | (go_at_call 237; (with_reducible refine (hrd.out _ t hts).mono ?_); rintro e w3 ⟨rfl, hb⟩; (have hle3 := hid (hS.out.call hb).le); replace hS := hid (hz2.out _ _ (hS.out.call hb)); (have hF := hid (hro.out t ht.out)); clear ct hb; generalize (rdAns t).1 = M at *; generalize (rdAns t).2 = ok at *)
    | ((with_reducible refine gateOp (op := .store 27 (.tmp 4) (.tmp 19)) rfl ?_); refine store_mach rfl _ _ rfl w3.heap.size rfl M rfl 27 _ hS.out.f1.m0 ?_; intro w4 p3 ho hsz hbl; replace hS := hid (hS.out.f1.setM hle3.out p3 ho hbl); clear p3 ho hsz hbl)
    | ((with_reducible refine gate (N := 22) rfl ?_); refine load_mach rfl _ rfl w3.heap.size rfl M hS.out.m0 ?_)
    | ((with_reducible refine gateOp (op := .store 27 (.tmp 2) (.tmp 22)) rfl ?_); refine store_mach rfl _ _ rfl w.heap.size rfl M rfl 27 _ hS.out.f3.m0 ?_; intro w5 p3 ho hsz hbl; replace hS := hid (hS.out.f3.setM hle.out p3 ho hbl); clear p3 ho hsz hbl)
    | (go_at_call 158; (first | have hS2 := hS.out.list [.int .i64 2, .int .i64 2, .int .i64 3] (by simp) | have hS2 := hS.out.f1.list [.int .i64 2, .int .i64 2, .int .i64 3] (by simp)); (with_reducible refine (hP.out _ _ _ _ [2, 2, 3] (by simp) (by simp) hS2).mono ?_); rintro e w6 ⟨d', rfl, hd', hS'⟩; obtain ⟨d, rfl, hd⟩ := pick_two hd'; replace hS := hid hS'; clear hS' hS2 hd')
    | (go_at_call 158; (have hS2 := hS.out.list [.int .i64 1, .int .i64 2, .int .i64 3, .int .i64 4, .int .i64 5, .int .i64 (1 + (r : Int))] (by simp)); (with_reducible refine (hP.out _ _ _ _ [1, 2, 3, 4, 5, 1 + (r : Int)] (by simp) (by simp) hS2).mono ?_); rintro e w7 ⟨n', rfl, hn', hS'⟩; obtain ⟨n, rfl, hn⟩ := pick_six hr8 hn'; replace hS := hid hS'; clear hS' hS2 hn')
    | (go_at_call 174; (with_reducible refine (hA.out _ _ _ _ hd (by omega) hS.out).mono ?_); rintro e w8 ⟨M, rfl, hM, hS'⟩; (have hF := hid (hM.out.few hn)); replace hS := hid hS'; clear hS')
    | ((with_reducible refine gateOp (op := .store 27 (.tmp 2) (.tmp 33)) rfl ?_); refine store_mach rfl _ _ rfl w.heap.size rfl M rfl 27 _ hS.out.f2.m0 ?_; intro w9 p3 ho hsz hbl; replace hS := hid (hS.out.f2.setM hle.out p3 ho hbl); clear p3 ho hsz hbl)
    | ((with_reducible refine gateOp (op := .store 27 (.tmp 2) (.tmp 33)) rfl ?_); refine store_mach rfl _ _ rfl w.heap.size rfl M rfl 27 _ hS.out.f3.m0 ?_; intro w9 p3 ho hsz hbl; replace hS := hid (hS.out.f3.setM hle.out p3 ho hbl); clear p3 ho hsz hbl))
  all_goals first
    | exact ret_mach rfl rfl hS.out.m0 rfl ⟨M, rfl, hF, hS.out.drop.drop.f1.drop⟩
    | exact ret_mach rfl rfl hS.out.m0 rfl ⟨M, rfl, hF, hS.out.drop.f1.drop⟩
    | exact ret_mach rfl rfl hS.out.m0 rfl ⟨M, rfl, hF, hS.out.drop.f1.drop.f1.drop⟩
theorem MB.setL {w : World} {t b : Nat} {m : Mach} (h : MB w t b m) (x : Int) : MB (w.setCell ⟨b, 0, none⟩ (.int .i64 x)) t b { m with L := x } := by
  refine World.rowIs.congr (World.rowIs.set h 0 _) (fun i hi => ?_)
  unfold mf
  by_cases e : i = 0
  · rw [if_pos e, if_pos e]
  · rw [if_neg e, if_neg e, if_neg e]
theorem MB.setS {w : World} {t b : Nat} {m : Mach} (h : MB w t b m) (x : Int) : MB (w.setCell ⟨b, 1, none⟩ (.int .i64 x)) t b { m with S := x } := by
  refine World.rowIs.congr (World.rowIs.set h 1 _) (fun i hi => ?_)
  unfold mf
  by_cases e : i = 1
  · rw [if_pos e, if_neg (by omega), if_pos e]
  · rw [if_neg e]
    by_cases e0 : i = 0
    · rw [if_pos e0, if_pos e0]
    · rw [if_neg e0, if_neg e, if_neg e0, if_neg e]
theorem St.setL {base t bn : Nat} {w0 w : World} {L : List Asn} {m : Mach} (h : St base w0 (Asn.mb t bn m :: L) w) (hb : base ≤ bn) (x : Int) : St base w0 (Asn.mb t bn { m with L := x } :: L) (w.setCell ⟨bn, 0, none⟩ (.int .i64 x)) :=
  h.turn (a' := Asn.mb t bn _) (MB.setL h.star.1 x) (fun k hk => .inl hk) (fun k hk => (show k = bn from hk) ▸ hb) ((Below.refl _ _).setCell hb _) fun k _ hk => heap_setCell_other w ⟨bn, _, none⟩ k _ hk
theorem St.setS {base t bn : Nat} {w0 w : World} {L : List Asn} {m : Mach} (h : St base w0 (Asn.mb t bn m :: L) w) (hb : base ≤ bn) (x : Int) : St base w0 (Asn.mb t bn { m with S := x } :: L) (w.setCell ⟨bn, 1, none⟩ (.int .i64 x)) :=
  h.turn (a' := Asn.mb t bn _) (MB.setS h.star.1 x) (fun k hk => .inl hk) (fun k hk => (show k = bn from hk) ▸ hb) ((Below.refl _ _).setCell hb _) fun k _ hk => heap_setCell_other w ⟨bn, _, none⟩ k _ hk
theorem IsM.few {m : Mach} (h : IsM m) : 1 ≤ m.S ∧ m.S ≤ 16 := by
  obtain ⟨l, s, g⟩ := h.good
  have := g.S; have := g.s1; have := g.s16
  omega
theorem Few8.setL {m : Mach} (h : Few8 m) (x : Int) : Low8 { m with L := x } := ⟨h.1, fun _ => h.2.2⟩
theorem Few8.setS {m : Mach} (h : Few8 m) {x : Int} (hx : x ∈ [0, 17, -1, wrap64 (m.S - 1)]) : Low8 { m with S := x } := by
  refine ⟨h.1, fun hm => ?_⟩
  have h2 := hm.few
  have h3 : 1 ≤ x ∧ x ≤ 16 := h2
  show x ≤ 8
  have h4 := h.2.1; have h5 := h.2.2
  rw [w64 (by omega) (by omega)] at hx
  simp only [List.mem_cons, List.not_mem_nil, or_false] at hx
  rcases hx with rfl | rfl | rfl | rfl <;> omega
theorem Few8.setN {m : Mach} (h : Few8 m) (i v : Nat) (hv : v < 256) : Low8 { m with nx := upd m.nx i v } := ⟨(MLS.nx (L := m.L) (S := m.S) ⟨h.1, rfl, rfl⟩ i v hv).1, fun _ => h.2.2⟩
theorem Few8.setO {m : Mach} (h : Few8 m) (i v : Nat) (hv : v < 256) : Low8 { m with ot := upd m.ot i v } := ⟨(MLS.ot (L := m.L) (S := m.S) ⟨h.1, rfl, rfl⟩ i v hv).1, fun _ => h.2.2⟩
set_option maxHeartbeats 4000000 in
set_option maxRecDepth 100000 in
theorem Dg.bad (D : Dg w0 S v l) (m : Mach) (hm : Few8 m) (hS : St w0.heap.size w0 (Asn.src S v l.length :: L) w) :
    Calls Tryz.prog 199 #[.pointer (some ⟨S, 0, none⟩), .agg (mcells m)] w fun e w' => ∃ m : Mach, e = .returned (.agg (mcells m)) ∧ Hid (Low8 m) ∧ St w0.heap.size w0 (Asn.src S v l.length :: L) w' := by
  have hN := hid (fun W L n (h0 : n ≤ 1000000000) hW => D.next (w := W) (L := L) n h0 hW)
  have hP := hid (fun W L b2 v2 M hM hMl hW => D.pick (w := W) (L := L) (b2 := b2) (v2 := v2) M hM hMl hW)
  have hz := zeroM_run
  have hle := hid hS.le
  have hS := hid (((hS.newMB m 27).f1.newMB zeroM 27).f1)
  have hle2 := hid (show w0.heap.size ≤ w.heap.size + 1 from Nat.le_succ_of_le hle.out)
  simp only [heap_alloc_size] at hS
  replace hm := hid hm
  clear D
  go_enter Tryz.func199, Tryz.ntmps199
  go_upto_region 2 with (first
    | (go_at_call 130; (with_reducible refine (hN.out _ _ _ (by omega) hS.out).mono ?_); rintro e w1 ⟨k, rfl, _, hS'⟩; replace hS := hid hS'; clear hS'))
  generalize w.heap.size + 1 = b4 at *
  have cL := hS.out.m2.cL
  have cS := hS.out.m2.cS
  have fL : w1.frozen? ⟨w.heap.size, 0, none⟩ = false := World.rowIs.frozen hS.out.m2 _
  have fS : w1.frozen? ⟨w.heap.size, 1, none⟩ = false := World.rowIs.frozen hS.out.m2 _
  by_cases k0 : k = 0
  · subst k0
    go_upto_region 10 with (first
      | (go_at_call 158; (have hS2 := hS.out.list [.int .i64 0, .int .i64 1, .int .i64 4, .int .i64 (-1), .int .i64 (wrap64 (5 - m.L))] (by simp)); (with_reducible refine (hP.out _ _ _ _ [0, 1, 4, -1, wrap64 (5 - m.L)] (by simp) (by simp) hS2).mono ?_); rintro e w6 ⟨x, rfl, _, hS'⟩; replace hS := hid hS'; clear hS' hS2 cL cS fL fS; (obtain ⟨vl, cL⟩ : ∃ u, w6.cell? ⟨w.heap.size, 0, none⟩ = some u := ⟨_, hS.out.m2.cL⟩); (have fL : w6.frozen? ⟨w.heap.size, 0, none⟩ = false := World.rowIs.frozen hS.out.m2 _)))
    replace hS := hid (hS.out.f2.setL hle.out x)
    have hF := hid (hm.out.setL x)
    generalize World.setCell w6 _ _ = wz at *
    generalize hMM : Mach.mk _ _ _ _ = M at hS hF
    clear hMM
    go_wp2_with (first
      | ((with_reducible refine gate (N := 49) rfl ?_); refine load_mach rfl _ rfl w.heap.size rfl M hS.out.m0 ?_)
      | ((with_reducible refine gateOp (op := .store 27 (.tmp 4) (.tmp 49)) rfl ?_); refine store_mach rfl _ _ rfl b4 rfl M rfl 27 _ hS.out.f2.m0 ?_; intro w9 p3 ho hsz hbl; replace hS := hid (hS.out.f2.setM hle2.out p3 ho hbl); clear p3 ho hsz hbl))
    exact ret_mach rfl rfl hS.out.m0 rfl ⟨M, rfl, hF, hS.out.drop.drop⟩
  · have d0 : ((k : Int) == 0) = false := by simp; omega
    by_cases k1 : k = 1
    · subst k1
      go_upto_region 10 with (first
        | (go_at_call 158; (have hS2 := hS.out.list [.int .i64 0, .int .i64 17, .int .i64 (-1), .int .i64 (wrap64 (m.S - 1))] (by simp)); (with_reducible refine (hP.out _ _ _ _ [0, 17, -1, wrap64 (m.S - 1)] (by simp) (by simp) hS2).mono ?_); rintro e w6 ⟨x, rfl, hx, hS'⟩; replace hS := hid hS'; replace hx := hid hx; clear hS' hS2 cL cS fL fS; (obtain ⟨vl, cL⟩ : ∃ u, w6.cell? ⟨w.heap.size, 1, none⟩ = some u := ⟨_, hS.out.m2.cS⟩); (have fL : w6.frozen? ⟨w.heap.size, 1, none⟩ = false := World.rowIs.frozen hS.out.m2 _)))
      replace hS := hid (hS.out.f2.setS hle.out x)
      have hF := hid (hm.out.setS hx.out)
      generalize World.setCell w6 _ _ = wz at *
      generalize hMM : Mach.mk _ _ _ _ = M at hS hF
      clear hMM
      go_wp2_with (first
        | ((with_reducible refine gate (N := 49) rfl ?_); refine load_mach rfl _ rfl w.heap.size rfl M hS.out.m0 ?_)
        | ((with_reducible refine gateOp (op := .store 27 (.tmp 4) (.tmp 49)) rfl ?_); refine store_mach rfl _ _ rfl b4 rfl M rfl 27 _ hS.out.f2.m0 ?_; intro w9 p3 ho hsz hbl; replace hS := hid (hS.out.f2.setM hle2.out p3 ho hbl); clear p3 ho hsz hbl))
      exact ret_mach rfl rfl hS.out.m0 rfl ⟨M, rfl, hF, hS.out.drop.drop⟩
    · have d1 : ((k : Int) == 1) = false := by simp; omega
      by_cases k2 : k = 2
      · subst k2
        go_upto_region 7 with (fail)
        have mk1 : True := trivial
        have mk2 : True := trivial
        clear cL cS fL fS
        go_region_with (first
          | (go_at_call 130; clear mk1; (with_reducible refine (hN.out _ _ _ (by omega) hS.out.drew).mono ?_); rintro e w5 ⟨r, rfl, hr, hS'⟩; (have r0 : (0 : Int) ≤ (r : Int) := Int.natCast_nonneg _); (have r1 : (r : Int) < 16 := by omega); replace hS := hid hS'; clear hS')
          | (go_at_call 130; clear mk2; (with_reducible refine (hN.out _ _ _ (by omega) hS.out).mono ?_); rintro e w6 ⟨x, rfl, hx, hS'⟩; (have x0 : (0 : Int) ≤ (x : Int) := Int.natCast_nonneg _); (have x1 : (x : Int) < 3 := by omega); replace hS := hid hS'; clear hS')
          | (go_at_call 130; (with_reducible refine (hN.out _ _ _ (by omega) hS.out).mono ?_); rintro e w7 ⟨y, rfl, hy, hS'⟩; replace hS := hid hS'; clear hS'; (have y1 : y < 256 := by omega); (have e1 : IntKind.u8.wrap (y : Int) = y := u8_of y y1); (have hrx := hid (show r < 16 ∧ x < 3 by omega)); (obtain ⟨vn, cn⟩ : ∃ u, w7.cell? ⟨w.heap.size, 2 + r * 3 + x, none⟩ = some u := ⟨_, hS.out.m2.cnx r x hrx.out.1 hrx.out.2⟩); (have fn : w7.frozen? ⟨w.heap.size, 2 + r * 3 + x, none⟩ = false := World.rowIs.frozen hS.out.m2 _)))
        replace hS := hid (hS.out.f2.setNx hle.out r x y hrx.out.1 hrx.out.2)
        have hF := hid (hm.out.setN (r * 3 + x) y y1)
        generalize World.setCell w7 _ _ = wz at *
        generalize hMM : Mach.mk _ _ _ _ = M at hS hF
        clear hMM
        go_wp2_with (first
          | ((with_reducible refine gate (N := 49) rfl ?_); refine load_mach rfl _ rfl w.heap.size rfl M hS.out.m0 ?_)
          | ((with_reducible refine gateOp (op := .store 27 (.tmp 4) (.tmp 49)) rfl ?_); refine store_mach rfl _ _ rfl b4 rfl M rfl 27 _ hS.out.f2.m0 ?_; intro w9 p3 ho hsz hbl; replace hS := hid (hS.out.f2.setM hle2.out p3 ho hbl); clear p3 ho hsz hbl))
        exact ret_mach rfl rfl hS.out.m0 rfl ⟨M, rfl, hF, hS.out.drop.drop⟩
      · have d2 : ((k : Int) == 2) = false := by simp; omega
        by_cases k3 : k = 3
        · subst k3
          go_upto_region 9 with (fail)
          have mk1 : True := trivial
          have mk2 : True := trivial
          clear cL cS fL fS
          go_region_with (first
            | (go_at_call 130; clear mk1; (with_reducible refine (hN.out _ _ _ (by omega) hS.out.drew).mono ?_); rintro e w5 ⟨r, rfl, hr, hS'⟩; (have r0 : (0 : Int) ≤ (r : Int) := Int.natCast_nonneg _); (have r1 : (r : Int) < 16 := by omega); replace hS := hid hS'; clear hS')
            | (go_at_call 130; clear mk2; (with_reducible refine (hN.out _ _ _ (by omega) hS.out).mono ?_); rintro e w6 ⟨x, rfl, hx, hS'⟩; (have x0 : (0 : Int) ≤ (x : Int) := Int.natCast_nonneg _); (have x1 : (x : Int) < 3 := by omega); replace hS := hid hS'; clear hS')
            | (go_at_call 130; (with_reducible refine (hN.out _ _ _ (by omega) hS.out).mono ?_); rintro e w7 ⟨y, rfl, hy, hS'⟩; replace hS := hid hS'; clear hS'; (have y1 : y < 256 := by omega); (have e1 : IntKind.u8.wrap (y : Int) = y := u8_of y y1); (have hrx := hid (show r < 16 ∧ x < 3 by omega)); (obtain ⟨vn, cn⟩ : ∃ u, w7.cell? ⟨w.heap.size, 50 + r * 3 + x, none⟩ = some u := ⟨_, hS.out.m2.cot r x hrx.out.1 hrx.out.2⟩); (have fn : w7.frozen? ⟨w.heap.size, 50 + r * 3 + x, none⟩ = false := World.rowIs.frozen hS.out.m2 _)))
          replace hS := hid (hS.out.f2.setOt hle.out r x y hrx.out.1 hrx.out.2)
          have hF := hid (hm.out.setO (r * 3 + x) y y1)
          generalize World.setCell w7 _ _ = wz at *
          generalize hMM : Mach.mk _ _ _ _ = M at hS hF
          clear hMM
          go_wp2_with (first
            | ((with_reducible refine gate (N := 49) rfl ?_); refine load_mach rfl _ rfl w.heap.size rfl M hS.out.m0 ?_)
            | ((with_reducible refine gateOp (op := .store 27 (.tmp 4) (.tmp 49)) rfl ?_); refine store_mach rfl _ _ rfl b4 rfl M rfl 27 _ hS.out.f2.m0 ?_; intro w9 p3 ho hsz hbl; replace hS := hid (hS.out.f2.setM hle2.out p3 ho hbl); clear p3 ho hsz hbl))
          exact ret_mach rfl rfl hS.out.m0 rfl ⟨M, rfl, hF, hS.out.drop.drop⟩
        · have d3 : ((k : Int) == 3) = false := by simp; omega
          replace hS := hid hS.out.f2
          have hF := hid hm.out.low
          clear cL cS fL fS
          go_wp2_with (first
            | ((with_reducible refine gate (N := 49) rfl ?_); refine load_mach rfl _ rfl w.heap.size rfl m hS.out.m0 ?_)
            | ((with_reducible refine gateOp (op := .store 27 (.tmp 4) (.tmp 49)) rfl ?_); refine store_mach rfl _ _ rfl b4 rfl m rfl 27 _ hS.out.f2.m0 ?_; intro w9 p3 ho hsz hbl; replace hS := hid (hS.out.f2.setM hle2.out p3 ho hbl); clear p3 ho hsz hbl))
          exact ret_mach rfl rfl hS.out.m0 rfl ⟨m, rfl, hF, hS.out.drop.drop⟩
set_option maxHeartbeats 4000000 in
set_option maxRecDepth 100000 in
theorem Dg.spoil (D : Dg w0 S v l) (hS : St w0.heap.size w0 (Asn.src S v l.length :: L) w) :
    Calls Tryz.prog 105 #[.pointer (some ⟨S, 0, none⟩)] w fun e w' => ∃ m : Mach, e = .returned (.agg (mcells m)) ∧ Hid (Low8 m) ∧ St w0.heap.size w0 (Asn.src S v l.length :: L) w' := by
  have hR := hid (fun W L hW => D.draw (w := W) (L := L) hW)
  have hB := hid (fun W L m hm hW => D.bad (w := W) (L := L) m hm hW)
  have hz := zeroM_run
  have hle := hid hS.le
  have hS := hid ((hS.newMB zeroM 27).f1)
  clear D
  go_enter Tryz.func105, Tryz.ntmps105
  go_wp2_with (first
    | (go_at_call 200; (with_reducible refine (hR.out _ _ hS.out).mono ?_); rintro e w1 ⟨m0, rfl, hm, hS'⟩; replace hS := hid hS'; clear hS')
    | (go_at_call 199; (with_reducible refine (hB.out _ _ m0 hm.out hS.out).mono ?_); rintro e w2 ⟨M, rfl, hF, hS'⟩; replace hS := hid hS'; clear hS')
    | ((with_reducible refine gateOp (op := .store 27 (.tmp 2) (.tmp 6)) rfl ?_); refine store_mach rfl _ _ rfl w.heap.size rfl M rfl 27 _ hS.out.f1.m0 ?_; intro w9 p3 ho hsz hbl; replace hS := hid (hS.out.f1.setM hle.out p3 ho hbl); clear p3 ho hsz hbl))
  exact ret_mach rfl rfl hS.out.m0 rfl ⟨M, rfl, hF, hS.out.drop⟩
end
end Go.Proofs.YthmcdfjijkecfaaGreat

/- Draws of machines and levels. -/
namespace Go.Proofs.YthmcdfjijkecfaaGreat
open Go.RowKit
set_option linter.unusedVariables false
set_option linter.unusedSimpArgs false
-- @LONG

theorem Low8.ok {m : Mach} (h : Low8 m) : m.Ok := h.1
theorem ret_mvv {fn : Func} {R : Ending → World → Prop} {a : Act} {w : World} {p q r : Nat} (h : fn.results = #[.cell p 27, .tmp q, .tmp r]) {g t : Nat} {m : Mach} {v u : Value}
    (hp : a.tmps.getD p undef = .pointer (some ⟨g, 0, none⟩)) (hq : a.tmps.getD q undef = v) (hr : a.tmps.getD r undef = u) (hm : MB w t g m) (hdf : a.defers = []) (hR : R (.returned (.tuple #[.agg (mcells m), v, u])) w) : bodyPost Tryz.prog fn R .ret a w := by
  refine bodyPost_ret (v := .tuple #[.agg (mcells m), v, u]) ?_ hdf hR
  have hp' : a.tmps[p]?.getD undef = .pointer (some ⟨g, 0, none⟩) := by simpa using hp
  have hq' : a.tmps[q]?.getD undef = v := by simpa using hq
  have hr' : a.tmps[r]?.getD undef = u := by simpa using hr
  have := run_loadVar_row (P := Tryz.prog) w g t 27 (mcells m) (0, 0) _ hm.heap Tryz.underlying27 rfl (by rw [size_mcells]; exact sz_mach)
  simp [results, h, hp', hq', hr', asAddr, this]
theorem ret_mvvv {fn : Func} {R : Ending → World → Prop} {a : Act} {w : World} {p q r s : Nat} (h : fn.results = #[.cell p 27, .tmp q, .tmp r, .tmp s]) {g t : Nat} {m : Mach} {v u x : Value}
    (hp : a.tmps.getD p undef = .pointer (some ⟨g, 0, none⟩)) (hq : a.tmps.getD q undef = v) (hr : a.tmps.getD r undef = u) (hs : a.tmps.getD s undef = x) (hm : MB w t g m) (hdf : a.defers = []) (hR : R (.returned (.tuple #[.agg (mcells m), v, u, x])) w) : bodyPost Tryz.prog fn R .ret a w := by
  refine bodyPost_ret (v := .tuple #[.agg (mcells m), v, u, x]) ?_ hdf hR
  have hp' : a.tmps[p]?.getD undef = .pointer (some ⟨g, 0, none⟩) := by simpa using hp
  have hq' : a.tmps[q]?.getD undef = v := by simpa using hq
  have hr' : a.tmps[r]?.getD undef = u := by simpa using hr
  have hs' : a.tmps[s]?.getD undef = x := by simpa using hs
  have := run_loadVar_row (P := Tryz.prog) w g t 27 (mcells m) (0, 0) _ hm.heap Tryz.underlying27 rfl (by rw [size_mcells]; exact sz_mach)
  simp [results, h, hp', hq', hr', hs', asAddr, this]
theorem Dg.from5 {w W : World} {v : Value} {l : List Nat} {L : List Asn} (hv : ArgB w v l) (hl : l.length ≤ 5000) (hS : St w.heap.size w L W) :
    Calls Tryz.prog 104 #[v] W fun e w' => ∃ S, e = .returned (.pointer (some ⟨S, 0, none⟩)) ∧ Hid (Dg w S v l) ∧ St w.heap.size w (Asn.src S v l.length :: L) w' := by
  refine (l01From_any W v l (hv.below hS.bel) hl).mono ?_
  rintro e w' ⟨rfl, h⟩
  exact ⟨_, rfl, hid ⟨hv, hl, hS.le⟩, hS.callPush (a := Asn.src W.heap.size v l.length) h.bel h.star.1 fun k hk => Nat.le_of_eq (show k = W.heap.size from hk).symm⟩
theorem Dg.from {w W : World} {v : Value} {l : List Nat} {L : List Asn} (hv : ArgB w v l) (hl : l.length ≤ 4096) (hS : St w.heap.size w L W) :
    Calls Tryz.prog 104 #[v] W fun e w' => ∃ S, e = .returned (.pointer (some ⟨S, 0, none⟩)) ∧ Hid (Dg w S v l) ∧ St w.heap.size w (Asn.src S v l.length :: L) w' := Dg.from5 hv (by omega) hS
section
variable {w0 w : World} {S : Nat} {v : Value} {l : List Nat} {L : List Asn}
theorem power_small (d n : Int) (hd : 1 ≤ d ∧ d ≤ 3) (hn : 0 ≤ n ∧ n ≤ 5) (w : World) : Calls Tryz.prog 120 #[.int .i64 d, .int .i64 n] w fun e w' => ∃ r : Int, e = .returned (.int .i64 r) ∧ 1 ≤ r ∧ r ≤ 243 ∧ w = w' := by
  obtain ⟨d, rfl⟩ := Int.eq_ofNat_of_zero_le (show 0 ≤ d by omega)
  obtain ⟨n, rfl⟩ := Int.eq_ofNat_of_zero_le hn.1
  have hb : pw d n ≤ 243 := by
    have h1 := pw_le d (by omega) (n := n) (k := 5) (by omega)
    have h2 : d = 1 ∨ d = 2 ∨ d = 3 := by omega
    have h3 : pw d 5 ≤ 243 := by rcases h2 with rfl | rfl | rfl <;> decide
    omega
  have hp := pw_pos d (by omega) n
  refine (l01Power_any d n (by omega) (by omega) (by omega) w).mono ?_
  rintro e w' ⟨rfl, rfl⟩
  exact ⟨_, rfl, by omega, by omega, rfl⟩
set_option maxHeartbeats 2000000 in
set_option maxRecDepth 100000 in
theorem Dg.place (D : Dg w0 S v l) (m : Mach) (n : Int) (hS : St w0.heap.size w0 (Asn.src S v l.length :: L) w) :
    Calls Tryz.prog 107 #[.pointer (some ⟨S, 0, none⟩), .agg (mcells m), .int .i64 n] w fun e w' => ∃ r : Int, e = .returned (.int .i64 r) ∧ Hid (I64 r) ∧ St w0.heap.size w0 (Asn.src S v l.length :: L) w' := by
  have hN := hid (fun W L n (h0 : -1 ≤ n) (h1 : n ≤ 1000000) hW => D.near (w := W) (L := L) n h0 h1 hW)
  have hPw := hid power_small
  replace hS := hid (hS.newMB m 27).f1
  have cL := hS.out.m1.cL
  clear D
  go_enter Tryz.func107, Tryz.ntmps107
  go_wp2_with (first
    | (go_at_call 120; (with_reducible refine (hPw.out _ _ (by (repeat' split) <;> omega) (by (repeat' split) <;> omega) _).mono ?_); rintro e w1 ⟨r, rfl, hr1, hr2, rfl⟩; have ew : wrap64 (r - 1) = r - 1 := w64 (by omega) (by omega))
    | (go_at_call 140; (with_reducible refine (hN.out _ _ _ (by omega) (by omega) hS.out).mono ?_); rintro e w1 ⟨x, rfl, hr, hS'⟩; clear hS; have hS := hid hS'.f1.drop; clear hS' cL))
  all_goals go_ret
  all_goals exact ⟨_, rfl, hr, hS.out⟩
end
set_option maxHeartbeats 2000000 in
set_option maxRecDepth 100000 in
theorem l05Draw_any (w : World) (v : Value) (l : List Nat) (hv : ArgB w v l) (hl : l.length ≤ 4096) :
    Calls Tryz.prog 118 #[v] w fun e w' => ∃ (m : Mach) (n : Int), e = .returned (.tuple #[.agg (mcells m), .int .i64 n]) ∧ Hid (Low8 m ∧ I64 n) ∧ Below w.heap.size w w' := by
  have hz := zeroM_run
  have hS := hid ((St.start w).newMB zeroM 27)
  have hfr := hid (fun W L hW => Dg.from (w := w) (W := W) (L := L) hv hl hW)
  replace hv := hid hv
  obtain ⟨A, c, rfl, _⟩ := hv.out
  go_enter Tryz.func118, Tryz.ntmps118
  go_wp2_with (first
    | (go_at_call 104; (with_reducible refine (hfr.out _ _ hS.out).mono ?_); rintro e w1 ⟨S, rfl, D, hS'⟩; replace hS := hid hS'; clear hS')
    | (go_at_call 105; (with_reducible refine (D.out.spoil hS.out).mono ?_); rintro e w2 ⟨M, rfl, hM, hS'⟩; replace hS := hid hS'; clear hS')
    | (go_at_call 106; (with_reducible refine (D.out.level hS.out).mono ?_); rintro e w3 ⟨n, rfl, hn, hS'⟩; replace hS := hid hS'; clear hS')
    | ((with_reducible refine gateOp (op := .store 27 (.tmp 2) (.tmp 8)) rfl ?_); refine store_mach rfl _ _ rfl w.heap.size rfl M rfl 27 _ hS.out.f1.m0 ?_; intro w4 p3 ho hsz hbl; replace hS := hid (hS.out.f1.setM (Nat.le_refl _) p3 ho hbl); clear p3 ho hsz hbl))
  exact ret_mach_v rfl rfl rfl hS.out.m0 rfl ⟨M, n, rfl, hid ⟨hM.out, hn.out⟩, hS.out.bel⟩
set_option maxHeartbeats 2000000 in
set_option maxRecDepth 100000 in
theorem drEdg_any (w : World) (v : Value) (l : List Nat) (hv : ArgB w v l) (hl : l.length ≤ 4096) :
    Calls Tryz.prog 27 #[v] w fun e w' => ∃ (m : Mach) (n : Int), e = .returned (.tuple #[.agg (mcells m), .int .i64 n]) ∧ Hid (Low8 m ∧ I64 n) ∧ Below w.heap.size w w' := by
  have hz := zeroM_run
  have hS := hid ((St.start w).newMB zeroM 27)
  have hdr := hid (fun W (hW : Below w.heap.size w W) => l05Draw_any W v l (hv.below hW) hl)
  have hz2 := hid (fun L W (h : St w.heap.size w L W) => h.newMB zeroM 27)
  replace hv := hid hv
  obtain ⟨A, c, rfl, _⟩ := hv.out
  go_enter Tryz.func27, Tryz.ntmps27
  go_wp2_with (first
    | (go_at_call 118; (with_reducible refine (hdr.out _ hS.out.bel).mono ?_); rintro e w1 ⟨M, n, rfl, hF, hb⟩; have hle := hid (hS.out.call hb).le; replace hS := hid (hz2.out _ _ (hS.out.call hb)); clear hb)
    | ((with_reducible refine gateOp (op := .store 27 (.tmp 4) (.tmp 9)) rfl ?_); refine store_mach rfl _ _ rfl w1.heap.size rfl M rfl 27 _ hS.out.m0 ?_; intro w2 p3 ho hsz hbl; replace hS := hid (hS.out.setM hle.out p3 ho hbl); clear p3 ho hsz hbl)
    | ((with_reducible refine gate (N := 11) rfl ?_); refine load_mach rfl _ rfl w1.heap.size rfl M hS.out.m0 ?_)
    | ((with_reducible refine gateOp (op := .store 27 (.tmp 2) (.tmp 11)) rfl ?_); refine store_mach rfl _ _ rfl w.heap.size rfl M rfl 27 _ hS.out.f1.m0 ?_; intro w4 p3 ho hsz hbl; replace hS := hid (hS.out.f1.setM (Nat.le_refl _) p3 ho hbl); clear p3 ho hsz hbl))
  exact ret_mach_v rfl rfl rfl hS.out.m0 rfl ⟨M, n, rfl, hF, hS.out.bel⟩
set_option maxHeartbeats 2000000 in
set_option maxRecDepth 100000 in
theorem drDia_any (w : World) (v : Value) (l : List Nat) (hv : ArgB w v l) (hl : l.length ≤ 4096) :
    Calls Tryz.prog 30 #[v] w fun e w' => ∃ (m : Mach) (n : Int), e = .returned (.tuple #[.agg (mcells m), .int .i64 n]) ∧ Hid (Low8 m ∧ I64 n) ∧ Below w.heap.size w w' := by
  have hz := zeroM_run
  have hS := hid ((St.start w).newMB zeroM 27)
  have hdr := hid (fun W (hW : Below w.heap.size w W) => l05Draw_any W v l (hv.below hW) hl)
  have hz2 := hid (fun L W (h : St w.heap.size w L W) => h.newMB zeroM 27)
  replace hv := hid hv
  obtain ⟨A, c, rfl, _⟩ := hv.out
  go_enter Tryz.func30, Tryz.ntmps30
  go_wp2_with (first
    | (go_at_call 118; (with_reducible refine (hdr.out _ hS.out.bel).mono ?_); rintro e w1 ⟨M, n, rfl, hF, hb⟩; have hle := hid (hS.out.call hb).le; replace hS := hid (hz2.out _ _ (hS.out.call hb)); clear hb)
    | ((with_reducible refine gateOp (op := .store 27 (.tmp 4) (.tmp 9)) rfl ?_); refine store_mach rfl _ _ rfl w1.heap.size rfl M rfl 27 _ hS.out.m0 ?_; intro w2 p3 ho hsz hbl; replace hS := hid (hS.out.setM hle.out p3 ho hbl); clear p3 ho hsz hbl)
    | ((with_reducible refine gate (N := 11) rfl ?_); refine load_mach rfl _ rfl w1.heap.size rfl M hS.out.m0 ?_)
    | ((with_reducible refine gateOp (op := .store 27 (.tmp 2) (.tmp 11)) rfl ?_); refine store_mach rfl _ _ rfl w.heap.size rfl M rfl 27 _ hS.out.f1.m0 ?_; intro w4 p3 ho hsz hbl; replace hS := hid (hS.out.f1.setM (Nat.le_refl _) p3 ho hbl); clear p3 ho hsz hbl))
  exact ret_mach_v rfl rfl rfl hS.out.m0 rfl ⟨M, n, rfl, hF, hS.out.bel⟩
set_option maxHeartbeats 2000000 in
set_option maxRecDepth 100000 in
theorem drLvo_any (w : World) (v : Value) (l : List Nat) (hv : ArgB w v l) (hl : l.length ≤ 4096) :
    Calls Tryz.prog 32 #[v] w fun e w' => ∃ (m : Mach) (n : Int), e = .returned (.tuple #[.agg (mcells m), .int .i64 n]) ∧ Hid (Low8 m ∧ I64 n) ∧ Below w.heap.size w w' := by
  have hz := zeroM_run
  have hS := hid ((St.start w).newMB zeroM 27)
  have hdr := hid (fun W (hW : Below w.heap.size w W) => l05Draw_any W v l (hv.below hW) hl)
  have hz2 := hid (fun L W (h : St w.heap.size w L W) => h.newMB zeroM 27)
  replace hv := hid hv
  obtain ⟨A, c, rfl, _⟩ := hv.out
  go_enter Tryz.func32, Tryz.ntmps32
  go_wp2_with (first
    | (go_at_call 118; (with_reducible refine (hdr.out _ hS.out.bel).mono ?_); rintro e w1 ⟨M, n, rfl, hF, hb⟩; have hle := hid (hS.out.call hb).le; replace hS := hid (hz2.out _ _ (hS.out.call hb)); clear hb)
    | ((with_reducible refine gateOp (op := .store 27 (.tmp 4) (.tmp 9)) rfl ?_); refine store_mach rfl _ _ rfl w1.heap.size rfl M rfl 27 _ hS.out.m0 ?_; intro w2 p3 ho hsz hbl; replace hS := hid (hS.out.setM hle.out p3 ho hbl); clear p3 ho hsz hbl)
    | ((with_reducible refine gate (N := 11) rfl ?_); refine load_mach rfl _ rfl w1.heap.size rfl M hS.out.m0 ?_)
    | ((with_reducible refine gateOp (op := .store 27 (.tmp 2) (.tmp 11)) rfl ?_); refine store_mach rfl _ _ rfl w.heap.size rfl M rfl 27 _ hS.out.f1.m0 ?_; intro w4 p3 ho hsz hbl; replace hS := hid (hS.out.f1.setM (Nat.le_refl _) p3 ho hbl); clear p3 ho hsz hbl))
  exact ret_mach_v rfl rfl rfl hS.out.m0 rfl ⟨M, n, rfl, hF, hS.out.bel⟩
set_option maxHeartbeats 2000000 in
set_option maxRecDepth 100000 in
theorem drFix_any (w : World) (v : Value) (l : List Nat) (hv : ArgB w v l) (hl : l.length ≤ 4096) :
    Calls Tryz.prog 78 #[v] w fun e w' => ∃ (m : Mach) (n : Int), e = .returned (.tuple #[.agg (mcells m), .int .i64 n]) ∧ Hid (Low8 m ∧ I64 n) ∧ Below w.heap.size w w' := by
  have hz := zeroM_run
  have hS := hid ((St.start w).newMB zeroM 27)
  have hdr := hid (fun W (hW : Below w.heap.size w W) => l05Draw_any W v l (hv.below hW) hl)
  have hz2 := hid (fun L W (h : St w.heap.size w L W) => h.newMB zeroM 27)
  replace hv := hid hv
  obtain ⟨A, c, rfl, _⟩ := hv.out
  go_enter Tryz.func78, Tryz.ntmps78
  go_wp2_with (first
    | (go_at_call 118; (with_reducible refine (hdr.out _ hS.out.bel).mono ?_); rintro e w1 ⟨M, n, rfl, hF, hb⟩; have hle := hid (hS.out.call hb).le; replace hS := hid (hz2.out _ _ (hS.out.call hb)); clear hb)
    | ((with_reducible refine gateOp (op := .store 27 (.tmp 4) (.tmp 9)) rfl ?_); refine store_mach rfl _ _ rfl w1.heap.size rfl M rfl 27 _ hS.out.m0 ?_; intro w2 p3 ho hsz hbl; replace hS := hid (hS.out.setM hle.out p3 ho hbl); clear p3 ho hsz hbl)
    | ((with_reducible refine gate (N := 11) rfl ?_); refine load_mach rfl _ rfl w1.heap.size rfl M hS.out.m0 ?_)
    | ((with_reducible refine gateOp (op := .store 27 (.tmp 2) (.tmp 11)) rfl ?_); refine store_mach rfl _ _ rfl w.heap.size rfl M rfl 27 _ hS.out.f1.m0 ?_; intro w4 p3 ho hsz hbl; replace hS := hid (hS.out.f1.setM (Nat.le_refl _) p3 ho hbl); clear p3 ho hsz hbl))
  exact ret_mach_v rfl rfl rfl hS.out.m0 rfl ⟨M, n, rfl, hF, hS.out.bel⟩
set_option maxHeartbeats 2000000 in
set_option maxRecDepth 100000 in
theorem drDis_any (w : World) (v : Value) (l : List Nat) (hv : ArgB w v l) (hl : l.length ≤ 4096) :
    Calls Tryz.prog 19 #[v] w fun e w' => ∃ (m : Mach) (n k : Int), e = .returned (.tuple #[.agg (mcells m), .int .i64 n, .int .i64 k]) ∧ Hid (Low8 m ∧ I64 n ∧ I64 k) ∧ Below w.heap.size w w' := by
  have hz := zeroM_run
  have hS := hid ((St.start w).newMB zeroM 27)
  have hfr := hid (fun W L hW => Dg.from (w := w) (W := W) (L := L) hv hl hW)
  have hz2 := hid (fun L W (h : St w.heap.size w L W) => h.newMB zeroM 27)
  replace hv := hid hv
  obtain ⟨A, c, rfl, _⟩ := hv.out
  go_enter Tryz.func19, Tryz.ntmps19
  go_upto_region 3 with (first
    | (go_at_call 104; (with_reducible refine (hfr.out _ _ hS.out).mono ?_); rintro e w1 ⟨S, rfl, D, hS'⟩; replace hS := hid hS'; clear hS')
    | (go_at_call 105; (with_reducible refine (D.out.spoil hS.out).mono ?_); rintro e w2 ⟨M, rfl, hM, hS'⟩; replace hS := hid hS'; clear hS')
    | (go_at_call 106; (with_reducible refine (D.out.level hS.out).mono ?_); rintro e w3 ⟨n, rfl, hn, hS'⟩; have hle := hid hS'.le; replace hS := hid (hz2.out _ _ hS'); clear hS')
    | ((with_reducible refine gateOp (op := .store 27 (.tmp 6) (.tmp 11)) rfl ?_); refine store_mach rfl _ _ rfl w3.heap.size rfl M rfl 27 _ hS.out.m0 ?_; intro w4 p3 ho hsz hbl; replace hS := hid (hS.out.setM hle.out p3 ho hbl); clear p3 ho hsz hbl))
  generalize w3.heap.size = b6 at *
  replace hS := hid hS.out.drew
  refine wp_region_heldL (L := [(6, (fun w' : World => MB w' 27 b6 M))]) (by kernel_rfl) (HeldL.cons (fun _ => hS.out.m0) HeldL.nil) (fun hHeld => ?_)
  generalize World.drew w4 = wa at *
  refine wpAnyL_takeP (i := 0) 6 [] (v := (.agg (mcells M))) (fun w' : World => MB w' 27 b6 M) rfl (by kernel_rfl) (by kernel_rfl) (by kernel_rfl) (by rfl) (by kernel_rfl) (by simp) (fun _ _ _ h => h) (Or.inl ⟨by rfl, ?_⟩) (by assumption) ?_
  · (intro W hW; exact exec_load _ rfl rfl (load_run hW))
  intro hHeld'
  clear hHeld; have hHeld := hHeld'; clear hHeld'
  try simp only [Act.put, List.getElem_toArray, List.getElem_cons_succ, List.getElem_cons_zero, List.setIfInBounds_toArray, List.set_cons_zero, List.set_cons_succ]
  refine wpAnyL_take0 (i := 1) (v := ?_) rfl (by kernel_rfl) (by kernel_rfl) (by kernel_rfl) (by rfl) (fun _ _ _ h => h) (Or.inl ⟨by rfl, ?_⟩) (by assumption) ?_
  rotate_left
  · (intro W _; go_simp; (with_reducible rfl))
  intro hHeld'
  clear hHeld; have hHeld := hHeld'; clear hHeld'
  try simp only [Act.put, List.getElem_toArray, List.getElem_cons_succ, List.getElem_cons_zero, List.setIfInBounds_toArray, List.set_cons_zero, List.set_cons_succ]
  refine wpAnyL_take0 (i := 2) (v := ?_) rfl (by kernel_rfl) (by kernel_rfl) (by kernel_rfl) (by rfl) (fun _ _ _ h => h) (Or.inl ⟨by rfl, ?_⟩) (by assumption) ?_
  rotate_left
  · (intro W _; go_simp; (with_reducible rfl))
  intro hHeld'
  clear hHeld; have hHeld := hHeld'; clear hHeld'
  try simp only [Act.put, List.getElem_toArray, List.getElem_cons_succ, List.getElem_cons_zero, List.setIfInBounds_toArray, List.set_cons_zero, List.set_cons_succ]
  refine wpAnyL_takeP (i := 3) 6 [5] (v := (.agg (mcells M))) (fun w' : World => MB w' 27 b6 M) rfl (by kernel_rfl) (by kernel_rfl) (by kernel_rfl) (by rfl) (by kernel_rfl) (by simp) (fun _ _ _ h => h) (Or.inl ⟨by rfl, ?_⟩) (by assumption) ?_
  · (intro W hW; exact exec_load _ rfl rfl (load_run hW))
  intro hHeld'
  clear hHeld; have hHeld := hHeld'; clear hHeld'
  try simp only [Act.put, List.getElem_toArray, List.getElem_cons_succ, List.getElem_cons_zero, List.setIfInBounds_toArray, List.set_cons_zero, List.set_cons_succ]
  refine wpAnyL_take0 (i := 4) (v := ?_) rfl (by kernel_rfl) (by kernel_rfl) (by kernel_rfl) (by rfl) (fun _ _ _ h => h) (Or.inl ⟨by rfl, ?_⟩) (by assumption) ?_
  rotate_left
  · (intro W _; go_simp; (with_reducible rfl))
  intro hHeld'
  clear hHeld; have hHeld := hHeld'; clear hHeld'
  try simp only [Act.put, List.getElem_toArray, List.getElem_cons_succ, List.getElem_cons_zero, List.setIfInBounds_toArray, List.set_cons_zero, List.set_cons_succ]
  refine wpAnyL_ready (rs := [5]) (by kernel_rfl) (by simp) ?_
  refine AllReadyL.cons rfl (fun K hK => ?_) AllReadyL.nil
  go_simp
  replace hS := hid hS.out.f1
  (with_reducible refine (D.out.place M n hS.out).mono ?_)
  rintro e w5 ⟨k, rfl, hk, hS'⟩
  replace hS := hid hS'
  clear hS'
  go_simp
  refine hK.out _ _ (HeldL.cons (fun _ => hS.out.m1) HeldL.nil) (fun hHeld' => ?_)
  clear hK K hHeld; have hHeld := hHeld'; clear hHeld'
  try simp only [Act.put, List.getElem_toArray, List.getElem_cons_succ, List.getElem_cons_zero, List.setIfInBounds_toArray, List.set_cons_zero, List.set_cons_succ]
  refine wpAnyL_ready (rs := [6]) (by kernel_rfl) (by simp) ?_
  refine AllReadyL.cons rfl (fun K hK => ?_) AllReadyL.nil
  refine step_store_mach rfl _ _ rfl _ rfl M rfl _ _ hS.out.m2 ?_
  intro W9 p2 ho hbl
  replace hS := hid (hS.out.f2.setM (Nat.le_refl _) p2 ho hbl)
  clear p2 ho hbl
  refine hK.out _ _ (HeldL.cons (fun h => absurd h (by decide +kernel)) HeldL.nil) (fun hHeld' => ?_)
  clear hK K hHeld; have hHeld := hHeld'; clear hHeld'
  try simp only [Act.put, List.getElem_toArray, List.getElem_cons_succ, List.getElem_cons_zero, List.setIfInBounds_toArray, List.set_cons_zero, List.set_cons_succ]
  refine wpAnyL_take0 (i := 7) (v := ?_) rfl (by kernel_rfl) (by kernel_rfl) (by kernel_rfl) (by rfl) (fun _ _ _ h => h) (Or.inl ⟨by rfl, ?_⟩) (by assumption) ?_
  rotate_left
  · (intro W _; go_simp; (with_reducible rfl))
  intro hHeld'
  clear hHeld; have hHeld := hHeld'; clear hHeld'
  try simp only [Act.put, List.getElem_toArray, List.getElem_cons_succ, List.getElem_cons_zero, List.setIfInBounds_toArray, List.set_cons_zero, List.set_cons_succ]
  refine wpAnyL_take0 (i := 8) (v := ?_) rfl (by kernel_rfl) (by kernel_rfl) (by kernel_rfl) (by rfl) (fun _ _ _ h => h) (Or.inl ⟨by rfl, ?_⟩) (by assumption) ?_
  rotate_left
  · (intro W _; go_simp; (with_reducible rfl))
  intro hHeld'
  clear hHeld; have hHeld := hHeld'; clear hHeld'
  try simp only [Act.put, List.getElem_toArray, List.getElem_cons_succ, List.getElem_cons_zero, List.setIfInBounds_toArray, List.set_cons_zero, List.set_cons_succ]
  refine wpAnyL_done (by kernel_rfl) ?_ _
  go_wp2
  exact ret_mvv rfl rfl rfl rfl hS.out.m0 rfl ⟨M, n, k, rfl, hid ⟨hM.out, hn.out, hk.out⟩, hS.out.bel⟩
set_option maxHeartbeats 2000000 in
set_option maxRecDepth 100000 in
theorem drLop_any (w : World) (v : Value) (l : List Nat) (hv : ArgB w v l) (hl : l.length ≤ 4096) :
    Calls Tryz.prog 61 #[v] w fun e w' => ∃ (m : Mach) (n k : Int), e = .returned (.tuple #[.agg (mcells m), .int .i64 n, .int .i64 k]) ∧ Hid (Low8 m ∧ I64 n ∧ I64 k) ∧ Below w.heap.size w w' := by
  have hz := zeroM_run
  have hS := hid ((St.start w).newMB zeroM 27)
  have hfr := hid (fun W L hW => Dg.from (w := w) (W := W) (L := L) hv hl hW)
  have hz2 := hid (fun L W (h : St w.heap.size w L W) => h.newMB zeroM 27)
  replace hv := hid hv
  obtain ⟨A, c, rfl, _⟩ := hv.out
  go_enter Tryz.func61, Tryz.ntmps61
  go_upto_region 3 with (first
    | (go_at_call 104; (with_reducible refine (hfr.out _ _ hS.out).mono ?_); rintro e w1 ⟨S, rfl, D, hS'⟩; replace hS := hid hS'; clear hS')
    | (go_at_call 105; (with_reducible refine (D.out.spoil hS.out).mono ?_); rintro e w2 ⟨M, rfl, hM, hS'⟩; replace hS := hid hS'; clear hS')
    | (go_at_call 106; (with_reducible refine (D.out.level hS.out).mono ?_); rintro e w3 ⟨n, rfl, hn, hS'⟩; have hle := hid hS'.le; replace hS := hid (hz2.out _ _ hS'); clear hS')
    | ((with_reducible refine gateOp (op := .store 27 (.tmp 6) (.tmp 11)) rfl ?_); refine store_mach rfl _ _ rfl w3.heap.size rfl M rfl 27 _ hS.out.m0 ?_; intro w4 p3 ho hsz hbl; replace hS := hid (hS.out.setM hle.out p3 ho hbl); clear p3 ho hsz hbl))
  generalize w3.heap.size = b6 at *
  replace hS := hid hS.out.drew
  refine wp_region_heldL (L := [(6, (fun w' : World => MB w' 27 b6 M))]) (by kernel_rfl) (HeldL.cons (fun _ => hS.out.m0) HeldL.nil) (fun hHeld => ?_)
  generalize World.drew w4 = wa at *
  refine wpAnyL_takeP (i := 0) 6 [] (v := (.agg (mcells M))) (fun w' : World => MB w' 27 b6 M) rfl (by kernel_rfl) (by kernel_rfl) (by kernel_rfl) (by rfl) (by kernel_rfl) (by simp) (fun _ _ _ h => h) (Or.inl ⟨by rfl, ?_⟩) (by assumption) ?_
  · (intro W hW; exact exec_load _ rfl rfl (load_run hW))
  intro hHeld'
  clear hHeld; have hHeld := hHeld'; clear hHeld'
  try simp only [Act.put, List.getElem_toArray, List.getElem_cons_succ, List.getElem_cons_zero, List.setIfInBounds_toArray, List.set_cons_zero, List.set_cons_succ]
  refine wpAnyL_take0 (i := 1) (v := ?_) rfl (by kernel_rfl) (by kernel_rfl) (by kernel_rfl) (by rfl) (fun _ _ _ h => h) (Or.inl ⟨by rfl, ?_⟩) (by assumption) ?_
  rotate_left
  · (intro W _; go_simp; (with_reducible rfl))
  intro hHeld'
  clear hHeld; have hHeld := hHeld'; clear hHeld'
  try simp only [Act.put, List.getElem_toArray, List.getElem_cons_succ, List.getElem_cons_zero, List.setIfInBounds_toArray, List.set_cons_zero, List.set_cons_succ]
  refine wpAnyL_take0 (i := 2) (v := ?_) rfl (by kernel_rfl) (by kernel_rfl) (by kernel_rfl) (by rfl) (fun _ _ _ h => h) (Or.inl ⟨by rfl, ?_⟩) (by assumption) ?_
  rotate_left
  · (intro W _; go_simp; (with_reducible rfl))
  intro hHeld'
  clear hHeld; have hHeld := hHeld'; clear hHeld'
  try simp only [Act.put, List.getElem_toArray, List.getElem_cons_succ, List.getElem_cons_zero, List.setIfInBounds_toArray, List.set_cons_zero, List.set_cons_succ]
  refine wpAnyL_takeP (i := 3) 6 [5] (v := (.agg (mcells M))) (fun w' : World => MB w' 27 b6 M) rfl (by kernel_rfl) (by kernel_rfl) (by kernel_rfl) (by rfl) (by kernel_rfl) (by simp) (fun _ _ _ h => h) (Or.inl ⟨by rfl, ?_⟩) (by assumption) ?_
  · (intro W hW; exact exec_load _ rfl rfl (load_run hW))
  intro hHeld'
  clear hHeld; have hHeld := hHeld'; clear hHeld'
  try simp only [Act.put, List.getElem_toArray, List.getElem_cons_succ, List.getElem_cons_zero, List.setIfInBounds_toArray, List.set_cons_zero, List.set_cons_succ]
  refine wpAnyL_take0 (i := 4) (v := ?_) rfl (by kernel_rfl) (by kernel_rfl) (by kernel_rfl) (by rfl) (fun _ _ _ h => h) (Or.inl ⟨by rfl, ?_⟩) (by assumption) ?_
  rotate_left
  · (intro W _; go_simp; (with_reducible rfl))
  intro hHeld'
  clear hHeld; have hHeld := hHeld'; clear hHeld'
  try simp only [Act.put, List.getElem_toArray, List.getElem_cons_succ, List.getElem_cons_zero, List.setIfInBounds_toArray, List.set_cons_zero, List.set_cons_succ]
  refine wpAnyL_ready (rs := [5]) (by kernel_rfl) (by simp) ?_
  refine AllReadyL.cons rfl (fun K hK => ?_) AllReadyL.nil
  go_simp
  replace hS := hid hS.out.f1
  (with_reducible refine (D.out.place M n hS.out).mono ?_)
  rintro e w5 ⟨k, rfl, hk, hS'⟩
  replace hS := hid hS'
  clear hS'
  go_simp
  refine hK.out _ _ (HeldL.cons (fun _ => hS.out.m1) HeldL.nil) (fun hHeld' => ?_)
  clear hK K hHeld; have hHeld := hHeld'; clear hHeld'
  try simp only [Act.put, List.getElem_toArray, List.getElem_cons_succ, List.getElem_cons_zero, List.setIfInBounds_toArray, List.set_cons_zero, List.set_cons_succ]
  refine wpAnyL_ready (rs := [6]) (by kernel_rfl) (by simp) ?_
  refine AllReadyL.cons rfl (fun K hK => ?_) AllReadyL.nil
  refine step_store_mach rfl _ _ rfl _ rfl M rfl _ _ hS.out.m2 ?_
  intro W9 p2 ho hbl
  replace hS := hid (hS.out.f2.setM (Nat.le_refl _) p2 ho hbl)
  clear p2 ho hbl
  refine hK.out _ _ (HeldL.cons (fun h => absurd h (by decide +kernel)) HeldL.nil) (fun hHeld' => ?_)
  clear hK K hHeld; have hHeld := hHeld'; clear hHeld'
  try simp only [Act.put, List.getElem_toArray, List.getElem_cons_succ, List.getElem_cons_zero, List.setIfInBounds_toArray, List.set_cons_zero, List.set_cons_succ]
  refine wpAnyL_take0 (i := 7) (v := ?_) rfl (by kernel_rfl) (by kernel_rfl) (by kernel_rfl) (by rfl) (fun _ _ _ h => h) (Or.inl ⟨by rfl, ?_⟩) (by assumption) ?_
  rotate_left
  · (intro W _; go_simp; (with_reducible rfl))
  intro hHeld'
  clear hHeld; have hHeld := hHeld'; clear hHeld'
  try simp only [Act.put, List.getElem_toArray, List.getElem_cons_succ, List.getElem_cons_zero, List.setIfInBounds_toArray, List.set_cons_zero, List.set_cons_succ]
  refine wpAnyL_take0 (i := 8) (v := ?_) rfl (by kernel_rfl) (by kernel_rfl) (by kernel_rfl) (by rfl) (fun _ _ _ h => h) (Or.inl ⟨by rfl, ?_⟩) (by assumption) ?_
  rotate_left
  · (intro W _; go_simp; (with_reducible rfl))
  intro hHeld'
  clear hHeld; have hHeld := hHeld'; clear hHeld'
  try simp only [Act.put, List.getElem_toArray, List.getElem_cons_succ, List.getElem_cons_zero, List.setIfInBounds_toArray, List.set_cons_zero, List.set_cons_succ]
  refine wpAnyL_done (by kernel_rfl) ?_ _
  go_wp2
  exact ret_mvv rfl rfl rfl rfl hS.out.m0 rfl ⟨M, n, k, rfl, hid ⟨hM.out, hn.out, hk.out⟩, hS.out.bel⟩
end Go.Proofs.YthmcdfjijkecfaaGreat

/- The dice of the great laws. -/
namespace Go.Proofs.YthmcdfjijkecfaaGreat
open Go.RowKit
set_option linter.unusedVariables false
set_option linter.unusedSimpArgs false
-- @LONG

/-- Dice: their code, how far it is read, their number. -/
def Asn.dic (S : Nat) (v : Value) (n : Nat) : Asn :=
  ⟨fun k => k = S, fun w => ∃ a h : Nat, w.heap[S]? = some (.cells #[v, .int .i64 a, .int .u64 h] 142 (0, 0)) ∧ a ≤ n ∧ h < 18446744073709551616,
   fun ⟨a, h, h1, h2⟩ hk => ⟨a, h, (hk S rfl).trans h1, h2⟩, fun ⟨a, h, h1, _⟩ k hk => hk ▸ (Array.getElem?_eq_some_iff.1 h1).1⟩
theorem St.dicBlk {base S n : Nat} {w0 w : World} {L : List Asn} {v : Value} (h : St base w0 (Asn.dic S v n :: L) w) : ∃ a x : Nat, a ≤ n ∧ x < 18446744073709551616 ∧ St base w0 (Asn.blk S #[v, .int .i64 a, .int .u64 x] 142 :: L) w := by
  obtain ⟨⟨a, x, h1, h2, h3⟩, hf, hL⟩ := h.star
  exact ⟨a, x, h2, h3, h.bel, h.le, h1, hf, hL⟩
theorem St.blkDic {base S n a x : Nat} {w0 w : World} {L : List Asn} {v : Value} (h : St base w0 (Asn.blk S #[v, .int .i64 a, .int .u64 x] 142 :: L) w) (ha : a ≤ n) (hx : x < 18446744073709551616) : St base w0 (Asn.dic S v n :: L) w :=
  ⟨h.bel, h.le, ⟨a, x, h.star.1, ha, hx⟩, h.star.2.1, h.star.2.2⟩
set_option maxHeartbeats 2000000 in
set_option maxRecDepth 100000 in
theorem below_any (w0 : World) (L : List Asn) (w : World) (S : Nat) (v : Value) (l : List Nat) (hv : ArgB w0 v l) (hl : l.length ≤ 4096) (hSb : w0.heap.size ≤ S) (n : Int) (hn : n < 9223372036854775808)
    (hS : St w0.heap.size w0 (Asn.dic S v l.length :: L) w) :
    Calls Tryz.prog 26 #[.pointer (some ⟨S, 0, none⟩), .int .i64 n] w fun e w' => ∃ r : Int, e = .returned (.int .i64 r) ∧ 0 ≤ r ∧ (r < n ∨ r = 0) ∧ St w0.heap.size w0 (Asn.dic S v l.length :: L) w' := by
  have hv' := hid hv
  obtain ⟨A, c, rfl, hA⟩ := hv
  obtain ⟨a, x, ha, hx, hB⟩ := hS.dicBlk
  by_cases h1 : n < 1
  · have d1 : decide (n < 1) = true := decide_eq_true h1
    replace hS := hid hS
    clear hB
    go_enter Tryz.func26, Tryz.ntmps26
    go_wp2
    go_ret
    exact ⟨0, rfl, by omega, .inr rfl, hS.out⟩
  · have d1 : decide (n < 1) = false := decide_eq_false h1
    have c2 := (show w.cell? ⟨S, 2, none⟩ = some (.int .u64 x) from cell_of_row _ _ 2 _ _ _ hB.k0)
    have f2 := frozen_of_row _ _ 2 _ _ hB.k0
    replace hB := hid hB
    clear hS
    go_enter Tryz.func26, Tryz.ntmps26
    go_upto_region 4 with (fail)
    obtain ⟨y, hy, hy2⟩ := u64_nat (IntKind.u64.wrap ((x : Int) * 6364136223846793005) + 1442695040888963407)
    rw [hy]
    clear hy
    replace hB := hid (show St w0.heap.size w0 (Asn.blk S #[.slice A l.length c, .int .i64 a, .int .u64 y] 142 :: L) _ from hB.out.setBlk hSb 2 (.int .u64 y))
    clear c2 f2
    generalize w.setCell _ _ = w1 at *
    have c2 := (show w1.cell? ⟨S, 2, none⟩ = some (.int .u64 y) from cell_of_row _ _ 2 _ _ _ hB.out.k0)
    have c1 := (show w1.cell? ⟨S, 1, none⟩ = some (.int .i64 a) from cell_of_row _ _ 1 _ _ _ hB.out.k0)
    have c0 := (show w1.cell? ⟨S, 0, none⟩ = some (.slice A l.length c) from cell_of_row _ _ 0 _ _ _ hB.out.k0)
    have f1 := frozen_of_row _ _ 1 _ _ hB.out.k0
    go_upto_region 5 with (fail)
    obtain ⟨z, hz, hz2⟩ := and24 y hy2
    rw [hz]
    clear hz
    rw [w64 (show -9223372036854775808 ≤ (z : Int) by omega) (show (z : Int) ≤ 9223372036854775807 by omega)]
    have dz : ¬ n = 0 := by omega
    by_cases hlt : a < l.length
    · have da : decide ((a : Int) < (l.length : Int)) = true := decide_eq_true (by omega)
      obtain ⟨g, rfl, hc⟩ : ∃ g : Addr, A = some g ∧ ∀ i x, l[i]? = some x → x < 256 ∧ w0.cell? (g.add i) = some (.int .u8 (x : Nat)) ∧ (g.add i).block < w0.heap.size := by
        rcases hA with ⟨_, h⟩ | ⟨g, h, hh⟩
        · rw [h] at hlt; simp at hlt
        · exact ⟨g, h, hh⟩
      obtain ⟨b, hb⟩ : ∃ b, l[a]? = some b := ⟨_, List.getElem?_eq_getElem hlt⟩
      obtain ⟨hb1, hb2, hb3⟩ := hc a b hb
      have cb := (hB.out.bel.cell hb3).trans hb2
      have a0 : (0 : Int) ≤ (a : Int) := Int.natCast_nonneg _
      have a1 : (a : Int) < (l.length : Int) := by omega
      have ew : wrap64 ((z : Int) + (b : Int)) = (z : Int) + b := w64 (by omega) (by omega)
      have ew1 : wrap64 ((a : Int) + 1) = (a : Int) + 1 := w64 (by omega) (by omega)
      have ewb : wrap64 (b : Int) = (b : Int) := w64 (by omega) (by omega)
      have hr1 := Int.emod_nonneg ((z : Int) + b) (show n ≠ 0 by omega)
      have hr2 := Int.emod_lt_of_pos ((z : Int) + b) (show 0 < n by omega)
      have m1 : Int.tmod ((z : Int) + (b : Int)) n = ((z : Int) + b) % n := Int.tmod_eq_emod_of_nonneg (Int.add_nonneg (Int.natCast_nonneg _) (Int.natCast_nonneg _))
      clear hA hc hb hb2 hb3
      replace hy2 := hid hy2; replace hx := hid hx; replace hn := hid hn; replace hz2 := hid hz2
      go_quiet (fail)
      go_upto_region 6 with (fail)
      go_quiet (fail)
      rw [ew]
      obtain ⟨w3, hw3, hB3⟩ : ∃ w3, (World.drewN (World.drewN w1 _) nq) = w3 ∧ St w0.heap.size w0 (Asn.blk S #[.slice (some g) l.length c, .int .i64 a, .int .u64 y] 142 :: L) w3 := ⟨_, rfl, (hB.out.drewN _).drewN _⟩
      rw [hw3]
      replace hB := hid hB3
      clear hw3 hB3 c0 c1 c2 f1 cb
      have c1 := (show w3.cell? ⟨S, 1, none⟩ = some (.int .i64 a) from cell_of_row _ _ 1 _ _ _ hB.out.k0)
      have f1 := frozen_of_row _ _ 1 _ _ hB.out.k0
      go_upto_region 8 with (fail)
      replace hB := hid (show St w0.heap.size w0 (Asn.blk S #[.slice (some g) l.length c, .int .i64 ((a : Int) + 1), .int .u64 y] 142 :: L) _ from hB.out.setBlk hSb 1 (.int .i64 ((a : Int) + 1)))
      generalize w3.setCell _ _ = w4 at *
      have ea : (a : Int) + 1 = ((a + 1 : Nat) : Int) := rfl
      rw [ea] at hB
      clear c1 f1 ew ew1 ewb
      go_wp2
      go_ret
      exact ⟨((z : Int) + b) % n, by first | rfl | (rw [m1]), hr1, .inl hr2, (hB.out.blkDic (by omega) hy2.out)⟩
    · have da : decide ((a : Int) < (l.length : Int)) = false := decide_eq_false (by omega)
      have hr1 := Int.emod_nonneg (z : Int) (show n ≠ 0 by omega)
      have hr2 := Int.emod_lt_of_pos (z : Int) (show 0 < n by omega)
      have m1 : Int.tmod (z : Int) n = (z : Int) % n := Int.tmod_eq_emod_of_nonneg (Int.natCast_nonneg _)
      go_quiet (fail)
      go_wp2
      go_ret
      exact ⟨(z : Int) % n, by first | rfl | (rw [m1]), hr1, .inl hr2, ((hB.out.drewN _).blkDic ha hy2)⟩
theorem built_dice (A : Option Addr) (n c : Nat) (x : Int) : Tryz.prog.built 142 [(0, .slice A n c), (2, .int .u64 x)] = some #[.slice A n c, .int .i64 0, .int .u64 x] := by kernel_rfl
set_option maxHeartbeats 2000000 in
set_option maxRecDepth 100000 in
theorem roll_any (w : World) (v : Value) (l : List Nat) (hv : ArgB w v l) (hl : l.length ≤ 4096) (sd : Int) :
    Calls Tryz.prog 25 #[v, .int .u64 sd] w fun e w' => e = .returned (.pointer (some ⟨w.heap.size, 0, none⟩)) ∧ St w.heap.size w [Asn.dic w.heap.size v l.length] w' := by
  have hv' := hid hv
  obtain ⟨A, c, rfl, hA⟩ := hv
  have hbs := fun (x : Int) => built_dice A l.length c x
  have hby := hid (fun i (hi : i < l.length) => (show ∃ (g : Addr) (b : Nat), A = some g ∧ b < 256 ∧ w.cell? (g.add i) = some (.int .u8 (b : Nat)) ∧ (g.add i).block < w.heap.size from by
    rcases hA with ⟨_, h⟩ | ⟨g, h, hh⟩
    · rw [h] at hi; simp at hi
    · obtain ⟨h1, h2, h3⟩ := hh i _ (List.getElem?_eq_getElem hi)
      exact ⟨g, _, h, h1, h2, h3⟩))
  clear hA
  have hux := hid u64_nat
  generalize hn : l.length = n at *
  go_enter Tryz.func25, Tryz.ntmps25
  go_upto_region 2 with (fail)
  obtain ⟨y0, hy0, hy02⟩ := hux.out (IntKind.u64.wrap (sd * 6257) + (n : Int))
  rw [hy0]
  have hS1 := hid ((show St w.heap.size w [Asn.blk w.heap.size #[.slice A n c, .int .i64 ((0 : Nat) : Int), .int .u64 ((y0 : Nat) : Int)] 142] _ from (St.start w).newBlk #[.slice A n c, .int .i64 0, .int .u64 (y0 : Nat)] 142).blkDic (n := n) (Nat.zero_le _) hy02)
  generalize World.alloc w _ = w1 at *
  clear hbs hy0
  replace hy02 := hid hy02
  go_wp2
  go_loopw [6] (fun i wr => ∃ k : Nat, k ≤ n ∧ i = .int .i64 k ∧ St w.heap.size w [Asn.dic w.heap.size (.slice A n c) n] wr) (fun i _ => n - (intOf i).toNat)
  case atStart => exact ⟨0, Nat.zero_le _, rfl, hS1.out⟩
  case round =>
    obtain ⟨k, hk, rfl, rS⟩ := hrel
    clear hS1
    by_cases hlt : k < n
    · have dk : decide ((k : Int) < (n : Int)) = true := decide_eq_true (by omega)
      obtain ⟨a, x, ha, hx, hB⟩ := rS.dicBlk
      obtain ⟨g, b, rfl, hb, hb2, hb3⟩ := hby.out k hlt
      have cb := (hB.bel.cell hb3).trans hb2
      have c2 := (show wr.cell? ⟨w.heap.size, 2, none⟩ = some (.int .u64 x) from cell_of_row _ _ 2 _ _ _ hB.k0)
      have f2 := frozen_of_row _ _ 2 _ _ hB.k0
      have k0 : (0 : Int) ≤ (k : Int) := Int.natCast_nonneg _
      have k1 : (k : Int) < (n : Int) := by omega
      replace hB := hid hB; replace hx := hid hx
      clear rS hb2 hb3
      go_upto_region 5 with (fail)
      go_region
      obtain ⟨y, hy, hy2⟩ := u64_nat (IntKind.u64.wrap (IntKind.u64.wrap ((x : Int) * 1099511628211) + (b : Int)) + 5)
      rw [hy]
      replace hB := hid ((show St w.heap.size w [Asn.blk w.heap.size #[.slice (some g) n c, .int .i64 a, .int .u64 y] 142] _ from hB.out.setBlk (Nat.le_refl _) 2 (.int .u64 y)).drew)
      generalize World.drew _ = w5 at *
      clear hy c2 f2 cb
      replace hy2 := hid hy2
      go_wp2
      go_roundw
      case rel => exact ⟨k + 1, by omega, by go_num, hB.out.blkDic ha hy2.out⟩
      case measure => simp [intOf]; omega
    · obtain rfl : k = n := by omega
      have dk : decide ((k : Int) < (k : Int)) = false := decide_eq_false (by omega)
      replace rS := hid rS
      go_wp2
      go_ret
      exact ⟨rfl, rS.out⟩
end Go.Proofs.YthmcdfjijkecfaaGreat

/- Equal lists of numbers, sums, words of dice. -/
namespace Go.Proofs.YthmcdfjijkecfaaGreat
open Go.RowKit
set_option linter.unusedVariables false
set_option linter.unusedSimpArgs false
-- @LONG

set_option maxHeartbeats 2000000 in
set_option maxRecDepth 100000 in
theorem likeInts_any (w : World) (b1 b2 : Nat) (v1 v2 : Value) (M : List Int) (h1 : Own w b1 2 v1 (ints M)) (h2 : Own w b2 2 v2 (ints M)) (hl : M.length ≤ 1000000) :
    Calls Tryz.prog 18 #[v1, v2] w fun e w' => e = .returned (.bool true) ∧ Below w.heap.size w w' := by
  obtain ⟨A1, c1, rfl, _, hA1⟩ := h1.form
  obtain ⟨A2, c2, rfl, _, hA2⟩ := h2.form
  rw [ints_length] at *
  have hg := hid (fun k (hk : k < M.length) => (show ∃ (x : Int) (g1 g2 : Nat), A1 = some ⟨g1, 0, none⟩ ∧ A2 = some ⟨g2, 0, none⟩ ∧ w.cell? ⟨g1, k, none⟩ = some (.int .i64 x) ∧ w.cell? ⟨g2, k, none⟩ = some (.int .i64 x) ∧ g1 < w.heap.size ∧ g2 < w.heap.size from by
    have hx : (ints M)[k]? = some (.int .i64 M[k]) := by simp [ints, hk]
    rcases hA1 with ⟨_, h, _⟩ | ⟨g1, e1, _, l1, q1⟩
    · rw [h] at hx; simp at hx
    · rcases hA2 with ⟨_, h, _⟩ | ⟨g2, e2, _, l2, q2⟩
      · rw [h] at hx; simp at hx
      · exact ⟨_, g1, g2, e1, e2, q1 k _ hx, q2 k _ hx, l1, l2⟩))
  clear hA1 hA2 h1 h2
  generalize M.length = n at *
  go_enter Tryz.func18, Tryz.ntmps18
  go_wp2
  go_loopw [5] (fun i wr => ∃ k : Nat, k ≤ n ∧ i = .int .i64 k ∧ Below w.heap.size w wr) (fun i _ => n - (intOf i).toNat)
  case atStart => exact ⟨0, Nat.zero_le _, rfl, Below.refl _ _⟩
  case round =>
    obtain ⟨k, hk, rfl, rB⟩ := hrel
    by_cases hlt : k < n
    · have dk : decide ((k : Int) < (n : Int)) = true := decide_eq_true (by omega)
      obtain ⟨x, g1, g2, rfl, rfl, q1, q2, l1, l2⟩ := hg.out k hlt
      have d1 := (rB.cell (p := ⟨g1, k, none⟩) l1).trans q1
      have d2 := (rB.cell (p := ⟨g2, k, none⟩) l2).trans q2
      have k0 : (0 : Int) ≤ (k : Int) := Int.natCast_nonneg _
      have k1 : (k : Int) < (n : Int) := by omega
      replace rB := hid rB
      go_upto_region 6 with (fail)
      go_quiet (fail)
      go_wp2
      go_roundw
      case rel => exact ⟨k + 1, by omega, by go_num, below_drewN rB.out _⟩
      case measure => simp [intOf]; omega
    · obtain rfl : k = n := by omega
      have dk : decide ((k : Int) < (k : Int)) = false := decide_eq_false (by omega)
      go_wp2
      go_ret
      exact ⟨rfl, rB⟩
set_option maxHeartbeats 4000000 in
set_option maxRecDepth 100000 in
theorem rows_any (w : World) (b1 b2 : Nat) (v1 v2 : Value) (M : List (List Int)) (h1 : Mat w b1 v1 M) (h2 : Mat w b2 v2 M) (hl : M.length ≤ 1000) (hr : ∀ r ∈ M, r.length ≤ 1000) :
    Calls Tryz.prog 34 #[v1, v2] w fun e w' => e = .returned (.bool true) ∧ Below w.heap.size w w' := by
  have hcell := fun (v : Value) (b : Nat) (h : Mat w b v M) => hid (fun (j : Nat) (x : List Int) (hx : M[j]? = some x) => (show ∃ ga, v = .slice (some ⟨ga, 0, none⟩) M.length (match v with | .slice _ _ c => c | _ => 0) ∧ ∀ W, Below w.heap.size w W → ∃ r, W.cell? ⟨ga, j, none⟩ = some r ∧ Own W b 2 r (ints x) from by
    obtain ⟨ga, ca, rfl, _⟩ := h.blk (fun e => by rw [e] at hx; simp at hx)
    exact ⟨ga, rfl, fun W hW => (h.below hW).row j x hx⟩))
  have hc1 := hcell v1 b1 h1
  have hc2 := hcell v2 b2 h2
  clear hcell
  have heq := hid (fun W b1 b2 r1 r2 x (hx : x ∈ M) (hO1 : Own W b1 2 r1 (ints x)) (hO2 : Own W b2 2 r2 (ints x)) => likeInts_any W b1 b2 r1 r2 x hO1 hO2 (by have := hr x hx; omega))
  obtain ⟨A1, cp1, rfl⟩ := h1.form
  obtain ⟨A2, cp2, rfl⟩ := h2.form
  dsimp only at hc1 hc2
  have hget := hid (fun j (hj : j < M.length) => (show ∃ x, M[j]? = some x from ⟨_, List.getElem?_eq_getElem hj⟩))
  clear h1 h2 hr
  generalize hN : M.length = N at *
  replace hN := hid hN
  go_enter Tryz.func34, Tryz.ntmps34
  go_wp2
  go_loopw [5] (fun i wr => ∃ k : Nat, k ≤ N ∧ i = .int .i64 k ∧ Below w.heap.size w wr) (fun i _ => N - (intOf i).toNat)
  case atStart => exact ⟨0, Nat.zero_le _, rfl, Below.refl _ _⟩
  case round =>
    obtain ⟨k, hk, rfl, rB⟩ := hrel
    by_cases hlt : k < N
    · have dk : decide ((k : Int) < (N : Int)) = true := decide_eq_true (by omega)
      obtain ⟨x, hx⟩ := hget.out k hlt
      obtain ⟨g1, e1, hr1⟩ := hc1.out k x hx
      obtain ⟨g2, e2, hr2⟩ := hc2.out k x hx
      obtain rfl : A1 = some ⟨g1, 0, none⟩ := by injection e1
      obtain rfl : A2 = some ⟨g2, 0, none⟩ := by injection e2
      have hxm := List.mem_of_getElem? hx
      have k0 : (0 : Int) ≤ (k : Int) := Int.natCast_nonneg _
      have k1 : (k : Int) < (N : Int) := by omega
      obtain ⟨r1, q1, o1⟩ := hr1 wr.drew rB.drew
      obtain ⟨r2, q2, o2⟩ := hr2 wr.drew rB.drew
      have heqk := hid (fun W (hW : Below wr.drew.heap.size wr.drew W) => heq.out W b1 b2 r1 r2 x hxm (o1.below hW) (o2.below hW))
      clear hx hxm e1 e2 hr1 hr2 o1 o2
      replace rB := hid rB
      go_upto_region 6 with (fail)
      replace rB := hid rB.out.drew
      have hbr := hid (Below.refl wr.drew.heap.size wr.drew)
      refine wp_region_heldL (L := [(8, (fun w' : World => w'.cell? ⟨g1, k, none⟩ = some r1 ∧ w'.cell? ⟨g2, k, none⟩ = some r2))]) (by kernel_rfl) (HeldL.cons (fun _ => ⟨q1, q2⟩) HeldL.nil) (fun hHeld => ?_)
      generalize wr.drew = wa at *
      clear q1 q2
      refine wpAnyL_take0 (i := 0) (v := ?_) rfl (by kernel_rfl) (by kernel_rfl) (by kernel_rfl) (by rfl) (fun _ _ _ h => h) (Or.inl ⟨by rfl, ?_⟩) (by assumption) ?_
      rotate_left
      · (intro W _; go_simp; (with_reducible rfl))
      intro hHeld'
      clear hHeld; have hHeld := hHeld'; clear hHeld'
      try simp only [Act.put, List.getElem_toArray, List.getElem_cons_succ, List.getElem_cons_zero, List.setIfInBounds_toArray, List.set_cons_zero, List.set_cons_succ]
      refine wpAnyL_take0 (i := 1) (v := ?_) rfl (by kernel_rfl) (by kernel_rfl) (by kernel_rfl) (by rfl) (fun _ _ _ h => h) (Or.inl ⟨by rfl, ?_⟩) (by assumption) ?_
      rotate_left
      · (intro W _; go_simp; (with_reducible rfl))
      intro hHeld'
      clear hHeld; have hHeld := hHeld'; clear hHeld'
      try simp only [Act.put, List.getElem_toArray, List.getElem_cons_succ, List.getElem_cons_zero, List.setIfInBounds_toArray, List.set_cons_zero, List.set_cons_succ]
      refine wpAnyL_take0 (i := 2) (v := ?_) rfl (by kernel_rfl) (by kernel_rfl) (by kernel_rfl) (by rfl) (fun _ _ _ h => h) (Or.inl ⟨by rfl, ?_⟩) (by assumption) ?_
      rotate_left
      · (intro W _; go_simp; (with_reducible rfl))
      intro hHeld'
      clear hHeld; have hHeld := hHeld'; clear hHeld'
      try simp only [Act.put, List.getElem_toArray, List.getElem_cons_succ, List.getElem_cons_zero, List.setIfInBounds_toArray, List.set_cons_zero, List.set_cons_succ]
      refine wpAnyL_takeP (i := 3) 8 [] (v := ?_) (fun w' : World => w'.cell? ⟨g1, k, none⟩ = some r1 ∧ w'.cell? ⟨g2, k, none⟩ = some r2) rfl (by kernel_rfl) (by kernel_rfl) (by kernel_rfl) (by rfl) (by kernel_rfl) (by simp) (fun _ _ _ h => h) (Or.inl ⟨by rfl, ?_⟩) (by assumption) ?_
      rotate_left
      · (intro W hW; (obtain ⟨hW, _⟩ := hW); go_simp; (with_reducible rfl))
      intro hHeld'
      clear hHeld; have hHeld := hHeld'; clear hHeld'
      try simp only [Act.put, List.getElem_toArray, List.getElem_cons_succ, List.getElem_cons_zero, List.setIfInBounds_toArray, List.set_cons_zero, List.set_cons_succ]
      refine wpAnyL_take0 (i := 4) (v := ?_) rfl (by kernel_rfl) (by kernel_rfl) (by kernel_rfl) (by rfl) (fun _ _ _ h => h) (Or.inl ⟨by rfl, ?_⟩) (by assumption) ?_
      rotate_left
      · (intro W _; go_simp; (with_reducible rfl))
      intro hHeld'
      clear hHeld; have hHeld := hHeld'; clear hHeld'
      try simp only [Act.put, List.getElem_toArray, List.getElem_cons_succ, List.getElem_cons_zero, List.setIfInBounds_toArray, List.set_cons_zero, List.set_cons_succ]
      refine wpAnyL_take0 (i := 5) (v := ?_) rfl (by kernel_rfl) (by kernel_rfl) (by kernel_rfl) (by rfl) (fun _ _ _ h => h) (Or.inl ⟨by rfl, ?_⟩) (by assumption) ?_
      rotate_left
      · (intro W _; go_simp; (with_reducible rfl))
      intro hHeld'
      clear hHeld; have hHeld := hHeld'; clear hHeld'
      try simp only [Act.put, List.getElem_toArray, List.getElem_cons_succ, List.getElem_cons_zero, List.setIfInBounds_toArray, List.set_cons_zero, List.set_cons_succ]
      refine wpAnyL_take0 (i := 6) (v := ?_) rfl (by kernel_rfl) (by kernel_rfl) (by kernel_rfl) (by rfl) (fun _ _ _ h => h) (Or.inl ⟨by rfl, ?_⟩) (by assumption) ?_
      rotate_left
      · (intro W _; go_simp; (with_reducible rfl))
      intro hHeld'
      clear hHeld; have hHeld := hHeld'; clear hHeld'
      try simp only [Act.put, List.getElem_toArray, List.getElem_cons_succ, List.getElem_cons_zero, List.setIfInBounds_toArray, List.set_cons_zero, List.set_cons_succ]
      refine wpAnyL_takeP (i := 7) 8 [] (v := ?_) (fun w' : World => w'.cell? ⟨g1, k, none⟩ = some r1 ∧ w'.cell? ⟨g2, k, none⟩ = some r2) rfl (by kernel_rfl) (by kernel_rfl) (by kernel_rfl) (by rfl) (by kernel_rfl) (by simp) (fun _ _ _ h => h) (Or.inl ⟨by rfl, ?_⟩) (by assumption) ?_
      rotate_left
      · (intro W hW; (obtain ⟨_, hW⟩ := hW); go_simp; (with_reducible rfl))
      intro hHeld'
      clear hHeld; have hHeld := hHeld'; clear hHeld'
      try simp only [Act.put, List.getElem_toArray, List.getElem_cons_succ, List.getElem_cons_zero, List.setIfInBounds_toArray, List.set_cons_zero, List.set_cons_succ]
      refine wpAnyL_ready (rs := [8]) (by kernel_rfl) (by simp) ?_
      refine AllReadyL.cons rfl (fun K hK => ?_) AllReadyL.nil
      go_simp
      (with_reducible refine (heqk.out _ hbr.out).mono ?_)
      rintro e w3 ⟨rfl, hb⟩
      replace rB := hid (rB.out.trans (hb.mono rB.out.size))
      clear hb hbr heqk
      go_simp
      refine hK.out _ _ (HeldL.cons (fun h => absurd h (by decide +kernel)) HeldL.nil) (fun hHeld' => ?_)
      clear hK K hHeld; have hHeld := hHeld'; clear hHeld'
      try simp only [Act.put, List.getElem_toArray, List.getElem_cons_succ, List.getElem_cons_zero, List.setIfInBounds_toArray, List.set_cons_zero, List.set_cons_succ]
      refine wpAnyL_take0 (i := 9) (v := ?_) rfl (by kernel_rfl) (by kernel_rfl) (by kernel_rfl) (by rfl) (fun _ _ _ h => h) (Or.inl ⟨by rfl, ?_⟩) (by assumption) ?_
      rotate_left
      · (intro W _; go_simp; (with_reducible rfl))
      intro hHeld'
      clear hHeld; have hHeld := hHeld'; clear hHeld'
      try simp only [Act.put, List.getElem_toArray, List.getElem_cons_succ, List.getElem_cons_zero, List.setIfInBounds_toArray, List.set_cons_zero, List.set_cons_succ]
      refine wpAnyL_done (by kernel_rfl) ?_ _
      go_wp2
      go_roundw
      case rel => exact ⟨k + 1, by omega, by go_num, rB.out⟩
      case measure => simp [intOf]; omega
    · obtain rfl : k = N := by omega
      have dk : decide ((k : Int) < (k : Int)) = false := decide_eq_false (by omega)
      go_wp2
      go_ret
      exact ⟨rfl, rB⟩
set_option maxHeartbeats 1000000 in
set_option maxRecDepth 100000 in
theorem sum_any (w : World) (b1 : Nat) (v1 : Value) (M : List Int) (h1 : Own w b1 2 v1 (ints M)) (hl : M.length ≤ 100000) (hr : ∀ x ∈ M, 0 ≤ x ∧ x ≤ 1000000000) :
    Calls Tryz.prog 72 #[v1] w fun e w' => e = .returned (.int .i64 M.sum) ∧ w = w' := by
  obtain ⟨A1, c1, rfl, _, hA1⟩ := h1.form
  rw [ints_length] at *
  have hg := hid (fun k (hk : k < M.length) => (show ∃ (x : Int) (g1 : Nat), A1 = some ⟨g1, 0, none⟩ ∧ M[k]? = some x ∧ w.cell? ⟨g1, k, none⟩ = some (.int .i64 x) ∧ (M.take (k + 1)).sum = (M.take k).sum + x from by
    have hx : (ints M)[k]? = some (.int .i64 M[k]) := by simp [ints, hk]
    have hy : M[k]? = some M[k] := List.getElem?_eq_getElem hk
    rcases hA1 with ⟨_, h, _⟩ | ⟨g1, e1, _, l1, q1⟩
    · rw [h] at hx; simp at hx
    · exact ⟨_, g1, e1, hy, q1 k _ hx, by rw [List.take_add_one, hy, List.sum_append]; simp⟩))
  have hbd := hid (fun k (hk : k ≤ M.length) => (show 0 ≤ (M.take k).sum ∧ (M.take k).sum ≤ k * 1000000000 from by
    induction k with
    | zero => simp
    | succ k ih =>
      obtain ⟨x, _, _, hx, _, e⟩ := hg.out k (by omega)
      have h1 := hr x (List.mem_of_getElem? hx)
      have h2 := ih (by omega)
      rw [e]; omega))
  have hfu := hid (show M.sum = (M.take M.length).sum by rw [List.take_length])
  rw [hfu.out]
  obtain ⟨F, hF⟩ : ∃ F : Nat → Int, F = fun k => (M.take k).sum := ⟨_, rfl⟩
  have hF' := hid (fun k => (show (M.take k).sum = F k by rw [hF]))
  have hF0 := hid (show F 0 = 0 by rw [hF]; rfl)
  simp only [hF'.out] at hg hbd ⊢
  clear hA1 h1 hfu hF hr
  generalize M.length = n at *
  go_enter Tryz.func72, Tryz.ntmps72
  go_wp2
  go_loop [3, 4] (fun s i => ∃ k : Nat, k ≤ n ∧ i = .int .i64 k ∧ s = .int .i64 (F k)) (fun _ i => n - (intOf i).toNat)
  case atStart => exact ⟨0, Nat.zero_le _, rfl, by rw [hF0.out]⟩
  case round =>
    obtain ⟨k, hk, rfl, rfl⟩ := hrel
    by_cases hlt : k < n
    · have dk : decide ((k : Int) < (n : Int)) = true := decide_eq_true (by omega)
      obtain ⟨x, g1, rfl, _, q1, e⟩ := hg.out k hlt
      have k0 : (0 : Int) ≤ (k : Int) := Int.natCast_nonneg _
      have k1 : (k : Int) < (n : Int) := by omega
      have h2 := hbd.out (k + 1) hlt
      have ew : wrap64 (F k + x) = F k + x := by rw [← e]; exact w64 (by omega) (by omega)
      replace e := hid e; replace h2 := hid h2
      go_wp2
      go_round
      case rel => exact ⟨k + 1, by omega, by go_num, by rw [e.out]; first | rfl | (rw [ew]) | (rw [IntWalk.i64_in _ (by have := h2.out; rw [e.out] at this; omega)])⟩
      case measure => simp [intOf]; omega
    · obtain rfl : k = n := by omega
      have dk : decide ((k : Int) < (k : Int)) = false := decide_eq_false (by omega)
      go_wp2
      go_ret
      exact ⟨rfl, rfl⟩
set_option maxHeartbeats 2000000 in
set_option maxRecDepth 100000 in
theorem word5_any (w : World) (v : Value) (l : List Nat) (hv : ArgB w v l) (hl : l.length ≤ 4096) (d n : Nat) (hd1 : 1 ≤ d) (hd : d ≤ 3) (hn : n ≤ 40) :
    Calls Tryz.prog 46 #[v, .int .i64 d, .int .i64 n] w fun e w' => ∃ u : List Nat, e = .returned (.string (wstr u)) ∧ u.length = n ∧ (∀ x ∈ u, x < d) ∧ Below w.heap.size w w' := by
  have hro := hid (roll_any w v l hv hl 1701)
  have hN := hid (fun W L hW => below_any w L W w.heap.size v l hv hl (Nat.le_refl _) (d : Int) (by omega) hW)
  replace hv := hid hv
  obtain ⟨A, c, rfl, _⟩ := hv.out
  go_enter Tryz.func46, Tryz.ntmps46
  go_upto_region 2 with (first
    | (go_at_call 25; (with_reducible refine (hro.out).mono ?_); rintro e w1 ⟨rfl, hS⟩; replace hS := hid hS))
  have hS0 := hid ((hS.out.newOwn [] 5 (by simp)).f1)
  clear hS
  go_wp2
  go_loopw [2, 8] (fun i o wr => ∃ (u : List Nat) (k : Nat), i = .int .i64 k ∧ u.length + k = n ∧ Hid (∀ x ∈ u, x < d) ∧ St w.heap.size w [Asn.dic w.heap.size (.slice A l.length c) l.length, Asn.own w.heap.size 5 o (wb u)] wr) (fun i _ _ => (intOf i).toNat)
  case atStart => exact ⟨[], n, rfl, by simp, hid (fun x hx => by cases hx), hS0.out⟩
  case round =>
    obtain ⟨u, k, rfl, hk3, hu, rS⟩ := hrel
    clear hS0
    replace rS := hid rS
    by_cases hlt : 0 < k
    · have dk : decide (0 < (k : Int)) = true := decide_eq_true (by omega)
      have hul : u.length ≤ 40 := by omega
      go_wp2_with (first
        | (go_at_call 26; (with_reducible refine (hN.out _ _ rS.out).mono ?_); rintro e w1 ⟨x, rfl, hx0, hx, hS'⟩; obtain ⟨x, rfl⟩ := Int.eq_ofNat_of_zero_le hx0; (have hx3 : x < d := by omega); (have e1 : wrap64 (48 + (x : Int)) = 48 + (x : Int) := w64 (by omega) (by omega)); replace rS := hid hS'.f1; clear hS' hx hN hx0)
        | ((with_reducible refine gate (N := 23) rfl ?_); (refine St.app 22 5 (.int .u8 0) 1 Tryz.underlying22 info_u8 rfl (by omega) rfl _ _ rfl _ _ rfl rS.out (.int .u8 (48 + (x : Int))) rfl rfl u.length (wb_length u) (by omega) ?_; intro gn cap w2 hO2; replace rS := hid hO2.f1; clear hO2)))
      all_goals go_roundw
      all_goals first
        | (exact ⟨u ++ [x], k - 1, i64_eq (by omega), by simp; omega, hid (fun y hy => (List.mem_append.1 hy).elim (hu.out y) fun hy => by rw [List.mem_singleton.1 hy]; exact hx3), by rw [wb_snoc]; exact rS.out⟩)
        | (simp only [intOf]; omega)
    · obtain rfl : k = 0 := by omega
      have hconv := rS.out.o1.conv
      have hun : u.length = n := by omega
      go_wp2
      go_ret
      exact ⟨u, rfl, hun, hu.out, rS.out.bel⟩
end Go.Proofs.YthmcdfjijkecfaaGreat
