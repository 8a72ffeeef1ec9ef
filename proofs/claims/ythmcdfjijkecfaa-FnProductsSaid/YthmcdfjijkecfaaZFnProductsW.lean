/- What the proof of FnProducts leans on, part 23 of 25. -/
import Derived.Test.YthmcdfjijkecfaaZFnProductsV
import Derived.Laws.CopyOwn
import Derived.Laws.MakeOwn
/- copy of elements of any size, between rows. -/
namespace Go.Proofs.Ythmcdfjijkecfaa
open Go.RowKit
set_option linter.unusedVariables false
set_option linter.unusedSimpArgs false

/-- As many elements as the shorter of the two has go over, sz cells each. -/
theorem run_copy_N {P : Program} (w : World) (dT sT ty elem : TypeId) (sz g o dLen dCap : Nat) (a : Addr) (sLen sCap : Nat) (cur : Array Value) (t : TypeId) (cs : List Value)
    (hu : P.underlying dT = some (.slice elem)) (hs : (P.info? elem).map (·.size) = some sz)
    (hg : w.heap[g]? = some (.cells cur t (0, 0))) (hn : cs.length = Nat.min sLen dLen * sz)
    (hsrc : ∀ j v, cs[j]? = some v → w.cell? (a.add j) = some v) (hfit : o + cs.length ≤ cur.size) (h1 : ∀ v ∈ cs, v.oneCell' = true) :
    (Builtin.copy_ #[dT, sT] ty #[.slice (some ⟨g, o, none⟩) dLen dCap, .slice (some a) sLen sCap]).run P w =
      .ok (goInt (Nat.min sLen dLen)) (w.setRow g (cur.toList.take o ++ cs ++ cur.toList.drop (o + cs.length)).toArray) := by
  have hl := run_loadCells_list (P := P) w a cs hsrc
  have hst := run_storeCells_at P g o t cs 0 cur w hg (by simpa using hfit) h1
  cases hq : P.info? elem with
  | none => simp [hq] at hs
  | some i =>
    have hi : i.size = sz := by simpa [hq] using hs
    rw [hn] at hl
    simp [Builtin.copy_, run_underlying hu, Builtin.lenOf, Builtin.firstCells, sizeOf, typeInfo, hq, hi, hl, hst]

/-- .. as a law for the walk. -/
theorem wpList_copy_N {P : Program} {w : World} {ops : Array Oper} {rest : List Oper} {o : Oper} {a : Act} {Q : Exit → Act → World → Prop} (hgd : o.guard = none) (d s : Operand) (dT sT : TypeId)
    (ho : o.op = .call { callee := .builtin .copy, args := #[d, s], argTypes := #[dT, sT] }) (elem : TypeId) (sz : Nat) (hu : P.underlying dT = some (.slice elem)) (hsz : (P.info? elem).map (·.size) = some sz)
    (g off dLen dCap : Nat) (ad : Addr) (sLen sCap : Nat) (hd : a.eval d = .slice (some ⟨g, off, none⟩) dLen dCap) (hs : a.eval s = .slice (some ad) sLen sCap)
    (cur : List Value) (t : TypeId) (hg : w.heap[g]? = some (.cells cur.toArray t (0, 0))) (cs : List Value) (hn : cs.length = Nat.min sLen dLen * sz)
    (hsrc : ∀ j v, cs[j]? = some v → w.cell? (ad.add j) = some v) (hfit : off + cs.length ≤ cur.length) (h1 : ∀ v ∈ cs, v.oneCell' = true)
    (h : wpList P ops Q rest (a.put o.dst (goInt (Nat.min sLen dLen))) (w.setRow g (splice cur off cs).toArray)) : wpList P ops Q (o :: rest) a w := by
  refine wpList_plain hgd fun K hK => ?_
  have hrun := run_copy_N (P := P) w dT sT o.type elem sz g off dLen dCap ad sLen sCap cur.toArray t cs hu hsz hg hn hsrc (by simpa using hfit) h1
  unfold Oper.wp
  simp [execOp, ho, resolve, invoke, builtin, hd, hs, hrun, Result.andThen]
  have e : w.setRow g (splice cur off cs).toArray = w.setRow g (List.take off cur ++ (cs ++ List.drop (off + cs.length) cur)).toArray := rfl
  first
    | exact hK _ _ h
    | (rw [e] at h; simpa using hK _ _ h)
end Go.Proofs.Ythmcdfjijkecfaa

/- bits.Mul at 1 and small numbers. -/
namespace Go.Proofs.Ythmcdfjijkecfaa
open Go.RowKit
set_option linter.unusedVariables false
set_option linter.unusedSimpArgs false
set_option maxRecDepth 4000 in
theorem bitsMul64_small (w : World) (n : Nat) (hn : n ≤ 16) :
    Calls Try.prog 259 #[.int .u64 1, .int .u64 n] w fun e w' => e = .returned (.tuple #[.int .u64 0, .int .u64 n]) ∧ w = w' := by
  have h : n = 0 ∨ n = 1 ∨ n = 2 ∨ n = 3 ∨ n = 4 ∨ n = 5 ∨ n = 6 ∨ n = 7 ∨ n = 8 ∨ n = 9 ∨ n = 10 ∨ n = 11 ∨ n = 12 ∨ n = 13 ∨ n = 14 ∨ n = 15 ∨ n = 16 := by omega
  clear hn
  rcases h with rfl | rfl | rfl | rfl | rfl | rfl | rfl | rfl | rfl | rfl | rfl | rfl | rfl | rfl | rfl | rfl | rfl <;>
  · go_enter Try.func259, Try.ntmps259
    go_wp2
    go_ret2
    exact ⟨rfl, rfl⟩
theorem bitsMul_small (w : World) (n : Nat) (hn : n ≤ 16) :
    Calls Try.prog 251 #[.int .u64 1, .int .u64 n] w fun e w' => e = .returned (.tuple #[.int .u64 0, .int .u64 n]) ∧ w = w' := by
  have hm := hid (fun W => bitsMul64_small W n hn)
  have xn : (n : Int) % 18446744073709551616 = n := by omega
  clear hn
  go_enter Try.func251, Try.ntmps251
  go_wp2_with (first
    | (go_at_call 259; (with_reducible refine (hm.out _).mono ?_); rintro e w1 ⟨rfl, rfl⟩))
  go_ret2
  exact ⟨rfl, rfl⟩
end Go.Proofs.Ythmcdfjijkecfaa

/- slices.Repeat of one element, a few times. -/
namespace Go.Proofs.Ythmcdfjijkecfaa
open Go.RowKit
set_option linter.unusedVariables false
set_option linter.unusedSimpArgs false
-- @LONG

/-- The cells cs, n times. -/
def rp (cs : List Value) (n : Nat) : List Value := (List.range (n * cs.length)).map fun j => cs.getD (j % cs.length) undef
theorem rp_length (cs : List Value) (n : Nat) : (rp cs n).length = n * cs.length := by simp [rp]
theorem rp_get (cs : List Value) (n j : Nat) (h : j < n * cs.length) : (rp cs n)[j]? = some (cs.getD (j % cs.length) undef) := by simp [rp, h]
theorem rp_at (cs : List Value) (n i j : Nat) (u : Value) (hi : i < n) (hu : cs[j]? = some u) : (rp cs n)[i * cs.length + j]? = some u := by
  have hj := (List.getElem?_eq_some_iff.1 hu).1
  have h1 : i * cs.length + cs.length ≤ n * cs.length := by rw [← Nat.succ_mul]; exact Nat.mul_le_mul_right _ hi
  rw [rp_get _ _ _ (by omega), Nat.mul_comm i, Nat.mul_add_mod, Nat.mod_eq_of_lt hj, List.getD_eq_getElem?_getD, hu]; rfl
theorem rp_one (cs : List Value) (n : Nat) (h1 : ∀ v ∈ cs, v.oneCell' = true) : ∀ v ∈ rp cs n, v.oneCell' = true := fun v hv => by
  unfold rp at hv
  obtain ⟨j, hj, rfl⟩ := List.mem_map.1 hv
  have hj' := List.mem_range.1 hj
  have hpos : 0 < cs.length := Nat.pos_of_ne_zero (fun e => by rw [e] at hj'; simp at hj')
  have hlt := Nat.mod_lt j hpos
  rw [List.getD_eq_getElem?_getD, List.getElem?_eq_getElem hlt]
  exact h1 _ (List.getElem_mem hlt)
/-- What is in the row when k elements are there. -/
def Rep (cs : List Value) (n k : Nat) (cur : List Value) : Prop := cur.length = n * cs.length ∧ ∀ j, j < k * cs.length → cur[j]? = (rp cs n)[j]?
theorem Rep.all {cs cur : List Value} {n : Nat} (h : Rep cs n n cur) : cur = rp cs n := by
  apply List.ext_getElem?
  intro j
  by_cases hj : j < n * cs.length
  · exact h.2 j hj
  · rw [List.getElem?_eq_none (by rw [h.1]; omega), List.getElem?_eq_none (by rw [rp_length]; omega)]
theorem Rep.step {cs cur : List Value} {n k c : Nat} (h : Rep cs n k cur) (hc : k + c ≤ n) : Rep cs n (k + c) (splice cur (k * cs.length) ((rp cs n).take (c * cs.length))) := by
  have e1 : k * cs.length + c * cs.length = (k + c) * cs.length := (Nat.add_mul _ _ _).symm
  have e2 : (k + c) * cs.length ≤ n * cs.length := Nat.mul_le_mul_right _ hc
  have hl : ((rp cs n).take (c * cs.length)).length = c * cs.length := by rw [List.length_take, rp_length]; omega
  refine ⟨by rw [length_splice _ _ _ (by rw [hl, h.1]; omega)]; exact h.1, fun j hj => ?_⟩
  unfold splice
  have hk : (cur.take (k * cs.length)).length = k * cs.length := by rw [List.length_take, h.1]; omega
  by_cases hj1 : j < k * cs.length
  · rw [List.getElem?_append_left (by omega), List.getElem?_take_of_lt hj1]
    exact h.2 j hj1
  · rw [List.getElem?_append_right (by omega), hk, List.getElem?_append_left (by omega), List.getElem?_take_of_lt (by omega), rp_get _ _ _ (by omega), rp_get _ _ _ (by omega)]
    have e3 : j % cs.length = (j - k * cs.length) % cs.length := by
      conv => lhs; rw [show j = k * cs.length + (j - k * cs.length) by omega, Nat.mul_comm k, Nat.mul_add_mod]
      rw [Nat.mul_comm k]
    rw [e3]
theorem Rep.zero {cs Z : List Value} {n : Nat} (h : Z.length = n * cs.length) : Rep cs n 0 Z := ⟨h, fun j hj => by omega⟩

/-- A part that is one block, its row anew. -/
theorem St.setRow {base bn : Nat} {w0 w : World} {L : List Asn} {cs : Array Value} {t : Nat} (h : St base w0 (Asn.blk bn cs t :: L) w) (hb : base ≤ bn) (cs' : Array Value) : St base w0 (Asn.blk bn cs' t :: L) (w.setRow bn cs') :=
  h.turn (a' := Asn.blk bn cs' t) (setRow_heap w bn _ _ t _ h.star.1) (fun k hk => .inl hk) (fun k hk => (show k = bn from hk) ▸ hb) (below_setRow (Below.refl _ _) hb _)
    fun k _ hk => setRow_other w bn k _ hk
/-- copy as a step of a region that draws. -/
theorem step_copy_N {P : Program} {ops : Array Oper} {o : Oper} {a : Act} {w : World} {K : Act → World → Prop} {Q : Exit → Act → World → Prop} {E : Prop} (hgd : o.guard = none) (d s : Operand) (dT sT : TypeId)
    (ho : o.op = .call { callee := .builtin .copy, args := #[d, s], argTypes := #[dT, sT] }) (elem : TypeId) (sz : Nat) (hu : P.underlying dT = some (.slice elem)) (hsz : (P.info? elem).map (·.size) = some sz)
    (g off dLen dCap : Nat) (ad : Addr) (sLen sCap : Nat) (hd : a.eval d = .slice (some ⟨g, off, none⟩) dLen dCap) (hs : a.eval s = .slice (some ad) sLen sCap)
    (cur : List Value) (t : TypeId) (hg : w.heap[g]? = some (.cells cur.toArray t (0, 0))) (cs : List Value) (hn : cs.length = Nat.min sLen dLen * sz)
    (hsrc : ∀ j v, cs[j]? = some v → w.cell? (ad.add j) = some v) (hfit : off + cs.length ≤ cur.length) (h1 : ∀ v ∈ cs, v.oneCell' = true)
    (h : K (a.put o.dst (goInt (Nat.min sLen dLen))) (w.setRow g (splice cur off cs).toArray)) :
    if Region.wanted o (yielded ops a.tmps) = true then Oper.wp P o a w K Q else E := by
  have hw : Region.wanted o (yielded ops a.tmps) = true := by simp [Region.wanted, hgd]
  rw [if_pos hw]
  have hrun := run_copy_N (P := P) w dT sT o.type elem sz g off dLen dCap ad sLen sCap cur.toArray t cs hu hsz hg hn hsrc (by simpa using hfit) h1
  unfold Oper.wp
  simp [execOp, ho, resolve, invoke, builtin, hd, hs, hrun, Result.andThen]
  have e : w.setRow g (splice cur off cs).toArray = w.setRow g (List.take off cur ++ (cs ++ List.drop (off + cs.length) cur)).toArray := rfl
  first
    | exact h
    | (rw [e] at h; simpa using h)
/-- The numbers of times that are asked for. -/
def Few (n : Nat) : Prop := n ≤ 16 ∨ n = 27 ∨ n = 32 ∨ n = 81

theorem info_factor : (Try.prog.info? 180).map (fun i => (i.zero, i.size, i.bytes)) = some (some (.agg #[.pointer none, .int .i64 0]), 2, 16) := by kernel_rfl
set_option maxHeartbeats 2000000 in
set_option maxRecDepth 4000 in
theorem repFactor_any (w : World) (gs cap n : Nat) (cs : List Value) (hc : cs.length = 2) (h1 : ∀ v ∈ cs, v.oneCell' = true) (hn : n ≤ 16)
    (hsrc : ∀ j v, cs[j]? = some v → w.cell? ⟨gs, j, none⟩ = some v) (hgs : gs < w.heap.size) :
    Calls Try.prog 196 #[.slice (some ⟨gs, 0, none⟩) 1 cap, .int .i64 n] w fun e w' => e = .returned (.slice (some ⟨w.heap.size, 0, none⟩) n n) ∧ St w.heap.size w [Asn.blk w.heap.size (rp cs n).toArray 180] w' := by
  obtain ⟨i, hi, hz0, hz1, hz2⟩ := info_parts info_factor
  have hmk := fun W : World => run_make (P := Try.prog) W 177 180 i _ Try.underlying177 hi hz0 .i64 .i64 n n (by omega) (by omega) (by rw [hz2]; omega) (by omega)
  rw [hz1] at hmk
  simp only [Int.toNat_natCast] at hmk
  obtain ⟨Z, hZ⟩ : ∃ Z : List Value, Z.toArray = madeCells (Value.agg #[.pointer none, .int .i64 0]).cells (n * 2) := ⟨(madeCells (Value.agg #[.pointer none, .int .i64 0]).cells (n * 2)).toList, by simp⟩
  have hZl := hid (show Z.length = n * cs.length by rw [hc, ← List.size_toArray, hZ, size_madeCells])
  rw [← hZ] at hmk
  clear hi hz0 hz1 hz2 hZ
  have hb := hid (fun W => bitsMul_small W n hn)
  have xn : (n : Int) % 18446744073709551616 = n := by omega
  have hS := hid ((St.start w).newBlk Z.toArray 180)
  replace hsrc := hid hsrc; replace h1 := hid h1; replace hc := hid hc
  go_enter Try.func196, Try.ntmps196
  go_upto_region 7 with (first
    | (go_at_call 251; (with_reducible refine (hb.out _).mono ?_); rintro e w1 ⟨rfl, rfl⟩))
  have hpre : Hid (∃ k : Nat, k = Nat.min 1 n ∧ k ≤ n ∧ (0 < n → 0 < k)) := ⟨_, rfl, by simp only [Nat.min_def]; split <;> omega, fun h => by simp only [Nat.min_def]; split <;> omega⟩
  obtain ⟨k0, hk0, hk0n, hk0p⟩ := hpre.out
  replace hk0 := hid hk0
  have pl := hid (show ((rp cs n).take (k0 * cs.length)).length = Nat.min 1 n * 2 by
    have h2 : k0 * cs.length ≤ n * cs.length := Nat.mul_le_mul_right _ hk0n
    rw [List.length_take, rp_length, ← hk0.out, hc.out] at *; omega)
  have psrc := hid (fun (W : World) (hW : Below w.heap.size w W) => (show ∀ j v, ((rp cs n).take (k0 * cs.length))[j]? = some v → W.cell? ((⟨gs, 0, none⟩ : Addr).add j) = some v from fun j v hv => by
    have hj := (List.getElem?_eq_some_iff.1 hv).1
    rw [pl.out, ← hk0.out] at hj
    have h01 : k0 ≤ 1 := by rw [hk0.out]; exact Nat.min_le_left _ _
    have h2 : j < cs.length := by rw [hc.out]; omega
    have h3 : k0 * cs.length ≤ n * cs.length := Nat.mul_le_mul_right _ hk0n
    rw [hc.out] at h3
    rw [List.getElem?_take_of_lt (by rw [hc.out]; omega), rp_get _ _ _ (by rw [hc.out]; omega), Nat.mod_eq_of_lt h2] at hv
    rw [Addr.add_mid, Nat.zero_add]
    refine (hW.cell (p := ⟨gs, j, none⟩) hgs).trans (hsrc.out j v ?_)
    rw [List.getD_eq_getElem?_getD, List.getElem?_eq_getElem h2] at hv
    rw [List.getElem?_eq_getElem h2]; exact hv))
  have pfit := hid (show 0 + ((rp cs n).take (k0 * cs.length)).length ≤ Z.length by
    have h2 : k0 * cs.length ≤ n * cs.length := Nat.mul_le_mul_right _ hk0n
    rw [List.length_take, rp_length, hZl.out]; omega)
  have pone := hid (fun v (hv : v ∈ (rp cs n).take (k0 * cs.length)) => rp_one cs n h1.out v (List.mem_of_mem_take hv))
  go_wp2_with (first
    | ((with_reducible refine gate (N := 33) rfl ?_); refine wpList_copy_N rfl _ _ _ _ rfl 180 2 Try.underlying177 sz_factor w.heap.size 0 n n ⟨gs, 0, none⟩ 1 cap rfl rfl Z _ hS.out.k0 ((rp cs n).take (k0 * cs.length)) pl.out (psrc.out _ hS.out.bel) pfit.out pone.out ?_; replace hS := hid (hS.out.setRow (Nat.le_refl _) (splice Z 0 ((rp cs n).take (k0 * cs.length))).toArray)))
  have hR := hid (show Rep cs n k0 (splice Z 0 ((rp cs n).take (k0 * cs.length))) from by have h := Rep.step (c := k0) (Rep.zero hZl.out) (show 0 + k0 ≤ n by omega); rw [Nat.zero_add, Nat.zero_mul] at h; exact h)
  go_loopw [8] (fun i wr => ∃ (k : Nat) (cur : List Value), k ≤ n ∧ (0 < n → 0 < k) ∧ i = .int .i64 k ∧ Hid (Rep cs n k cur) ∧ St w.heap.size w [Asn.blk w.heap.size cur.toArray 180] wr) (fun i _ => n - (intOf i).toNat)
  case atStart => exact ⟨k0, _, hk0n, hk0p, by rw [hk0.out], hR, hS.out⟩
  case round =>
    obtain ⟨k, cur, hk, hkp, rfl, hR2, rS⟩ := hrel
    clear hS hR pl psrc pfit pone
    replace rS := hid rS
    by_cases hkn : k < n
    · have dc : decide ((k : Int) < (n : Int)) = true := decide_eq_true (by omega)
      have i0 : (0 : Int) ≤ (k : Int) := Int.natCast_nonneg _
      have i1 : (k : Int) ≤ (n : Int) := by omega
      have hnk : ¬ n = k := by omega
      obtain ⟨c, hcc⟩ : ∃ c, c = Nat.min k (n - k) := ⟨_, rfl⟩
      have hcn : k + c ≤ n := by rw [hcc]; show k + min k (n - k) ≤ n; omega
      have hck : c ≤ k := by rw [hcc]; exact Nat.min_le_left _ _
      have hcp : 0 < c := by rw [hcc]; show 0 < min k (n - k); omega
      replace hcc := hid hcc
      have ew : IntKind.i64.wrap ((k : Int) + (c : Int)) = ((k + c : Nat) : Int) := by rw [IntWalk.i64_in _ (by omega)]; rfl
      have m1 : k * cs.length + c * cs.length = (k + c) * cs.length := (Nat.add_mul _ _ _).symm
      have m2 : (k + c) * cs.length ≤ n * cs.length := Nat.mul_le_mul_right _ hcn
      have m3 : c * cs.length ≤ k * cs.length := Nat.mul_le_mul_right _ hck
      replace m1 := hid m1; replace m2 := hid m2; replace m3 := hid m3
      have pl := hid (show ((rp cs n).take (c * cs.length)).length = Nat.min k (n - k) * 2 by rw [List.length_take, rp_length, ← hcc.out, ← hc.out]; have := m1.out; have := m2.out; omega)
      have psrc := hid (fun (W : World) (hW : W.heap[w.heap.size]? = some (.cells cur.toArray 180 (0, 0))) => (show ∀ j v, ((rp cs n).take (c * cs.length))[j]? = some v → W.cell? ((⟨w.heap.size, 0, none⟩ : Addr).add j) = some v from fun j v hv => by
        have hj := (List.getElem?_eq_some_iff.1 hv).1
        rw [List.length_take] at hj
        rw [List.getElem?_take_of_lt (by omega), ← hR2.out.2 j (by have := m3.out; omega)] at hv
        rw [Addr.add_mid, Nat.zero_add, cell_of_row W w.heap.size j _ _ _ hW]
        simpa using hv))
      have pfit := hid (show k * 2 + ((rp cs n).take (c * cs.length)).length ≤ cur.length by rw [List.length_take, rp_length, hR2.out.1, ← hc.out]; have := m1.out; have := m2.out; omega)
      have pone := hid (fun v (hv : v ∈ (rp cs n).take (c * cs.length)) => rp_one cs n h1.out v (List.mem_of_mem_take hv))
      have hR3 := hid (show Rep cs n (k + c) (splice cur (k * 2) ((rp cs n).take (c * cs.length))) from by have h := hR2.out.step hcn; rw [show k * cs.length = k * 2 by rw [hc.out]] at h; exact h)
      go_upto_region 9 with (fail)
      refine wp_region_heldL (L := []) (by kernel_rfl) HeldL.nil (fun hHeld => ?_)
      replace rS := hid rS.out.drew
      generalize wr.drew = wd at *
      refine wpAnyL_take0 (i := 0) (v := ?_) rfl (by kernel_rfl) (by kernel_rfl) (by kernel_rfl) (by rfl) (fun _ _ _ h => h) (Or.inl ⟨by rfl, ?_⟩) (by assumption) ?_
      rotate_left
      · (intro W _; go_simp; (with_reducible rfl))
      intro hHeld'
      clear hHeld; have hHeld := hHeld'; clear hHeld'
      try simp only [Act.put, List.getElem_toArray, List.getElem_cons_succ, List.getElem_cons_zero, List.setIfInBounds_toArray, List.set_cons_zero, List.set_cons_succ]
      refine wpAnyL_take0 (i := 1) (v := ?_) rfl (by kernel_rfl) (by kernel_rfl) (by kernel_rfl) (by rfl) (fun _ _ _ h => h) (Or.inl ⟨by rfl, ?_⟩) (by assumption) ?_
      rotate_left
      · (intro W _; go_simp; (with_reducible rfl))
      intro hHeld'
      clear hHeld; have hHeld := hHeld'; clear hHeld'
      try simp only [Act.put, List.getElem_toArray, List.getElem_cons_succ, List.getElem_cons_zero, List.setIfInBounds_toArray, List.set_cons_zero, List.set_cons_succ]
      refine wpAnyL_take0 (i := 2) (v := ?_) rfl (by kernel_rfl) (by kernel_rfl) (by kernel_rfl) (by rfl) (fun _ _ _ h => h) (Or.inl ⟨by rfl, ?_⟩) (by assumption) ?_
      rotate_left
      · (intro W _; go_simp; (with_reducible rfl))
      intro hHeld'
      clear hHeld; have hHeld := hHeld'; clear hHeld'
      try simp only [Act.put, List.getElem_toArray, List.getElem_cons_succ, List.getElem_cons_zero, List.setIfInBounds_toArray, List.set_cons_zero, List.set_cons_succ]
      refine wpAnyL_take0 (i := 3) (v := ?_) rfl (by kernel_rfl) (by kernel_rfl) (by kernel_rfl) (by rfl) (fun _ _ _ h => h) (Or.inl ⟨by rfl, ?_⟩) (by assumption) ?_
      rotate_left
      · (intro W _; go_simp; (with_reducible rfl))
      intro hHeld'
      clear hHeld; have hHeld := hHeld'; clear hHeld'
      try simp only [Act.put, List.getElem_toArray, List.getElem_cons_succ, List.getElem_cons_zero, List.setIfInBounds_toArray, List.set_cons_zero, List.set_cons_succ]
      refine wpAnyL_take0 (i := 4) (v := ?_) rfl (by kernel_rfl) (by kernel_rfl) (by kernel_rfl) (by rfl) (fun _ _ _ h => h) (Or.inl ⟨by rfl, ?_⟩) (by assumption) ?_
      rotate_left
      · (intro W _; go_simp; (with_reducible rfl))
      intro hHeld'
      clear hHeld; have hHeld := hHeld'; clear hHeld'
      try simp only [Act.put, List.getElem_toArray, List.getElem_cons_succ, List.getElem_cons_zero, List.setIfInBounds_toArray, List.set_cons_zero, List.set_cons_succ]
      refine wpAnyL_take0 (i := 5) (v := ?_) rfl (by kernel_rfl) (by kernel_rfl) (by kernel_rfl) (by rfl) (fun _ _ _ h => h) (Or.inl ⟨by rfl, ?_⟩) (by assumption) ?_
      rotate_left
      · (intro W _; go_simp; (with_reducible rfl))
      intro hHeld'
      clear hHeld; have hHeld := hHeld'; clear hHeld'
      try simp only [Act.put, List.getElem_toArray, List.getElem_cons_succ, List.getElem_cons_zero, List.setIfInBounds_toArray, List.set_cons_zero, List.set_cons_succ]
      refine wpAnyL_take0 (i := 6) (v := ?_) rfl (by kernel_rfl) (by kernel_rfl) (by kernel_rfl) (by rfl) (fun _ _ _ h => h) (Or.inl ⟨by rfl, ?_⟩) (by assumption) ?_
      rotate_left
      · (intro W _; go_simp; (with_reducible rfl))
      intro hHeld'
      clear hHeld; have hHeld := hHeld'; clear hHeld'
      try simp only [Act.put, List.getElem_toArray, List.getElem_cons_succ, List.getElem_cons_zero, List.setIfInBounds_toArray, List.set_cons_zero, List.set_cons_succ]
      refine wpAnyL_ready (rs := [7]) (by kernel_rfl) (by simp) ?_
      refine AllReadyL.cons rfl (fun K hK => ?_) AllReadyL.nil
      refine step_copy_N rfl _ _ _ _ rfl 180 2 Try.underlying177 sz_factor w.heap.size (k * 2) (n - k) (n - k) ⟨w.heap.size, 0, none⟩ k n rfl rfl cur _ rS.out.k0 ((rp cs n).take (c * cs.length)) (by rw [pl.out]) (psrc.out _ rS.out.k0) pfit.out pone.out ?_
      replace rS := hid (rS.out.setRow (Nat.le_refl _) (splice cur (k * 2) ((rp cs n).take (c * cs.length))).toArray)
      generalize wd.setRow w.heap.size (splice cur (k * 2) ((rp cs n).take (c * cs.length))).toArray = we at *
      rw [← hcc.out]
      refine hK.out _ _ (HeldL.nil) (fun hHeld' => ?_)
      clear hK K hHeld; have hHeld := hHeld'; clear hHeld'
      try simp only [Act.put, List.getElem_toArray, List.getElem_cons_succ, List.getElem_cons_zero, List.setIfInBounds_toArray, List.set_cons_zero, List.set_cons_succ]
      refine wpAnyL_take0 (i := 8) (v := ?_) rfl (by kernel_rfl) (by kernel_rfl) (by kernel_rfl) (by rfl) (fun _ _ _ h => h) (Or.inl ⟨by rfl, ?_⟩) (by assumption) ?_
      rotate_left
      · (intro W _; go_simp; (with_reducible rfl))
      intro hHeld'
      clear hHeld; have hHeld := hHeld'; clear hHeld'
      try simp only [Act.put, List.getElem_toArray, List.getElem_cons_succ, List.getElem_cons_zero, List.setIfInBounds_toArray, List.set_cons_zero, List.set_cons_succ]
      refine wpAnyL_take0 (i := 9) (v := ?_) rfl (by kernel_rfl) (by kernel_rfl) (by kernel_rfl) (by rfl) (fun _ _ _ h => h) (Or.inl ⟨by rfl, ?_⟩) (by assumption) ?_
      rotate_left
      · (intro W _; go_simp; (with_reducible rfl))
      intro hHeld'
      clear hHeld; have hHeld := hHeld'; clear hHeld'
      try simp only [Act.put, List.getElem_toArray, List.getElem_cons_succ, List.getElem_cons_zero, List.setIfInBounds_toArray, List.set_cons_zero, List.set_cons_succ]
      refine wpAnyL_done (by kernel_rfl) ?_ _
      go_wp2
      go_roundw
      case rel => exact ⟨k + c, _, hcn, fun _ => by omega, by go_num, hR3, rS.out⟩
      case measure => simp [intOf]; omega
    · obtain rfl : k = n := by omega
      have dc : decide ((k : Int) < (k : Int)) = false := decide_eq_false (by omega)
      have hall := hid hR2.out.all
      go_wp2
      go_ret
      exact ⟨rfl, by rw [← hall.out]; exact rS.out⟩
end Go.Proofs.Ythmcdfjijkecfaa

/- PowerOfState: what the program answers. -/
namespace Go.Proofs.Ythmcdfjijkecfaa
open Go.RowKit
set_option linter.unusedVariables false
set_option linter.unusedSimpArgs false
-- @LONG

theorem St.callBlk {base bn t : Nat} {w0 w w' : World} {L : List Asn} {cs : Array Value} (h : St base w0 L w) (h' : St w.heap.size w [Asn.blk bn cs t] w') (hb : w.heap.size ≤ bn) : St base w0 (Asn.blk bn cs t :: L) w' :=
  h.callPush (a := Asn.blk bn cs t) h'.bel h'.k0 fun k hk => (show k = bn from hk) ▸ hb

set_option maxHeartbeats 4000000 in
set_option maxRecDepth 4000 in
theorem implPow_any (w : World) (m : Mach) (hkm : m.Ok) (q n : Int) :
    Calls Try.prog 85 #[.agg (mcells m), .int .i64 q, .int .i64 n] w fun e w' => e = .returned (.tuple #[.agg (mcells (powAns m q n).1), .int .i64 (powAns m q n).2]) ∧ Below w.heap.size w w' := by
  have hz := zero_mach
  have hS := hid (((St.start w).newMB m 27).newMB ⟨0, 0, fun _ => 0, fun _ => 0⟩ 27)
  rw [heap_alloc_size] at hS
  have hcode := hid (fun W base v h => codeOf_any W m hkm { data := #[] } (by decide) base v [q] h (by simp))
  have hown := hid (hS.out.newOwn [Value.int .i64 q] 2 (by simp))
  simp only [heap_alloc_size] at hown
  rcases codeI_cases m q with h | h | ⟨l, s, q, g, rfl, hq, h⟩
  · rw [powAns_n h (by decide)]
    rw [h] at hcode
    replace hkm := hid hkm; clear h
    generalize hzs : mcells ⟨0, 0, fun _ => 0, fun _ => 0⟩ = zs at *
    replace hzs := hid hzs
    go_enter Try.func85, Try.ntmps85
    go_wp2_with (first
      | ((with_reducible refine gate (N := 10) rfl ?_); refine load_mach rfl _ rfl w.heap.size rfl m hS.out.m1 ?_)
      | (go_at_call 113; (with_reducible refine (hcode.out _ _ _ hown.out.o0).mono ?_); rintro e w1 ⟨rfl, hb⟩; replace hS := hid (hown.out.call hb).drop; clear hcode hown; clear hb)
      | ((with_reducible refine gate (N := 16) rfl ?_); refine build_zero rfl rfl ?_)
      | ((with_reducible refine gateOp (op := .store 27 (.tmp 6) (.tmp 16)) rfl ?_); refine store_mach rfl _ _ rfl (w.heap.size + 1) rfl ⟨0, 0, fun _ => 0, fun _ => 0⟩ rfl 27 _ hS.out.m0 ?_; intro W3 p2 ho hsz hbl; have pB := hid (hbl _ _ (Nat.le_succ _) hS.out.bel); replace p2 := hid p2; clear ho hsz hbl))
    exact ret_mach_i rfl rfl rfl p2.out rfl ⟨by rw [hzs.out], pB.out⟩
  · rw [powAns_n h (by decide)]
    rw [h] at hcode
    replace hkm := hid hkm; clear h
    generalize hzs : mcells ⟨0, 0, fun _ => 0, fun _ => 0⟩ = zs at *
    replace hzs := hid hzs
    go_enter Try.func85, Try.ntmps85
    go_wp2_with (first
      | ((with_reducible refine gate (N := 10) rfl ?_); refine load_mach rfl _ rfl w.heap.size rfl m hS.out.m1 ?_)
      | (go_at_call 113; (with_reducible refine (hcode.out _ _ _ hown.out.o0).mono ?_); rintro e w1 ⟨rfl, hb⟩; replace hS := hid (hown.out.call hb).drop; clear hcode hown; clear hb)
      | ((with_reducible refine gate (N := 16) rfl ?_); refine build_zero rfl rfl ?_)
      | ((with_reducible refine gateOp (op := .store 27 (.tmp 6) (.tmp 16)) rfl ?_); refine store_mach rfl _ _ rfl (w.heap.size + 1) rfl ⟨0, 0, fun _ => 0, fun _ => 0⟩ rfl 27 _ hS.out.m0 ?_; intro W3 p2 ho hsz hbl; have pB := hid (hbl _ _ (Nat.le_succ _) hS.out.bel); replace p2 := hid p2; clear ho hsz hbl))
    exact ret_mach_i rfl rfl rfl p2.out rfl ⟨by rw [hzs.out], pB.out⟩
  · by_cases hn : -16 ≤ n ∧ n ≤ 16
    · have hw := hid (show true = decide (-16 ≤ n ∧ n ≤ 16) from (decide_eq_true hn).symm)
      rw [powAns_0 g h hn]
      rw [h] at hcode
      have hcl := hid (fun W hW => inverse_any w.heap.size W m hW l s g hkm)
      have hpo := hid (productOf_any)
      have gB := powB_good g n
      have hz2 := hid (fun L W (h : St w.heap.size w L W) => h.newMB ⟨0, 0, fun _ => 0, fun _ => 0⟩ 27)
      replace hkm := hid hkm; clear h
      obtain ⟨ans, hpw⟩ : ∃ a, a = powR m l s q n := ⟨_, rfl⟩
      rw [← hpw]
      replace hpw := hid hpw
      generalize hzs : mcells ⟨0, 0, fun _ => 0, fun _ => 0⟩ = zs at *
      replace hzs := hid hzs
      go_enter Try.func85, Try.ntmps85
      go_upto_region 6 with (first
        | ((with_reducible refine gate (N := 10) rfl ?_); refine load_mach rfl _ rfl w.heap.size rfl m hS.out.m1 ?_)
        | (go_at_call 113; (with_reducible refine (hcode.out _ _ _ hown.out.o0).mono ?_); rintro e w1 ⟨rfl, hb⟩; replace hS := hid (hown.out.call hb).drop; clear hcode hown; clear hb)
        | (go_at_call 124; (with_reducible refine (within_any _ _ _ true hw.out _).mono ?_); rintro e w' ⟨rfl, rfl⟩))
      have hld := hid hS.out.m1
      have hle := hid hS.out.le
      replace hS := hid (hz2.out _ _ hS.out)
      by_cases hneg : n < 0
      · have hB : powB m l s n = inv m l s := if_pos hneg
        have hn0 : decide (n < 0) = true := decide_eq_true hneg
        obtain ⟨f0, hf0⟩ : ∃ f0 : Nat, -n = f0 := ⟨n.natAbs, by omega⟩
        have e0 : n.natAbs = f0 := by omega
        have hf16 : f0 ≤ 16 := by omega
        have e1 : IntKind.i64.wrap (-n) = (f0 : Int) := by rw [hf0]; exact IntWalk.i64_in _ (by omega)
        have hans : chn (fun _ => (inv m l s, s, q)) l f0 0 (trivM l) = ans := by rw [hpw.out]; unfold powR; rw [e0, hB]
        rw [hB] at gB
        replace hans := hid hans; replace gB := hid gB; replace g := hid g; replace hf0 := hid hf0
        clear hB e0 hneg hn hpw
        go_upto_region 9 with (first
          | ((with_reducible refine gate (N := 22) rfl ?_); refine load_mach rfl _ rfl w.heap.size rfl m hld.out ?_)
          | ((with_reducible refine gateOp (op := .store 27 (.tmp 9) (.tmp 22)) rfl ?_); refine store_mach rfl _ _ rfl w1.heap.size rfl m rfl 27 _ hS.out.m0 ?_; intro W1 p3 ho hsz hbl; replace hS := hid (hS.out.setM hle.out p3 ho hbl); clear p3 ho hsz hbl)
          | (go_at_call 189; (with_reducible refine (hcl.out _ hS.out.m2).mono ?_); rintro e w2 ⟨rfl, hb⟩; replace hS := hid (hS.out.call hb); clear hcl; clear hb)
          | ((with_reducible refine gateOp (op := .store 27 (.tmp 9) (.tmp 25)) rfl ?_); refine store_mach rfl _ _ rfl w1.heap.size rfl (inv m l s) rfl 27 _ hS.out.m0 ?_; intro W2 p3 ho hsz hbl; replace hS := hid (hS.out.setM hle.out p3 ho hbl); clear p3 ho hsz hbl))
        clear hld
        generalize w1.heap.size = b9 at *
        have hcs := hid (fun (W : World) B (hB : W.heap[B]? = some (.cells #[.pointer (some ⟨b9, 0, none⟩), .int .i64 (q : Int)] 180 (0, 0))) => (show ∀ j v, [Value.pointer (some ⟨b9, 0, none⟩), .int .i64 (q : Int)][j]? = some v → W.cell? ⟨B, j, none⟩ = some v from fun j v hv => by
          rw [cell_of_row W B j _ _ _ hB]; simpa using hv))
        have hrp := hid (fun (W : World) B (hB : W.heap[B]? = some (.cells (rp [.pointer (some ⟨b9, 0, none⟩), .int .i64 (q : Int)] f0).toArray 180 (0, 0))) => (show ∀ i, i < f0 → W.rangeAt B (i * 2) [.pointer (some ⟨b9, 0, none⟩), .int .i64 (q : Int)] from fun i hi j u hu => by
          rw [cell_of_row W B _ _ _ _ hB]
          simpa using rp_at _ f0 i j u hi hu))
        have hrf := hid (fun W B (hB : W.heap[B]? = some (.cells #[.pointer (some ⟨b9, 0, none⟩), .int .i64 (q : Int)] 180 (0, 0))) => repFactor_any W B 1 f0 [.pointer (some ⟨b9, 0, none⟩), .int .i64 (q : Int)] rfl (by intro v hv; simp at hv; rcases hv with rfl | rfl <;> rfl) (by omega) (hcs.out W B hB) (Array.getElem?_eq_some_iff.1 hB).1)
        have hpo2 := hid (fun W B (hB : W.heap[B]? = some (.cells (rp [.pointer (some ⟨b9, 0, none⟩), .int .i64 (q : Int)] f0).toArray 180 (0, 0))) (hm : MB W 27 b9 (inv m l s)) => hpo.out W B f0 f0 l (fun _ => ((inv m l s), s, q)) (fun _ => b9) g.out.l2 g.out.l3 (by omega) (fun W' hW' i hi => ⟨hrp.out W' B ((hW'.block B (Array.getElem?_eq_some_iff.1 hB).1).trans hB) i hi, hm.below hW' hm.lt⟩) (fun i _ => ⟨gB.out, hq⟩))
        have hcL := hid (fun W (hm : MB W 27 w.heap.size m) => (show W.cell? ⟨w.heap.size, 0, none⟩ = some (.int .i64 (l : Int)) from by have h := hm.cL; rw [g.out.L] at h; exact h))
        replace hS := hid hS.out.drew
        refine wp_region_heldL (L := [(7, (fun w' : World => w'.cell? ⟨w.heap.size, 0, none⟩ = some (.int .i64 (l : Int))))]) (by kernel_rfl) (HeldL.cons (fun _ => hcL.out _ hS.out.m2) HeldL.nil) (fun hHeld => ?_)
        generalize W2.drew = wa at *
        refine wpAnyL_take0 (i := 0) (v := ?_) rfl (by kernel_rfl) (by kernel_rfl) (by kernel_rfl) (by rfl) (fun _ _ _ h => h) (Or.inl ⟨by rfl, ?_⟩) (by assumption) ?_
        rotate_left
        · (intro W _; go_simp; (with_reducible rfl))
        intro hHeld'
        clear hHeld; have hHeld := hHeld'; clear hHeld'
        try simp only [Act.put, List.getElem_toArray, List.getElem_cons_succ, List.getElem_cons_zero, List.setIfInBounds_toArray, List.set_cons_zero, List.set_cons_succ]
        refine wpAnyL_take0 (i := 2) (v := ?_) rfl (by kernel_rfl) (by kernel_rfl) (by kernel_rfl) (by rfl) (fun _ _ _ h => h) (Or.inl ⟨by rfl, ?_⟩) (by assumption) ?_
        rotate_left
        · (intro W _; go_simp; (with_reducible rfl))
        intro hHeld'
        clear hHeld; have hHeld := hHeld'; clear hHeld'
        try simp only [Act.put, List.getElem_toArray, List.getElem_cons_succ, List.getElem_cons_zero, List.setIfInBounds_toArray, List.set_cons_zero, List.set_cons_succ]
        refine wpAnyL_take0 (i := 3) (v := ?_) rfl (by kernel_rfl) (by kernel_rfl) (by kernel_rfl) (by rfl) (fun _ _ _ h => h) (Or.inl ⟨by rfl, ?_⟩) (by assumption) ?_
        rotate_left
        · (intro W _; go_simp; (with_reducible rfl))
        intro hHeld'
        clear hHeld; have hHeld := hHeld'; clear hHeld'
        try simp only [Act.put, List.getElem_toArray, List.getElem_cons_succ, List.getElem_cons_zero, List.setIfInBounds_toArray, List.set_cons_zero, List.set_cons_succ]
        refine wpAnyL_take0 (i := 5) (v := ?_) rfl (by kernel_rfl) (by kernel_rfl) (by kernel_rfl) (by rfl) (fun _ _ _ h => h) (Or.inl ⟨by rfl, ?_⟩) (by assumption) ?_
        rotate_left
        · (intro W _; go_simp; (with_reducible rfl))
        intro hHeld'
        clear hHeld; have hHeld := hHeld'; clear hHeld'
        try simp only [Act.put, List.getElem_toArray, List.getElem_cons_succ, List.getElem_cons_zero, List.setIfInBounds_toArray, List.set_cons_zero, List.set_cons_succ]
        refine wpAnyL_takeP (i := 1) 7 [] (v := ?_) (fun w' : World => w'.cell? ⟨w.heap.size, 0, none⟩ = some (.int .i64 (l : Int))) rfl (by kernel_rfl) (by kernel_rfl) (by kernel_rfl) (by rfl) (by kernel_rfl) (by simp) (fun _ _ _ h => h) (Or.inl ⟨by rfl, ?_⟩) (by assumption) ?_
        rotate_left
        · (intro W hW; go_simp; (with_reducible rfl))
        intro hHeld'
        clear hHeld; have hHeld := hHeld'; clear hHeld'
        try simp only [Act.put, List.getElem_toArray, List.getElem_cons_succ, List.getElem_cons_zero, List.setIfInBounds_toArray, List.set_cons_zero, List.set_cons_succ]
        refine wpAnyL_ready (rs := [4]) (by kernel_rfl) (by simp) ?_
        refine AllReadyL.cons rfl (fun K hK => ?_) AllReadyL.nil
        go_simp
        replace hS := hid (hS.out.newBlk #[.pointer (some ⟨b9, 0, none⟩), .int .i64 (q : Int)] 180)
        generalize wa.heap.size = bA at *
        generalize wa.alloc (.cells #[.pointer (some ⟨b9, 0, none⟩), .int .i64 (q : Int)] 180) = wb at *
        refine hK.out _ _ (HeldL.cons (fun _ => hcL.out _ hS.out.m3) HeldL.nil) (fun hHeld' => ?_)
        clear hK K hHeld; have hHeld := hHeld'; clear hHeld'
        try simp only [Act.put, List.getElem_toArray, List.getElem_cons_succ, List.getElem_cons_zero, List.setIfInBounds_toArray, List.set_cons_zero, List.set_cons_succ]
        refine wpAnyL_ready (rs := [6]) (by kernel_rfl) (by simp) ?_
        refine AllReadyL.cons rfl (fun K hK => ?_) AllReadyL.nil
        go_simp
        (with_reducible refine (hrf.out _ _ hS.out.k0).mono ?_)
        rintro e w4 ⟨rfl, h4⟩
        replace hS := hid (hS.out.callBlk h4 (Nat.le_refl _))
        clear h4
        generalize wb.heap.size = bB at *
        go_simp
        refine hK.out _ _ (HeldL.cons (fun _ => hcL.out _ hS.out.m4) HeldL.nil) (fun hHeld' => ?_)
        clear hK K hHeld; have hHeld := hHeld'; clear hHeld'
        try simp only [Act.put, List.getElem_toArray, List.getElem_cons_succ, List.getElem_cons_zero, List.setIfInBounds_toArray, List.set_cons_zero, List.set_cons_succ]
        refine wpAnyL_ready (rs := [7]) (by kernel_rfl) (by simp) ?_
        refine AllReadyL.cons rfl (fun K hK => ?_) AllReadyL.nil
        go_simp
        (with_reducible refine (hpo2.out _ _ hS.out.k0 hS.out.m2).mono ?_)
        rintro e w5 ⟨rfl, h5⟩
        replace hS := hid (hS.out.call h5)
        clear h5
        rw [hans.out]
        go_simp
        refine hK.out _ _ (HeldL.cons (fun h => absurd h (by decide +kernel)) HeldL.nil) (fun hHeld' => ?_)
        clear hK K hHeld; have hHeld := hHeld'; clear hHeld'
        try simp only [Act.put, List.getElem_toArray, List.getElem_cons_succ, List.getElem_cons_zero, List.setIfInBounds_toArray, List.set_cons_zero, List.set_cons_succ]
        refine wpAnyL_take0 (i := 8) (v := ?_) rfl (by kernel_rfl) (by kernel_rfl) (by kernel_rfl) (by rfl) (fun _ _ _ h => h) (Or.inl ⟨by rfl, ?_⟩) (by assumption) ?_
        rotate_left
        · (intro W _; go_simp; (with_reducible rfl))
        intro hHeld'
        clear hHeld; have hHeld := hHeld'; clear hHeld'
        try simp only [Act.put, List.getElem_toArray, List.getElem_cons_succ, List.getElem_cons_zero, List.setIfInBounds_toArray, List.set_cons_zero, List.set_cons_succ]
        refine wpAnyL_take0 (i := 9) (v := ?_) rfl (by kernel_rfl) (by kernel_rfl) (by kernel_rfl) (by rfl) (fun _ _ _ h => h) (Or.inl ⟨by rfl, ?_⟩) (by assumption) ?_
        rotate_left
        · (intro W _; go_simp; (with_reducible rfl))
        intro hHeld'
        clear hHeld; have hHeld := hHeld'; clear hHeld'
        try simp only [Act.put, List.getElem_toArray, List.getElem_cons_succ, List.getElem_cons_zero, List.setIfInBounds_toArray, List.set_cons_zero, List.set_cons_succ]
        refine wpAnyL_ready (rs := [10]) (by kernel_rfl) (by simp) ?_
        refine AllReadyL.cons rfl (fun K hK => ?_) AllReadyL.nil
        refine step_store_mach rfl _ _ rfl _ rfl ans.1 rfl _ _ hS.out.m3 ?_
        intro W9 p2 ho hbl
        have pB := hid (hbl _ _ (Nat.le_succ _) hS.out.bel)
        replace p2 := hid p2
        clear ho hbl
        refine hK.out _ _ (HeldL.cons (fun h => absurd h (by decide +kernel)) HeldL.nil) (fun hHeld' => ?_)
        clear hK K hHeld; have hHeld := hHeld'; clear hHeld'
        try simp only [Act.put, List.getElem_toArray, List.getElem_cons_succ, List.getElem_cons_zero, List.setIfInBounds_toArray, List.set_cons_zero, List.set_cons_succ]
        refine wpAnyL_take0 (i := 11) (v := ?_) rfl (by kernel_rfl) (by kernel_rfl) (by kernel_rfl) (by rfl) (fun _ _ _ h => h) (Or.inl ⟨by rfl, ?_⟩) (by assumption) ?_
        rotate_left
        · (intro W _; go_simp; (with_reducible rfl))
        intro hHeld'
        clear hHeld; have hHeld := hHeld'; clear hHeld'
        try simp only [Act.put, List.getElem_toArray, List.getElem_cons_succ, List.getElem_cons_zero, List.setIfInBounds_toArray, List.set_cons_zero, List.set_cons_succ]
        refine wpAnyL_done (by kernel_rfl) ?_ _
        go_wp2
        exact ret_mach_i rfl rfl rfl p2.out rfl ⟨rfl, pB.out⟩
      · have hB : powB m l s n = m := if_neg hneg
        have hn0 : decide (n < 0) = false := decide_eq_false hneg
        obtain ⟨f0, hf0⟩ : ∃ f0 : Nat, n = f0 := ⟨n.natAbs, by omega⟩
        have e0 : n.natAbs = f0 := by omega
        have hf16 : f0 ≤ 16 := by omega
        have hans : chn (fun _ => (m, s, q)) l f0 0 (trivM l) = ans := by rw [hpw.out]; unfold powR; rw [e0, hB]
        rw [hB] at gB
        subst hf0
        replace hans := hid hans; replace gB := hid gB; replace g := hid g
        clear hB e0 hneg hn hpw
        go_upto_region 9 with (first
          | ((with_reducible refine gate (N := 22) rfl ?_); refine load_mach rfl _ rfl w.heap.size rfl m hld.out ?_)
          | ((with_reducible refine gateOp (op := .store 27 (.tmp 9) (.tmp 22)) rfl ?_); refine store_mach rfl _ _ rfl w1.heap.size rfl m rfl 27 _ hS.out.m0 ?_; intro W1 p3 ho hsz hbl; replace hS := hid (hS.out.setM hle.out p3 ho hbl); clear p3 ho hsz hbl))
        clear hld
        generalize w1.heap.size = b9 at *
        have hcs := hid (fun (W : World) B (hB : W.heap[B]? = some (.cells #[.pointer (some ⟨b9, 0, none⟩), .int .i64 (q : Int)] 180 (0, 0))) => (show ∀ j v, [Value.pointer (some ⟨b9, 0, none⟩), .int .i64 (q : Int)][j]? = some v → W.cell? ⟨B, j, none⟩ = some v from fun j v hv => by
          rw [cell_of_row W B j _ _ _ hB]; simpa using hv))
        have hrp := hid (fun (W : World) B (hB : W.heap[B]? = some (.cells (rp [.pointer (some ⟨b9, 0, none⟩), .int .i64 (q : Int)] f0).toArray 180 (0, 0))) => (show ∀ i, i < f0 → W.rangeAt B (i * 2) [.pointer (some ⟨b9, 0, none⟩), .int .i64 (q : Int)] from fun i hi j u hu => by
          rw [cell_of_row W B _ _ _ _ hB]
          simpa using rp_at _ f0 i j u hi hu))
        have hrf := hid (fun W B (hB : W.heap[B]? = some (.cells #[.pointer (some ⟨b9, 0, none⟩), .int .i64 (q : Int)] 180 (0, 0))) => repFactor_any W B 1 f0 [.pointer (some ⟨b9, 0, none⟩), .int .i64 (q : Int)] rfl (by intro v hv; simp at hv; rcases hv with rfl | rfl <;> rfl) (by omega) (hcs.out W B hB) (Array.getElem?_eq_some_iff.1 hB).1)
        have hpo2 := hid (fun W B (hB : W.heap[B]? = some (.cells (rp [.pointer (some ⟨b9, 0, none⟩), .int .i64 (q : Int)] f0).toArray 180 (0, 0))) (hm : MB W 27 b9 m) => hpo.out W B f0 f0 l (fun _ => (m, s, q)) (fun _ => b9) g.out.l2 g.out.l3 (by omega) (fun W' hW' i hi => ⟨hrp.out W' B ((hW'.block B (Array.getElem?_eq_some_iff.1 hB).1).trans hB) i hi, hm.below hW' hm.lt⟩) (fun i _ => ⟨gB.out, hq⟩))
        have hcL := hid (fun W (hm : MB W 27 w.heap.size m) => (show W.cell? ⟨w.heap.size, 0, none⟩ = some (.int .i64 (l : Int)) from by have h := hm.cL; rw [g.out.L] at h; exact h))
        replace hS := hid hS.out.drew
        refine wp_region_heldL (L := [(7, (fun w' : World => w'.cell? ⟨w.heap.size, 0, none⟩ = some (.int .i64 (l : Int))))]) (by kernel_rfl) (HeldL.cons (fun _ => hcL.out _ hS.out.m2) HeldL.nil) (fun hHeld => ?_)
        generalize W1.drew = wa at *
        refine wpAnyL_take0 (i := 0) (v := ?_) rfl (by kernel_rfl) (by kernel_rfl) (by kernel_rfl) (by rfl) (fun _ _ _ h => h) (Or.inl ⟨by rfl, ?_⟩) (by assumption) ?_
        rotate_left
        · (intro W _; go_simp; (with_reducible rfl))
        intro hHeld'
        clear hHeld; have hHeld := hHeld'; clear hHeld'
        try simp only [Act.put, List.getElem_toArray, List.getElem_cons_succ, List.getElem_cons_zero, List.setIfInBounds_toArray, List.set_cons_zero, List.set_cons_succ]
        refine wpAnyL_take0 (i := 2) (v := ?_) rfl (by kernel_rfl) (by kernel_rfl) (by kernel_rfl) (by rfl) (fun _ _ _ h => h) (Or.inl ⟨by rfl, ?_⟩) (by assumption) ?_
        rotate_left
        · (intro W _; go_simp; (with_reducible rfl))
        intro hHeld'
        clear hHeld; have hHeld := hHeld'; clear hHeld'
        try simp only [Act.put, List.getElem_toArray, List.getElem_cons_succ, List.getElem_cons_zero, List.setIfInBounds_toArray, List.set_cons_zero, List.set_cons_succ]
        refine wpAnyL_take0 (i := 3) (v := ?_) rfl (by kernel_rfl) (by kernel_rfl) (by kernel_rfl) (by rfl) (fun _ _ _ h => h) (Or.inl ⟨by rfl, ?_⟩) (by assumption) ?_
        rotate_left
        · (intro W _; go_simp; (with_reducible rfl))
        intro hHeld'
        clear hHeld; have hHeld := hHeld'; clear hHeld'
        try simp only [Act.put, List.getElem_toArray, List.getElem_cons_succ, List.getElem_cons_zero, List.setIfInBounds_toArray, List.set_cons_zero, List.set_cons_succ]
        refine wpAnyL_take0 (i := 5) (v := ?_) rfl (by kernel_rfl) (by kernel_rfl) (by kernel_rfl) (by rfl) (fun _ _ _ h => h) (Or.inl ⟨by rfl, ?_⟩) (by assumption) ?_
        rotate_left
        · (intro W _; go_simp; (with_reducible rfl))
        intro hHeld'
        clear hHeld; have hHeld := hHeld'; clear hHeld'
        try simp only [Act.put, List.getElem_toArray, List.getElem_cons_succ, List.getElem_cons_zero, List.setIfInBounds_toArray, List.set_cons_zero, List.set_cons_succ]
        refine wpAnyL_takeP (i := 1) 7 [] (v := ?_) (fun w' : World => w'.cell? ⟨w.heap.size, 0, none⟩ = some (.int .i64 (l : Int))) rfl (by kernel_rfl) (by kernel_rfl) (by kernel_rfl) (by rfl) (by kernel_rfl) (by simp) (fun _ _ _ h => h) (Or.inl ⟨by rfl, ?_⟩) (by assumption) ?_
        rotate_left
        · (intro W hW; go_simp; (with_reducible rfl))
        intro hHeld'
        clear hHeld; have hHeld := hHeld'; clear hHeld'
        try simp only [Act.put, List.getElem_toArray, List.getElem_cons_succ, List.getElem_cons_zero, List.setIfInBounds_toArray, List.set_cons_zero, List.set_cons_succ]
        refine wpAnyL_ready (rs := [4]) (by kernel_rfl) (by simp) ?_
        refine AllReadyL.cons rfl (fun K hK => ?_) AllReadyL.nil
        go_simp
        replace hS := hid (hS.out.newBlk #[.pointer (some ⟨b9, 0, none⟩), .int .i64 (q : Int)] 180)
        generalize wa.heap.size = bA at *
        generalize wa.alloc (.cells #[.pointer (some ⟨b9, 0, none⟩), .int .i64 (q : Int)] 180) = wb at *
        refine hK.out _ _ (HeldL.cons (fun _ => hcL.out _ hS.out.m3) HeldL.nil) (fun hHeld' => ?_)
        clear hK K hHeld; have hHeld := hHeld'; clear hHeld'
        try simp only [Act.put, List.getElem_toArray, List.getElem_cons_succ, List.getElem_cons_zero, List.setIfInBounds_toArray, List.set_cons_zero, List.set_cons_succ]
        refine wpAnyL_ready (rs := [6]) (by kernel_rfl) (by simp) ?_
        refine AllReadyL.cons rfl (fun K hK => ?_) AllReadyL.nil
        go_simp
        (with_reducible refine (hrf.out _ _ hS.out.k0).mono ?_)
        rintro e w4 ⟨rfl, h4⟩
        replace hS := hid (hS.out.callBlk h4 (Nat.le_refl _))
        clear h4
        generalize wb.heap.size = bB at *
        go_simp
        refine hK.out _ _ (HeldL.cons (fun _ => hcL.out _ hS.out.m4) HeldL.nil) (fun hHeld' => ?_)
        clear hK K hHeld; have hHeld := hHeld'; clear hHeld'
        try simp only [Act.put, List.getElem_toArray, List.getElem_cons_succ, List.getElem_cons_zero, List.setIfInBounds_toArray, List.set_cons_zero, List.set_cons_succ]
        refine wpAnyL_ready (rs := [7]) (by kernel_rfl) (by simp) ?_
        refine AllReadyL.cons rfl (fun K hK => ?_) AllReadyL.nil
        go_simp
        (with_reducible refine (hpo2.out _ _ hS.out.k0 hS.out.m2).mono ?_)
        rintro e w5 ⟨rfl, h5⟩
        replace hS := hid (hS.out.call h5)
        clear h5
        rw [hans.out]
        go_simp
        refine hK.out _ _ (HeldL.cons (fun h => absurd h (by decide +kernel)) HeldL.nil) (fun hHeld' => ?_)
        clear hK K hHeld; have hHeld := hHeld'; clear hHeld'
        try simp only [Act.put, List.getElem_toArray, List.getElem_cons_succ, List.getElem_cons_zero, List.setIfInBounds_toArray, List.set_cons_zero, List.set_cons_succ]
        refine wpAnyL_take0 (i := 8) (v := ?_) rfl (by kernel_rfl) (by kernel_rfl) (by kernel_rfl) (by rfl) (fun _ _ _ h => h) (Or.inl ⟨by rfl, ?_⟩) (by assumption) ?_
        rotate_left
        · (intro W _; go_simp; (with_reducible rfl))
        intro hHeld'
        clear hHeld; have hHeld := hHeld'; clear hHeld'
        try simp only [Act.put, List.getElem_toArray, List.getElem_cons_succ, List.getElem_cons_zero, List.setIfInBounds_toArray, List.set_cons_zero, List.set_cons_succ]
        refine wpAnyL_take0 (i := 9) (v := ?_) rfl (by kernel_rfl) (by kernel_rfl) (by kernel_rfl) (by rfl) (fun _ _ _ h => h) (Or.inl ⟨by rfl, ?_⟩) (by assumption) ?_
        rotate_left
        · (intro W _; go_simp; (with_reducible rfl))
        intro hHeld'
        clear hHeld; have hHeld := hHeld'; clear hHeld'
        try simp only [Act.put, List.getElem_toArray, List.getElem_cons_succ, List.getElem_cons_zero, List.setIfInBounds_toArray, List.set_cons_zero, List.set_cons_succ]
        refine wpAnyL_ready (rs := [10]) (by kernel_rfl) (by simp) ?_
        refine AllReadyL.cons rfl (fun K hK => ?_) AllReadyL.nil
        refine step_store_mach rfl _ _ rfl _ rfl ans.1 rfl _ _ hS.out.m3 ?_
        intro W9 p2 ho hbl
        have pB := hid (hbl _ _ (Nat.le_succ _) hS.out.bel)
        replace p2 := hid p2
        clear ho hbl
        refine hK.out _ _ (HeldL.cons (fun h => absurd h (by decide +kernel)) HeldL.nil) (fun hHeld' => ?_)
        clear hK K hHeld; have hHeld := hHeld'; clear hHeld'
        try simp only [Act.put, List.getElem_toArray, List.getElem_cons_succ, List.getElem_cons_zero, List.setIfInBounds_toArray, List.set_cons_zero, List.set_cons_succ]
        refine wpAnyL_take0 (i := 11) (v := ?_) rfl (by kernel_rfl) (by kernel_rfl) (by kernel_rfl) (by rfl) (fun _ _ _ h => h) (Or.inl ⟨by rfl, ?_⟩) (by assumption) ?_
        rotate_left
        · (intro W _; go_simp; (with_reducible rfl))
        intro hHeld'
        clear hHeld; have hHeld := hHeld'; clear hHeld'
        try simp only [Act.put, List.getElem_toArray, List.getElem_cons_succ, List.getElem_cons_zero, List.setIfInBounds_toArray, List.set_cons_zero, List.set_cons_succ]
        refine wpAnyL_done (by kernel_rfl) ?_ _
        go_wp2
        exact ret_mach_i rfl rfl rfl p2.out rfl ⟨rfl, pB.out⟩
    · rw [powAns_r h hn]
      have hw := hid (show false = decide (-16 ≤ n ∧ n ≤ 16) from (decide_eq_false hn).symm)
      rw [h] at hcode
      replace hkm := hid hkm; clear h hn; replace g := hid g
      generalize hzs : mcells ⟨0, 0, fun _ => 0, fun _ => 0⟩ = zs at *
      replace hzs := hid hzs
      go_enter Try.func85, Try.ntmps85
      go_wp2_with (first
        | ((with_reducible refine gate (N := 10) rfl ?_); refine load_mach rfl _ rfl w.heap.size rfl m hS.out.m1 ?_)
        | (go_at_call 113; (with_reducible refine (hcode.out _ _ _ hown.out.o0).mono ?_); rintro e w1 ⟨rfl, hb⟩; replace hS := hid (hown.out.call hb).drop; clear hcode hown; clear hb)
        | (go_at_call 124; (with_reducible refine (within_any _ _ _ false hw.out _).mono ?_); rintro e w' ⟨rfl, rfl⟩)
        | ((with_reducible refine gate (N := 21) rfl ?_); refine build_zero rfl rfl ?_)
        | ((with_reducible refine gateOp (op := .store 27 (.tmp 6) (.tmp 21)) rfl ?_); refine store_mach rfl _ _ rfl (w.heap.size + 1) rfl ⟨0, 0, fun _ => 0, fun _ => 0⟩ rfl 27 _ hS.out.m0 ?_; intro W3 p2 ho hsz hbl; have pB := hid (hbl _ _ (Nat.le_succ _) hS.out.bel); replace p2 := hid p2; clear ho hsz hbl))
      exact ret_mach_i rfl rfl rfl p2.out rfl ⟨by rw [hzs.out], pB.out⟩
end Go.Proofs.Ythmcdfjijkecfaa

/- What products, powers and machines of states do. -/
namespace Go.Proofs.Ythmcdfjijkecfaa
set_option linter.unusedVariables false
set_option linter.unusedSimpArgs false

/-- What a state of a table makes of a word. -/
def imgT (T : Tab) : Nat → List Nat → List Nat
  | _, [] => []
  | q, x :: u => T.ot q x :: imgT T (T.nx q x) u
theorem imgT_tab (m : Mach) (l s : Nat) : ∀ (u : List Nat) (q : Nat), imgT (tabOf m l s) q u = img m q u
  | [], _ => rfl
  | x :: u, q => by
    show m.ot (q * 3 + x) :: imgT (tabOf m l s) (m.nx (q * 3 + x)) u = _
    rw [imgT_tab m l s u]; rfl
section
variable {T U : Tab}
theorem Sim.imgT {p q : Nat} (h : Sim T p U q) : ∀ u : List Nat, (∀ x ∈ u, x < T.L) → imgT T p u = imgT U q u := by
  obtain ⟨R, h, hr⟩ := h
  intro u
  induction u generalizing p q with
  | nil => intro _; rfl
  | cons x u ih =>
    intro hu
    have hx := hu x (by simp)
    show T.ot p x :: Go.Proofs.Ythmcdfjijkecfaa.imgT T (T.nx p x) u = U.ot q x :: Go.Proofs.Ythmcdfjijkecfaa.imgT U (U.nx q x) u
    rw [h.ot hr x hx, ih (h.nx hr x hx) fun z hz => hu z (by simp [hz])]
/-- States that lead all words alike do the same. -/
theorem Sim.of_imgT (hT : T.Ok) (hU : U.Ok) (hL : T.L = U.L) {p q : Nat} (hp : p < T.n) (hq : q < U.n) (h : ∀ u : List Nat, (∀ x ∈ u, x < T.L) → Go.Proofs.Ythmcdfjijkecfaa.imgT T p u = Go.Proofs.Ythmcdfjijkecfaa.imgT U q u) : Sim T p U q := by
  refine ⟨fun a b => a < T.n ∧ b < U.n ∧ ∀ u : List Nat, (∀ x ∈ u, x < T.L) → Go.Proofs.Ythmcdfjijkecfaa.imgT T a u = Go.Proofs.Ythmcdfjijkecfaa.imgT U b u, ⟨hL, fun h => h.1, fun h => h.2.1, fun {a b} h x hx => ?_, fun {a b} h x hx => ⟨hT.nx a x h.1 hx, hU.nx b x h.2.1 (hL ▸ hx), fun u hu => ?_⟩⟩, hp, hq, h⟩
  · have := h.2.2 [x] (by simpa using hx)
    simpa [Go.Proofs.Ythmcdfjijkecfaa.imgT] using this
  · have := h.2.2 (x :: u) (by intro z hz; rcases List.mem_cons.1 hz with rfl | hz; exact hx; exact hu z hz)
    simp only [Go.Proofs.Ythmcdfjijkecfaa.imgT, List.cons.injEq] at this
    exact this.2
end
section
variable {m k : Mach} {l s t : Nat}
theorem imgT_prod (g : Good m l s) (g' : Good k l t) : ∀ (u : List Nat) (a b : Nat), a < s → b < t → (∀ x ∈ u, x < l) → imgT (prodT m k l s t) (a * t + b) u = img k b (img m a u)
  | [], _, _, _, _, _ => rfl
  | x :: u, a, b, ha, hb, hu => by
    have hx := hu x (by simp)
    show (prodT m k l s t).ot (a * t + b) x :: imgT (prodT m k l s t) ((prodT m k l s t).nx (a * t + b) x) u = k.ot (b * 3 + m.ot (a * 3 + x)) :: img k (k.nx (b * 3 + m.ot (a * 3 + x))) (img m (m.nx (a * 3 + x)) u)
    rw [prod_ot m k l s x hb rfl, prod_nx m k l s x hb rfl, imgT_prod g g' u _ _ (g.nx a x ha hx) (g'.nx b _ hb (g.ot a x ha hx)) fun z hz => hu z (by simp [hz])]
/-- The machine of a product acts as one state and then the other. -/
theorem prod_law (g : Good m l s) (g' : Good k l t) {q r : Nat} (hq : q < s) (hr : r < t) (h : fromC (prodT m k l s t) (q * t + r) = 0) :
    ∃ s2, Good (fromM (prodT m k l s t) (q * t + r)) l s2 ∧ (fromM (prodT m k l s t) (q * t + r)).Ok ∧ ∀ u : List Nat, (∀ x ∈ u, x < l) → img (fromM (prodT m k l s t) (q * t + r)) 0 u = img k r (img m q u) := by
  have hin := prod_in (s' := t) hq hr
  obtain ⟨s2, g2⟩ := fromM_good (prod_ok g g') hin g.l2 g.l3 (prod_o g g') (prod_inj g g') h
  refine ⟨s2, g2, fromM_ok (prod_ok g g') hin (prod_o256 g g'), fun u hu => ?_⟩
  have hs := Sim.of_from (prod_ok g g') hin g.l3 h g2.S
  have := hs.imgT u hu
  rw [imgT_tab, imgT_prod g g' u q r hq hr hu] at this
  exact this
theorem img_triv (l2 : 2 ≤ l) : ∀ (u : List Nat), (∀ x ∈ u, x < l) → img (trivM l) 0 u = u
  | [], _ => rfl
  | x :: u, hu => by
    have hx := hu x (by simp)
    show (if 0 * 3 + x < l then 0 * 3 + x else 0) :: img (trivM l) 0 u = x :: u
    rw [img_triv l2 u fun z hz => hu z (by simp [hz]), if_pos (by omega), show 0 * 3 + x = x by omega]
theorem triv_S (l2 : 2 ≤ l) (l3 : l ≤ 3) : (fromM (tabOf (trivM l) l 1) 0).S = 1 := by
  have hT := tabOf_ok (trivM_good l l2 l3)
  have h1 := (bfs_uniq hT (c := fix (tabOf (trivM l) l 1)) (fun r hr => fix_lt r hr) 0 Nat.one_pos 1).len
  have h2 := fin_pos (tabOf (trivM l) l 1) (fix (tabOf (trivM l) l 1)) 0
  have h3 : (fin (tabOf (trivM l) l 1) (fix (tabOf (trivM l) l 1)) 0).length ≤ 1 := h1
  unfold fromM
  rw [if_pos (by omega)]
  show ((List.length _ : Nat) : Int) = 1
  omega
/-- A state that leaves all words has the trivial machine. -/
theorem triv_canon {T : Tab} {q : Nat} (hT : T.Ok) (hq : q < T.n) (h2 : 2 ≤ T.L) (h3 : T.L ≤ 3) (h : ∀ u : List Nat, (∀ x ∈ u, x < T.L) → imgT T q u = u) : fromM T q = fromM (tabOf (trivM T.L) T.L 1) 0 ∧ fromC T q = 0 ∧ (fromM T q).S = 1 := by
  have hU := tabOf_ok (trivM_good T.L h2 h3)
  have hs : Sim T q (tabOf (trivM T.L) T.L 1) 0 := Sim.of_imgT hT hU rfl hq Nat.one_pos fun u hu => by rw [h u hu, imgT_tab, img_triv h2 u hu]
  obtain ⟨h1, h4⟩ := hs.canon hT hU
  exact ⟨h1, by rw [h4]; exact fromC_few hU Nat.one_pos (by show 1 ≤ 16; omega), by rw [h1]; exact triv_S h2 h3⟩
/-- .. so has a product that leaves all words. -/
theorem prod_triv (g : Good m l s) (g' : Good k l t) {q r : Nat} (hq : q < s) (hr : r < t) (h : ∀ u : List Nat, (∀ x ∈ u, x < l) → img k r (img m q u) = u) :
    fromC (prodT m k l s t) (q * t + r) = 0 ∧ (fromM (prodT m k l s t) (q * t + r)).S = 1 := by
  have := triv_canon (prod_ok g g') (prod_in (s' := t) hq hr) g.l2 g.l3 (fun u hu => by rw [imgT_prod g g' u q r hq hr hu]; exact h u hu)
  exact ⟨this.2.1, this.2.2⟩
/-- What a chain of one state does. -/
theorem chn_law (g : Good m l s) {q : Nat} (hq : q < s) : ∀ (f i : Nat) (now : Mach) (sN : Nat), Good now l sN → now.Ok → (chn (fun _ => (m, s, q)) l f i now).2 = 0 →
    ∃ s2, Good (chn (fun _ => (m, s, q)) l f i now).1 l s2 ∧ (chn (fun _ => (m, s, q)) l f i now).1.Ok ∧ ∀ u : List Nat, (∀ x ∈ u, x < l) → img (chn (fun _ => (m, s, q)) l f i now).1 0 u = itF (img m q) f (img now 0 u)
  | 0, _, now, sN, gN, hN, _ => ⟨sN, gN, hN, fun u hu => rfl⟩
  | f + 1, i, now, sN, gN, hN, h => by
    obtain ⟨hM, hC⟩ := next_M m l s q now sN gN
    by_cases h0 : nextC m l s q now = 0
    · have hch : chn (fun _ => (m, s, q)) l (f + 1) i now = chn (fun _ => (m, s, q)) l f (i + 1) (nextM m l s q now) := chn_0 (fs := fun _ => (m, s, q)) h0
      rw [hch] at h ⊢
      obtain ⟨s2, g2, k2, h2⟩ := prod_law gN g (show 0 < sN from gN.s1) hq (by rw [hC]; exact h0)
      rw [hM] at g2 k2 h2
      obtain ⟨s3, g3, k3, h3⟩ := chn_law g hq f (i + 1) _ s2 g2 k2 h
      refine ⟨s3, g3, k3, fun u hu => ?_⟩
      rw [h3 u hu, h2 u hu]
      have := itF_add (img m q) 1 (img now 0 u) f
      exact this.symm
    · unfold chn at h
      rw [if_neg (show ¬ nextC ((fun _ => (m, s, q)) i : Mach × Nat × Nat).1 l ((fun _ => (m, s, q)) i : Mach × Nat × Nat).2.1 ((fun _ => (m, s, q)) i : Mach × Nat × Nat).2.2 now = 0 from h0)] at h
      cases h
end
/-- A product that is made. -/
theorem posAns_law {m k : Mach} {q r : Int} (h : (posAns m q k r).2 = 0) : ∃ (l s t s2 q' r' : Nat), Good m l s ∧ Good k l t ∧ q = q' ∧ q' < s ∧ r = r' ∧ r' < t ∧ Good (posAns m q k r).1 l s2 ∧ (posAns m q k r).1.Ok ∧
    ∀ u : List Nat, (∀ x ∈ u, x < l) → img (posAns m q k r).1 0 u = img k r' (img m q' u) := by
  rcases pairI_cases m q k r with ⟨h1, _⟩ | h1 | ⟨l, s, t, q', r', g, g', rfl, hq, rfl, hr, h1⟩
  · rw [posAns_n h1 (by decide)] at h; cases h
  · rw [posAns_n h1 (by decide)] at h; cases h
  · rw [posAns_0 g g' h1] at h ⊢
    obtain ⟨s2, g2, k2, h2⟩ := prod_law g g' hq hr h
    exact ⟨l, s, t, s2, q', r', g, g', rfl, hq, rfl, hr, g2, k2, h2⟩
theorem pairI_0 {m k : Mach} {l s t q r : Nat} (g : Good m l s) (g' : Good k l t) (hq : q < s) (hr : r < t) : pairI m q k r = 0 := by
  rcases pairI_cases m q k r with ⟨h1, h2⟩ | h1 | ⟨_, _, _, _, _, _, _, _, _, _, _, h1⟩
  · unfold pairI at h1 ⊢
    by_cases hm : IsM m ∧ IsM k
    · exact absurd hm h2
    · exfalso; rw [if_neg hm] at h1
      exact hm ⟨(by have := g; exact g.isM), g'.isM⟩
  · unfold pairI at h1
    rw [if_pos ⟨g.isM, g'.isM⟩, g.S, g'.S, g.L, g'.L, if_pos ⟨⟨by omega, by omega⟩, ⟨by omega, by omega⟩, rfl⟩] at h1
    cases h1
  · exact h1
/-- A product that leaves all words is made, and has one state. -/
theorem posAns_triv {m k : Mach} {l s t q r : Nat} (g : Good m l s) (g' : Good k l t) (hq : q < s) (hr : r < t) (h : ∀ u : List Nat, (∀ x ∈ u, x < l) → img k r (img m q u) = u) :
    (posAns m q k r).2 = 0 ∧ (posAns m q k r).1.S = 1 := by
  rw [posAns_0 g g' (pairI_0 g g' hq hr)]
  exact prod_triv g g' hq hr h
section
variable {F G : List Nat → List Nat} {P : List Nat → Prop}
theorem itF_succ' (F : List Nat → List Nat) (f : Nat) (u : List Nat) : itF F (f + 1) u = itF F f (F u) := itF_add F 1 u f
theorem itF_P (hF : ∀ u, P u → P (F u)) : ∀ f u, P u → P (itF F f u)
  | 0, _, h => h
  | f + 1, u, h => hF _ (itF_P hF f u h)
theorem itF_back (hF : ∀ u, P u → P (F u)) (h : ∀ u, P u → G (F u) = u) : ∀ f u, P u → itF G f (itF F f u) = u
  | 0, _, _ => rfl
  | f + 1, u, hu => by
    rw [itF_succ']
    show itF G f (G (F (itF F f u))) = u
    rw [h _ (itF_P hF f u hu)]
    exact itF_back hF h f u hu
end
/-- A power that is made. -/
theorem powAns_law {m : Mach} {q n : Int} (h : (powAns m q n).2 = 0) : ∃ (l s s2 q' : Nat), Good m l s ∧ q = q' ∧ q' < s ∧ -16 ≤ n ∧ n ≤ 16 ∧ Good (powAns m q n).1 l s2 ∧ (powAns m q n).1.Ok ∧
    ∀ u : List Nat, (∀ x ∈ u, x < l) → img (powAns m q n).1 0 u = itF (img (powB m l s n) q') n.natAbs u := by
  rcases codeI_cases m q with h1 | h1 | ⟨l, s, q', g, rfl, hq, h1⟩
  · rw [powAns_n h1 (by decide)] at h; cases h
  · rw [powAns_n h1 (by decide)] at h; cases h
  · by_cases hn : -16 ≤ n ∧ n ≤ 16
    · rw [powAns_0 g h1 hn] at h ⊢
      obtain ⟨s2, g2, k2, h2⟩ := chn_law (powB_good g n) hq n.natAbs 0 (trivM l) 1 (trivM_good l g.l2 g.l3) (trivM_ok l g.l3) h
      refine ⟨l, s, s2, q', g, rfl, hq, hn.1, hn.2, g2, k2, fun u hu => ?_⟩
      have := h2 u hu
      rw [img_triv g.l2 u hu] at this
      exact this
    · rw [powAns_r h1 hn] at h; cases h
/-- A power and its opposite undo each other. -/
theorem powAns_opp {m : Mach} {q n : Int} (h : (powAns m q n).2 = 0) (h' : (powAns m q (-n)).2 = 0) : (posAns (powAns m q n).1 0 (powAns m q (-n)).1 0).2 = 0 ∧ (posAns (powAns m q n).1 0 (powAns m q (-n)).1 0).1.S = 1 := by
  obtain ⟨l, s, s2, q1, g, rfl, hq, hn1, hn2, g2, k2, h2⟩ := powAns_law h
  obtain ⟨l', s', s3, q3, g', e, hq', _, _, g3, k3, h3⟩ := powAns_law h'
  obtain rfl : l = l' := by have := g.L; rw [g'.L] at this; omega
  obtain rfl : s = s' := by have := g.S; rw [g'.S] at this; omega
  obtain rfl : q1 = q3 := by omega
  refine posAns_triv (q := 0) (r := 0) g2 g3 g2.s1 g3.s1 fun u hu => ?_
  have lt : ∀ {M : Mach}, Good M l s → ∀ u : List Nat, (∀ x ∈ u, x < l) → ∀ x ∈ img M q1 u, x < l := fun gM u hu => img_lt gM u q1 hq hu
  by_cases h0 : n = 0
  · subst h0
    rw [h3 _ (fun x hx => by rw [h2 u hu] at hx; exact hu x hx), h2 u hu]; rfl
  rw [h2 u hu, h3 _ (itF_P (P := fun u => ∀ x ∈ u, x < l) (lt (powB_good g n)) _ u hu), Int.natAbs_neg]
  refine itF_back (P := fun u => ∀ x ∈ u, x < l) (lt (powB_good g n)) (fun v hv => ?_) _ u hu
  by_cases hn : n < 0
  · have e1 : powB m l s n = inv m l s := if_pos hn
    have e2 : powB m l s (-n) = m := if_neg (by omega)
    rw [e1, e2]; exact inv_img g v q1 hq hv
  · have e1 : powB m l s n = m := if_neg hn
    have e2 : powB m l s (-n) = inv m l s := if_pos (by omega)
    rw [e1, e2]; exact (img_inv g v q1 hq hv).1
open Classical in
/-- The machine of a state is equal to the state. -/
theorem mosAns_acr {m : Mach} {q : Int} (h : (mosAns m q).2 = 0) : acrAns m q (mosAns m q).1 0 = (true, 0) ∧ (mosAns m q).1.Ok := by
  rcases codeI_cases m q with h1 | h1 | ⟨l, s, q', g, rfl, hq, h1⟩
  · unfold mosAns at h; rw [h1, if_neg (by decide)] at h; cases h
  · unfold mosAns at h; rw [h1, if_neg (by decide)] at h; cases h
  · rw [mosAns_0 g hq]
    have hT := tabOf_ok g
    have hot : ∀ q x, q < (tabOf m l s).n → x < (tabOf m l s).L → (tabOf m l s).ot q x < (tabOf m l s).L := fun q x hq hx => g.ot q x hq hx
    have hinj : ∀ q, q < (tabOf m l s).n → ∀ y x, y < x → x < (tabOf m l s).L → (tabOf m l s).ot q y ≠ (tabOf m l s).ot q x := fun q hq y x hy hx => g.inj q hq y x hy hx
    have hc := fromC_few hT (show q' < (tabOf m l s).n from hq) g.s16
    obtain ⟨s2, g2⟩ := fromM_good hT hq g.l2 g.l3 hot hinj hc
    have hs := Sim.of_from hT hq g.l3 hc g2.S
    have g2' : Good (fromM (tabOf m l s) q') l s2 := g2
    have hp := pairI_0 g g2' hq g2.s1
    have hcn := (Sim.canon hs (tabOf_ok g2) hT).1
    refine ⟨?_, fromM_ok hT hq fun q x hq hx => Nat.lt_of_lt_of_le (g.ot q x hq hx) (by have := g.l3; omega)⟩
    have hA : acrAns m (q' : Int) (fromM (tabOf m l s) q') ((0 : Nat) : Int) = (decide (mcells (fromM (tabOf m l s) q') = mcells (fromM (tabOf (fromM (tabOf m l s) q') l s2) 0)), 0) := by
      unfold acrAns; rw [if_pos hp, g.L, g.S, g2'.S, g2'.L]; rfl
    have e : fromM (tabOf (fromM (tabOf m l s) q') l s2) 0 = fromM (tabOf m l s) q' := hcn
    show acrAns m (q' : Int) (fromM (tabOf m l s) q') ((0 : Nat) : Int) = (true, 0)
    rw [hA, decide_eq_true (by rw [e])]
end Go.Proofs.Ythmcdfjijkecfaa

/- CommutatorOfStates: what the program and the reference answer. -/
namespace Go.Proofs.Ythmcdfjijkecfaa
open Go.RowKit
set_option linter.unusedVariables false
set_option linter.unusedSimpArgs false
-- @LONG

/-- The four states of a commutator. -/
def comF (m : Mach) (l s q r : Nat) (i : Nat) : Mach × Nat × Nat := if i = 0 then (inv m l s, s, q) else if i = 1 then (inv m l s, s, r) else if i = 2 then (m, s, q) else (m, s, r)
open Classical in
noncomputable def comAns (m : Mach) (q r : Int) : Mach × Int :=
  if codeI m { data := #[] } [q, r] = 0 then chn (comF m m.L.toNat m.S.toNat q.toNat r.toNat) m.L.toNat 4 0 (trivM m.L.toNat) else (⟨0, 0, fun _ => 0, fun _ => 0⟩, codeI m { data := #[] } [q, r])
theorem comAns_n {m : Mach} {q r c : Int} (h : codeI m { data := #[] } [q, r] = c) (hc : c ≠ 0) : comAns m q r = (⟨0, 0, fun _ => 0, fun _ => 0⟩, c) := by
  unfold comAns; rw [h, if_neg hc]
theorem comAns_0 {m : Mach} {l s q r : Nat} (g : Good m l s) (h : codeI m { data := #[] } [(q : Int), (r : Int)] = 0) : comAns m q r = chn (comF m l s q r) l 4 0 (trivM l) := by
  unfold comAns; rw [if_pos h, g.L, g.S]; rfl
theorem codeI2_cases (m : Mach) (q r : Int) : (codeI m { data := #[] } [q] = 1 ∧ codeI m { data := #[] } [q, r] = 1) ∨ (codeI m { data := #[] } [q] = 2 ∧ codeI m { data := #[] } [q, r] = 2)
    ∨ (∃ l s, Good m l s ∧ ¬ (0 ≤ r ∧ r < (s : Int)) ∧ codeI m { data := #[] } [q] = 0 ∧ codeI m { data := #[] } [q, r] = 2)
    ∨ ∃ (l s q' r' : Nat), Good m l s ∧ q = q' ∧ r = r' ∧ q' < s ∧ r' < s ∧ codeI m { data := #[] } [q] = 0 ∧ codeI m { data := #[] } [q, r] = 0 := by
  rcases codeI_cases m q with h | h | ⟨l, s, q', g, rfl, hq, h⟩
  · refine .inl ⟨h, ?_⟩
    by_cases hm : IsM m
    · obtain ⟨l, s, g⟩ := hm.good
      exfalso
      by_cases hq : 0 ≤ q ∧ q < (s : Int)
      · rw [codeI_one g hq] at h; cases h
      · rw [codeI_bad g hq] at h; cases h
    · exact codeI_1 hm
  · refine .inr (.inl ⟨h, ?_⟩)
    by_cases hm : IsM m
    · obtain ⟨l, s, g⟩ := hm.good
      by_cases hq : 0 ≤ q ∧ q < (s : Int)
      · rw [codeI_one g hq] at h; cases h
      · exact codeI_2 g (isWd_nil _) (fun k => hq (k q (by simp)))
    · rw [codeI_1 hm] at h; cases h
  · by_cases hr : 0 ≤ r ∧ r < (s : Int)
    · obtain ⟨r', rfl⟩ := Int.eq_ofNat_of_zero_le hr.1
      exact .inr (.inr (.inr ⟨l, s, q', r', g, rfl, rfl, hq, by omega, h, codeI_0 g (isWd_nil _) (by intro x hx; simp at hx; rcases hx with rfl | rfl <;> omega)⟩))
    · exact .inr (.inr (.inl ⟨l, s, g, hr, h, codeI_2 g (isWd_nil _) (fun k => hr (k r (by simp)))⟩))

/-- What the reference makes: the first product at once. -/
def comS (m : Mach) (l s q r : Nat) : Mach × Int :=
  if fromC (prodT (inv m l s) (inv m l s) l s s) (q * s + r) = 0 then chn (comF m l s q r) l 2 2 (fromM (prodT (inv m l s) (inv m l s) l s s) (q * s + r)) else (⟨0, 0, fun _ => 0, fun _ => 0⟩, 3)
theorem com_eq {m : Mach} {l s q r : Nat} (g : Good m l s) (hq : q < s) (hr : r < s) : chn (comF m l s q r) l 4 0 (trivM l) = comS m l s q r := by
  have gB := inv_good g
  have gT := trivM_good l g.l2 g.l3
  have hin := prod_in (s' := s) (show 0 < 1 from Nat.one_pos) hq
  obtain ⟨hM, hC⟩ := next_M (inv m l s) l s q (trivM l) 1 gT
  have hs := Sim.triv gB hq
  have hT : (prodT (trivM l) (inv m l s) l 1 s).Ok := prod_ok gT gB
  have hc1 := hs.canon hT (tabOf_ok gB)
  have h0 : fromC (prodT (trivM l) (inv m l s) l 1 s) (0 * s + q) = 0 := by
    rw [hc1.2]; exact fromC_few (tabOf_ok gB) hq gB.s16
  rw [chn_0 (show nextC (comF m l s q r 0).1 l (comF m l s q r 0).2.1 (comF m l s q r 0).2.2 (trivM l) = 0 from hC ▸ h0)]
  show chn (comF m l s q r) l 3 1 (nextM (inv m l s) l s q (trivM l)) = _
  obtain ⟨s2, g2⟩ := fromM_good hT hin g.l2 g.l3 (prod_o gT gB) (prod_inj gT gB) h0
  have hsim := (Sim.of_from hT hin g.l3 h0 g2.S).trans hs
  rw [← hM]
  generalize fromM (prodT (trivM l) (inv m l s) l 1 s) (0 * s + q) = A at *
  have g2' : Good A l s2 := g2
  have hsim' : Sim (tabOf A l s2) 0 (tabOf (inv m l s) l s) q := hsim
  have hs2 := Sim.prod g2' hsim' (Sim.refl (tabOf_ok gB) hr)
  have hc2 := hs2.canon (prod_ok g2' gB) (prod_ok gB gB)
  obtain ⟨hM2, hC2⟩ := next_M (inv m l s) l s r A s2 g2'
  unfold comS
  rw [← hc2.1, ← hc2.2, hM2, hC2]
  by_cases h : nextC (inv m l s) l s r A = 0
  · rw [if_pos h]
    exact chn_0 (show nextC (comF m l s q r 1).1 l (comF m l s q r 1).2.1 (comF m l s q r 1).2.2 A = 0 from h)
  · rw [if_neg h]
    unfold chn
    rw [if_neg (show ¬ nextC (comF m l s q r 1).1 l (comF m l s q r 1).2.1 (comF m l s q r 1).2.2 A = 0 from h)]
end Go.Proofs.Ythmcdfjijkecfaa

/- Machines of few letters and states are compared by ==. -/
namespace Go.Proofs.Ythmcdfjijkecfaa
open Go.RowKit
set_option linter.unusedVariables false
set_option linter.unusedSimpArgs false

def Sm (m : Mach) : Prop := m.Ok ∧ ∃ a b : Nat, m.L = a ∧ m.S = b ∧ a ≤ 3 ∧ b ≤ 16
theorem Sm.same {m : Mach} (h : Sm m) (w : World) : (Op.equalIn 10000 27 (.agg (mcells m)) (.agg (mcells m))).run Try.prog w = .ok true w := by
  obtain ⟨hk, a, b, ha, hb, la, lb⟩ := h
  exact eq_mach w m m hk hk a b a b ha hb ha hb (by omega) (by omega) (by omega) (by omega) true (iff_of_true rfl rfl)
theorem Sm.zero : Sm ⟨0, 0, fun _ => 0, fun _ => 0⟩ := ⟨fun _ => ⟨show 0 < 256 by decide, show 0 < 256 by decide⟩, 0, 0, rfl, rfl, by decide, by decide⟩
theorem Good.sm {m : Mach} {l s : Nat} (g : Good m l s) (h : m.Ok) : Sm m := ⟨h, l, s, g.L, g.S, g.l3, g.s16⟩
theorem posAns_sm (m : Mach) (q : Int) (k : Mach) (r : Int) : Sm (posAns m q k r).1 := by
  by_cases h : (posAns m q k r).2 = 0
  · obtain ⟨l, s, t, s2, q', r', g, g', rfl, hq, rfl, hr, g2, k2, _⟩ := posAns_law h
    exact g2.sm k2
  · rcases pairI_cases m q k r with ⟨h1, _⟩ | h1 | ⟨l, s, t, q', r', g, g', rfl, hq, rfl, hr, h1⟩
    · rw [posAns_n h1 (by decide)]; exact Sm.zero
    · rw [posAns_n h1 (by decide)]; exact Sm.zero
    · rw [posAns_0 g g' h1] at h ⊢
      rcases from_cases (prodT m k l s t) (q' * t + r') with ⟨_, h2⟩ | ⟨_, _, h2⟩
      · exact absurd h2 h
      · rw [h2]; exact Sm.zero
theorem powAns_sm (m : Mach) (q n : Int) : Sm (powAns m q n).1 := by
  by_cases h : (powAns m q n).2 = 0
  · obtain ⟨l, s, s2, q', g, rfl, hq, _, _, g2, k2, _⟩ := powAns_law h
    exact g2.sm k2
  · rcases codeI_cases m q with h1 | h1 | ⟨l, s, q', g, rfl, hq, h1⟩
    · rw [powAns_n h1 (by decide)]; exact Sm.zero
    · rw [powAns_n h1 (by decide)]; exact Sm.zero
    · by_cases hn : -16 ≤ n ∧ n ≤ 16
      · rw [powAns_0 g h1 hn] at h ⊢
        unfold powR at h ⊢
        rcases chn_cases (fun _ => (powB m l s n, s, q')) l n.natAbs 0 (trivM l) with h2 | ⟨_, h2⟩
        · exact absurd h2 h
        · rw [h2]; exact Sm.zero
      · rw [powAns_r h1 hn]; exact Sm.zero
theorem mosAns_sm (m : Mach) (q : Int) : Sm (mosAns m q).1 := by
  rcases codeI_cases m q with h1 | h1 | ⟨l, s, q', g, rfl, hq, h1⟩
  · unfold mosAns; rw [h1, if_neg (by decide)]; exact Sm.zero
  · unfold mosAns; rw [h1, if_neg (by decide)]; exact Sm.zero
  · have h := mosAns_0 g hq
    have h0 : (mosAns m (q' : Int)).2 = 0 := by rw [h]
    have hk := (mosAns_acr h0).2
    rw [h] at hk ⊢
    have hT := tabOf_ok g
    have hc := fromC_few hT (show q' < (tabOf m l s).n from hq) g.s16
    obtain ⟨s2, g2⟩ := fromM_good hT hq g.l2 g.l3 (tabOf_ot g) (tabOf_inj g) hc
    exact Good.sm g2 hk
theorem chn_good (fs : Nat → Mach × Nat × Nat) (l : Nat) (hfs : ∀ i, Good (fs i).1 l (fs i).2.1 ∧ (fs i).2.2 < (fs i).2.1) : ∀ (f i : Nat) (now : Mach) (sN : Nat), Good now l sN → now.Ok → Sm (chn fs l f i now).1
  | 0, _, now, sN, gN, hN => gN.sm hN
  | f + 1, i, now, sN, gN, hN => by
    obtain ⟨hM, hC⟩ := next_M (fs i).1 l (fs i).2.1 (fs i).2.2 now sN gN
    by_cases h0 : nextC (fs i).1 l (fs i).2.1 (fs i).2.2 now = 0
    · rw [chn_0 h0]
      obtain ⟨s2, g2, k2, _⟩ := prod_law gN (hfs i).1 (show 0 < sN from gN.s1) (hfs i).2 (by rw [hC]; exact h0)
      rw [hM] at g2 k2
      exact chn_good fs l hfs f (i + 1) _ s2 g2 k2
    · rcases chn_cases fs l (f + 1) i now with h2 | ⟨_, h2⟩
      · exfalso
        unfold chn at h2
        rw [if_neg h0] at h2
        cases h2
      · rw [h2]; exact Sm.zero
theorem comAns_sm (m : Mach) (q r : Int) : Sm (comAns m q r).1 := by
  rcases codeI2_cases m q r with ⟨_, h⟩ | ⟨_, h⟩ | ⟨_, _, _, _, _, h⟩ | ⟨l, s, q', r', g, rfl, rfl, hq, hr, _, h⟩
  · rw [comAns_n h (by decide)]; exact Sm.zero
  · rw [comAns_n h (by decide)]; exact Sm.zero
  · rw [comAns_n h (by decide)]; exact Sm.zero
  · rw [comAns_0 g h]
    refine chn_good _ l (fun i => ?_) 4 0 (trivM l) 1 (trivM_good l g.l2 g.l3) (trivM_ok l g.l3)
    unfold comF
    split
    · exact ⟨inv_good g, hq⟩
    · split
      · exact ⟨inv_good g, hr⟩
      · split
        · exact ⟨g, hq⟩
        · exact ⟨g, hr⟩
end Go.Proofs.Ythmcdfjijkecfaa

/- CommutatorOfStates: the program's side. -/
namespace Go.Proofs.Ythmcdfjijkecfaa
open Go.RowKit
set_option linter.unusedVariables false
set_option linter.unusedSimpArgs false
-- @LONG

set_option maxHeartbeats 4000000 in
set_option maxRecDepth 4000 in
theorem implCom_any (w : World) (m : Mach) (hkm : m.Ok) (q r : Int) :
    Calls Try.prog 101 #[.agg (mcells m), .int .i64 q, .int .i64 r] w fun e w' => e = .returned (.tuple #[.agg (mcells (comAns m q r).1), .int .i64 (comAns m q r).2]) ∧ Below w.heap.size w w' := by
  have hz := zero_mach
  have hS := hid (((St.start w).newMB m 27).newMB ⟨0, 0, fun _ => 0, fun _ => 0⟩ 27)
  rw [heap_alloc_size] at hS
  have hcode := hid (fun W base v h => codeOf_any W m hkm { data := #[] } (by decide) base v [q, r] h (by simp))
  have hown := hid (hS.out.newOwn [Value.int .i64 q, Value.int .i64 r] 2 (by simp))
  simp only [heap_alloc_size] at hown
  rcases codeI2_cases m q r with ⟨_, h⟩ | ⟨_, h⟩ | ⟨l, s, g, _, _, h⟩ | ⟨l, s, q, r, g, rfl, rfl, hq, hr, _, h⟩
  · rw [comAns_n h (by decide)]
    rw [h] at hcode
    clear h
    replace hkm := hid hkm
    generalize hzs : mcells ⟨0, 0, fun _ => 0, fun _ => 0⟩ = zs at *
    replace hzs := hid hzs
    go_enter Try.func101, Try.ntmps101
    go_wp2_with (first
      | ((with_reducible refine gate (N := 10) rfl ?_); refine load_mach rfl _ rfl w.heap.size rfl m hS.out.m1 ?_)
      | (go_at_call 113; (with_reducible refine (hcode.out _ _ _ hown.out.o0).mono ?_); rintro e w1 ⟨rfl, hb⟩; replace hS := hid (hown.out.call hb).drop; clear hcode hown; clear hb)
      | ((with_reducible refine gate (N := 17) rfl ?_); refine build_zero rfl rfl ?_)
      | ((with_reducible refine gateOp (op := .store 27 (.tmp 6) (.tmp 17)) rfl ?_); refine store_mach rfl _ _ rfl (w.heap.size + 1) rfl ⟨0, 0, fun _ => 0, fun _ => 0⟩ rfl 27 _ hS.out.m0 ?_; intro W3 p2 ho hsz hbl; have pB := hid (hbl _ _ (Nat.le_succ _) hS.out.bel); replace p2 := hid p2; clear ho hsz hbl))
    exact ret_mach_i rfl rfl rfl p2.out rfl ⟨by rw [hzs.out], pB.out⟩
  · rw [comAns_n h (by decide)]
    rw [h] at hcode
    clear h
    replace hkm := hid hkm
    generalize hzs : mcells ⟨0, 0, fun _ => 0, fun _ => 0⟩ = zs at *
    replace hzs := hid hzs
    go_enter Try.func101, Try.ntmps101
    go_wp2_with (first
      | ((with_reducible refine gate (N := 10) rfl ?_); refine load_mach rfl _ rfl w.heap.size rfl m hS.out.m1 ?_)
      | (go_at_call 113; (with_reducible refine (hcode.out _ _ _ hown.out.o0).mono ?_); rintro e w1 ⟨rfl, hb⟩; replace hS := hid (hown.out.call hb).drop; clear hcode hown; clear hb)
      | ((with_reducible refine gate (N := 17) rfl ?_); refine build_zero rfl rfl ?_)
      | ((with_reducible refine gateOp (op := .store 27 (.tmp 6) (.tmp 17)) rfl ?_); refine store_mach rfl _ _ rfl (w.heap.size + 1) rfl ⟨0, 0, fun _ => 0, fun _ => 0⟩ rfl 27 _ hS.out.m0 ?_; intro W3 p2 ho hsz hbl; have pB := hid (hbl _ _ (Nat.le_succ _) hS.out.bel); replace p2 := hid p2; clear ho hsz hbl))
    exact ret_mach_i rfl rfl rfl p2.out rfl ⟨by rw [hzs.out], pB.out⟩
  · rw [comAns_n h (by decide)]
    rw [h] at hcode
    clear h; replace g := hid g
    replace hkm := hid hkm
    generalize hzs : mcells ⟨0, 0, fun _ => 0, fun _ => 0⟩ = zs at *
    replace hzs := hid hzs
    go_enter Try.func101, Try.ntmps101
    go_wp2_with (first
      | ((with_reducible refine gate (N := 10) rfl ?_); refine load_mach rfl _ rfl w.heap.size rfl m hS.out.m1 ?_)
      | (go_at_call 113; (with_reducible refine (hcode.out _ _ _ hown.out.o0).mono ?_); rintro e w1 ⟨rfl, hb⟩; replace hS := hid (hown.out.call hb).drop; clear hcode hown; clear hb)
      | ((with_reducible refine gate (N := 17) rfl ?_); refine build_zero rfl rfl ?_)
      | ((with_reducible refine gateOp (op := .store 27 (.tmp 6) (.tmp 17)) rfl ?_); refine store_mach rfl _ _ rfl (w.heap.size + 1) rfl ⟨0, 0, fun _ => 0, fun _ => 0⟩ rfl 27 _ hS.out.m0 ?_; intro W3 p2 ho hsz hbl; have pB := hid (hbl _ _ (Nat.le_succ _) hS.out.bel); replace p2 := hid p2; clear ho hsz hbl))
    exact ret_mach_i rfl rfl rfl p2.out rfl ⟨by rw [hzs.out], pB.out⟩
  · rw [comAns_0 g h]
    rw [h] at hcode
    have hcl := hid (fun W hW => inverse_any w.heap.size W m hW l s g hkm)
    have gB := hid (inv_good g)
    have gL := hid g.L
    have l2 := hid g.l2; have l3 := hid g.l3
    have hz2 := hid (fun L W (h : St w.heap.size w L W) => h.newMB ⟨0, 0, fun _ => 0, fun _ => 0⟩ 27)
    replace hkm := hid hkm; clear h
    have hpo := hid (productOf_any)
    obtain ⟨ans, hans⟩ : ∃ a, a = chn (comF m l s q r) l 4 0 (trivM l) := ⟨_, rfl⟩
    rw [← hans]
    replace hans := hid hans
    have hgd : Hid (∀ i, i < 4 → Good (comF m l s q r i).1 l (comF m l s q r i).2.1 ∧ (comF m l s q r i).2.2 < (comF m l s q r i).2.1) := fun i hi => by
      unfold comF
      split
      · exact ⟨gB.out, hq⟩
      · split
        · exact ⟨gB.out, hr⟩
        · split
          · exact ⟨g, hq⟩
          · exact ⟨g, hr⟩
    replace g := hid g
    generalize mcells ⟨0, 0, fun _ => 0, fun _ => 0⟩ = zs at *
    go_enter Try.func101, Try.ntmps101
    go_upto_region 5 with (first
      | ((with_reducible refine gate (N := 10) rfl ?_); refine load_mach rfl _ rfl w.heap.size rfl m hS.out.m1 ?_)
      | (go_at_call 113; (with_reducible refine (hcode.out _ _ _ hown.out.o0).mono ?_); rintro e w1 ⟨rfl, hb⟩; replace hS := hid (hown.out.call hb).drop; clear hcode hown; clear hb)
      | (go_at_call 189; (with_reducible refine (hcl.out _ hS.out.m1).mono ?_); rintro e w2 ⟨rfl, hb⟩; have hle := hid (hS.out.call hb).le; replace hS := hid (hz2.out _ _ (hS.out.call hb)); clear hcl; clear hb)
      | ((with_reducible refine gateOp (op := .store 27 (.tmp 9) (.tmp 19)) rfl ?_); refine store_mach rfl _ _ rfl w2.heap.size rfl (inv m l s) rfl 27 _ hS.out.m0 ?_; intro W2 p3 ho hsz hbl; replace hS := hid (hS.out.setM hle.out p3 ho hbl); clear p3 ho hsz hbl))
    generalize w2.heap.size = b9 at *
    generalize hbm : w.heap.size = bm at *
    replace hbm := hid hbm
    have hpo2 := hid (fun W B (hB : W.heap[B]? = some (.cells #[.pointer (some ⟨b9, 0, none⟩), .int .i64 (q : Int), .pointer (some ⟨b9, 0, none⟩), .int .i64 (r : Int), .pointer (some ⟨bm, 0, none⟩), .int .i64 (q : Int), .pointer (some ⟨bm, 0, none⟩), .int .i64 (r : Int)] 180 (0, 0))) (h9 : MB W 27 b9 (inv m l s)) (hm : MB W 27 bm m) =>
      hpo.out W B 4 4 l (comF m l s q r) (fun i => if i < 2 then b9 else bm) l2.out l3.out (by omega) (fun W' hW' i hi => by
        have hB' := (hW'.block B (Array.getElem?_eq_some_iff.1 hB).1).trans hB
        have h9' := h9.below hW' h9.lt
        have hm' := hm.below hW' hm.lt
        have hi4 : i = 0 ∨ i = 1 ∨ i = 2 ∨ i = 3 := by omega
        rcases hi4 with rfl | rfl | rfl | rfl <;>
        · refine ⟨fun j u hu => ?_, by first | exact h9' | exact hm'⟩
          rw [cell_of_row W' B _ _ _ _ hB']
          rcases j with _ | _ | j
          · simpa [comF] using hu
          · simpa [comF] using hu
          · simp at hu) hgd.out)
    have hcL := hid (fun W (hm : MB W 27 bm m) => (show W.cell? ⟨bm, 0, none⟩ = some (.int .i64 (l : Int)) from by have h := hm.cL; rw [gL.out] at h; exact h))
    have cL := hcL.out _ hS.out.m2
    replace hS := hid (hS.out.newBlk #[.pointer (some ⟨b9, 0, none⟩), .int .i64 (q : Int), .pointer (some ⟨b9, 0, none⟩), .int .i64 (r : Int), .pointer (some ⟨bm, 0, none⟩), .int .i64 (q : Int), .pointer (some ⟨bm, 0, none⟩), .int .i64 (r : Int)] 180)
    go_wp2_with (first
      | (go_at_call 195; (with_reducible refine (hpo2.out _ _ hS.out.k0 hS.out.m1 hS.out.m3).mono ?_); rintro e w5 ⟨rfl, hb⟩; replace hS := hid (hS.out.call hb); rw [← hans.out]; clear hpo2; clear hb)
      | ((with_reducible refine gateOp (op := .store 27 (.tmp 6) (.tmp 32)) rfl ?_); refine store_mach rfl _ _ rfl (bm + 1) rfl ans.1 rfl 27 _ hS.out.m2 ?_; intro W3 p2 ho hsz hbl; have pB := hid (hbl _ _ (Nat.le_succ _) hS.out.bel); replace p2 := hid p2; clear ho hsz hbl))
    exact ret_mach_i rfl rfl rfl p2.out rfl ⟨rfl, by rw [hbm.out]; exact pB.out⟩
end Go.Proofs.Ythmcdfjijkecfaa
