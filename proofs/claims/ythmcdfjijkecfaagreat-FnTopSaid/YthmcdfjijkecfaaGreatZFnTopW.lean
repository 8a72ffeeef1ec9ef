/- What the proof of FnTop leans on, part 23 of 28. -/
import Derived.Test.YthmcdfjijkecfaaGreatZFnTopV
import Derived.Laws.CopyOwn
import Derived.Laws.MakeOwn
/- copy of elements of any size, between rows. -/
namespace Go.Proofs.YthmcdfjijkecfaaGreat
open Go.RowKit
set_option linter.unusedVariables false
set_option linter.unusedSimpArgs false

/-- As many elements as the shorter of the two has go over, sz cells each. -/
theorem run_copy_N {P : Program} (w : World) (dT sT ty elem : TypeId) (sz g o dLen dCap : Nat) (a : Addr) (sLen sCap : Nat) (cur : Array Value) (t : TypeId) (cs : List Value)
    (hu : P.underlying dT = some (.slice elem)) (hs : (P.info? elem).map (·.size) = some sz)
    (hg : w.heap[g]? = some (.cells cur t (0, 0))) (hn : cs.length = Nat.min sLen dLen * sz)
    (hsrc : ∀ j v, cs[j]? = some v → w.cell? (a.add j) = some v) (hfit : o + cs.length ≤ cur.size) (h1 : ∀ v ∈ cs, v.oneCell' = true) :
    (Builtin.copy_ #[dT, sT] ty #[.slice (some ⟨g, o, none⟩) dLen dCap, .slice (some a) sLen sCap]).run P w =
      .ok (goInt (Nat.min sLen dLen)) (w.setRow g (cur.toList.take o ++ cs ++ cur.toList.drop (o + cs.length)).toArray) := by
  have hl := run_loadCells_list (P := P) w a cs hsrc
  have hst := run_storeCells_at P g o t cs 0 cur w hg (by simpa using hfit) h1
  cases hq : P.info? elem with
  | none => simp [hq] at hs
  | some i =>
    have hi : i.size = sz := by simpa [hq] using hs
    rw [hn] at hl
    simp [Builtin.copy_, run_underlying hu, Builtin.lenOf, Builtin.firstCells, sizeOf, typeInfo, hq, hi, hl, hst]

/-- .. as a law for the walk. -/
theorem wpList_copy_N {P : Program} {w : World} {ops : Array Oper} {rest : List Oper} {o : Oper} {a : Act} {Q : Exit → Act → World → Prop} (hgd : o.guard = none) (d s : Operand) (dT sT : TypeId)
    (ho : o.op = .call { callee := .builtin .copy, args := #[d, s], argTypes := #[dT, sT] }) (elem : TypeId) (sz : Nat) (hu : P.underlying dT = some (.slice elem)) (hsz : (P.info? elem).map (·.size) = some sz)
    (g off dLen dCap : Nat) (ad : Addr) (sLen sCap : Nat) (hd : a.eval d = .slice (some ⟨g, off, none⟩) dLen dCap) (hs : a.eval s = .slice (some ad) sLen sCap)
    (cur : List Value) (t : TypeId) (hg : w.heap[g]? = some (.cells cur.toArray t (0, 0))) (cs : List Value) (hn : cs.length = Nat.min sLen dLen * sz)
    (hsrc : ∀ j v, cs[j]? = some v → w.cell? (ad.add j) = some v) (hfit : off + cs.length ≤ cur.length) (h1 : ∀ v ∈ cs, v.oneCell' = true)
    (h : wpList P ops Q rest (a.put o.dst (goInt (Nat.min sLen dLen))) (w.setRow g (splice cur off cs).toArray)) : wpList P ops Q (o :: rest) a w := by
  refine wpList_plain hgd fun K hK => ?_
  have hrun := run_copy_N (P := P) w dT sT o.type elem sz g off dLen dCap ad sLen sCap cur.toArray t cs hu hsz hg hn hsrc (by simpa using hfit) h1
  unfold Oper.wp
  simp [execOp, ho, resolve, invoke, builtin, hd, hs, hrun, Result.andThen]
  have e : w.setRow g (splice cur off cs).toArray = w.setRow g (List.take off cur ++ (cs ++ List.drop (off + cs.length) cur)).toArray := rfl
  first
    | exact hK _ _ h
    | (rw [e] at h; simpa using hK _ _ h)
end Go.Proofs.YthmcdfjijkecfaaGreat

/- bits.Mul at 1 and small numbers. -/
namespace Go.Proofs.YthmcdfjijkecfaaGreat
open Go.RowKit
set_option linter.unusedVariables false
set_option linter.unusedSimpArgs false
set_option maxRecDepth 4000 in
theorem bitsMul64_small (w : World) (n : Nat) (hn : n ≤ 16) :
    Calls Tryz.prog 264 #[.int .u64 1, .int .u64 n] w fun e w' => e = .returned (.tuple #[.int .u64 0, .int .u64 n]) ∧ w = w' := by
  have h : n = 0 ∨ n = 1 ∨ n = 2 ∨ n = 3 ∨ n = 4 ∨ n = 5 ∨ n = 6 ∨ n = 7 ∨ n = 8 ∨ n = 9 ∨ n = 10 ∨ n = 11 ∨ n = 12 ∨ n = 13 ∨ n = 14 ∨ n = 15 ∨ n = 16 := by omega
  clear hn
  rcases h with rfl | rfl | rfl | rfl | rfl | rfl | rfl | rfl | rfl | rfl | rfl | rfl | rfl | rfl | rfl | rfl | rfl <;>
  · go_enter Tryz.func264, Tryz.ntmps264
    go_wp2
    go_ret2
    exact ⟨rfl, rfl⟩
theorem bitsMul_small (w : World) (n : Nat) (hn : n ≤ 16) :
    Calls Tryz.prog 238 #[.int .u64 1, .int .u64 n] w fun e w' => e = .returned (.tuple #[.int .u64 0, .int .u64 n]) ∧ w = w' := by
  have hm := hid (fun W => bitsMul64_small W n hn)
  have xn : (n : Int) % 18446744073709551616 = n := by omega
  clear hn
  go_enter Tryz.func238, Tryz.ntmps238
  go_wp2_with (first
    | (go_at_call 264; (with_reducible refine (hm.out _).mono ?_); rintro e w1 ⟨rfl, rfl⟩))
  go_ret2
  exact ⟨rfl, rfl⟩
end Go.Proofs.YthmcdfjijkecfaaGreat

/- slices.Repeat of one element, a few times. -/
namespace Go.Proofs.YthmcdfjijkecfaaGreat
open Go.RowKit
set_option linter.unusedVariables false
set_option linter.unusedSimpArgs false
-- @LONG

/-- The cells cs, n times. -/
def rp (cs : List Value) (n : Nat) : List Value := (List.range (n * cs.length)).map fun j => cs.getD (j % cs.length) undef
theorem rp_length (cs : List Value) (n : Nat) : (rp cs n).length = n * cs.length := by simp [rp]
theorem rp_get (cs : List Value) (n j : Nat) (h : j < n * cs.length) : (rp cs n)[j]? = some (cs.getD (j % cs.length) undef) := by simp [rp, h]
theorem rp_at (cs : List Value) (n i j : Nat) (u : Value) (hi : i < n) (hu : cs[j]? = some u) : (rp cs n)[i * cs.length + j]? = some u := by
  have hj := (List.getElem?_eq_some_iff.1 hu).1
  have h1 : i * cs.length + cs.length ≤ n * cs.length := by rw [← Nat.succ_mul]; exact Nat.mul_le_mul_right _ hi
  rw [rp_get _ _ _ (by omega), Nat.mul_comm i, Nat.mul_add_mod, Nat.mod_eq_of_lt hj, List.getD_eq_getElem?_getD, hu]; rfl
theorem rp_one (cs : List Value) (n : Nat) (h1 : ∀ v ∈ cs, v.oneCell' = true) : ∀ v ∈ rp cs n, v.oneCell' = true := fun v hv => by
  unfold rp at hv
  obtain ⟨j, hj, rfl⟩ := List.mem_map.1 hv
  have hj' := List.mem_range.1 hj
  have hpos : 0 < cs.length := Nat.pos_of_ne_zero (fun e => by rw [e] at hj'; simp at hj')
  have hlt := Nat.mod_lt j hpos
  rw [List.getD_eq_getElem?_getD, List.getElem?_eq_getElem hlt]
  exact h1 _ (List.getElem_mem hlt)
/-- What is in the row when k elements are there. -/
def Rep (cs : List Value) (n k : Nat) (cur : List Value) : Prop := cur.length = n * cs.length ∧ ∀ j, j < k * cs.length → cur[j]? = (rp cs n)[j]?
theorem Rep.all {cs cur : List Value} {n : Nat} (h : Rep cs n n cur) : cur = rp cs n := by
  apply List.ext_getElem?
  intro j
  by_cases hj : j < n * cs.length
  · exact h.2 j hj
  · rw [List.getElem?_eq_none (by rw [h.1]; omega), List.getElem?_eq_none (by rw [rp_length]; omega)]
theorem Rep.step {cs cur : List Value} {n k c : Nat} (h : Rep cs n k cur) (hc : k + c ≤ n) : Rep cs n (k + c) (splice cur (k * cs.length) ((rp cs n).take (c * cs.length))) := by
  have e1 : k * cs.length + c * cs.length = (k + c) * cs.length := (Nat.add_mul _ _ _).symm
  have e2 : (k + c) * cs.length ≤ n * cs.length := Nat.mul_le_mul_right _ hc
  have hl : ((rp cs n).take (c * cs.length)).length = c * cs.length := by rw [List.length_take, rp_length]; omega
  refine ⟨by rw [length_splice _ _ _ (by rw [hl, h.1]; omega)]; exact h.1, fun j hj => ?_⟩
  unfold splice
  have hk : (cur.take (k * cs.length)).length = k * cs.length := by rw [List.length_take, h.1]; omega
  by_cases hj1 : j < k * cs.length
  · rw [List.getElem?_append_left (by omega), List.getElem?_take_of_lt hj1]
    exact h.2 j hj1
  · rw [List.getElem?_append_right (by omega), hk, List.getElem?_append_left (by omega), List.getElem?_take_of_lt (by omega), rp_get _ _ _ (by omega), rp_get _ _ _ (by omega)]
    have e3 : j % cs.length = (j - k * cs.length) % cs.length := by
      conv => lhs; rw [show j = k * cs.length + (j - k * cs.length) by omega, Nat.mul_comm k, Nat.mul_add_mod]
      rw [Nat.mul_comm k]
    rw [e3]
theorem Rep.zero {cs Z : List Value} {n : Nat} (h : Z.length = n * cs.length) : Rep cs n 0 Z := ⟨h, fun j hj => by omega⟩

/-- A part that is one block, its row anew. -/
theorem St.setRow {base bn : Nat} {w0 w : World} {L : List Asn} {cs : Array Value} {t : Nat} (h : St base w0 (Asn.blk bn cs t :: L) w) (hb : base ≤ bn) (cs' : Array Value) : St base w0 (Asn.blk bn cs' t :: L) (w.setRow bn cs') :=
  h.turn (a' := Asn.blk bn cs' t) (setRow_heap w bn _ _ t _ h.star.1) (fun k hk => .inl hk) (fun k hk => (show k = bn from hk) ▸ hb) (below_setRow (Below.refl _ _) hb _)
    fun k _ hk => setRow_other w bn k _ hk
/-- copy as a step of a region that draws. -/
theorem step_copy_N {P : Program} {ops : Array Oper} {o : Oper} {a : Act} {w : World} {K : Act → World → Prop} {Q : Exit → Act → World → Prop} {E : Prop} (hgd : o.guard = none) (d s : Operand) (dT sT : TypeId)
    (ho : o.op = .call { callee := .builtin .copy, args := #[d, s], argTypes := #[dT, sT] }) (elem : TypeId) (sz : Nat) (hu : P.underlying dT = some (.slice elem)) (hsz : (P.info? elem).map (·.size) = some sz)
    (g off dLen dCap : Nat) (ad : Addr) (sLen sCap : Nat) (hd : a.eval d = .slice (some ⟨g, off, none⟩) dLen dCap) (hs : a.eval s = .slice (some ad) sLen sCap)
    (cur : List Value) (t : TypeId) (hg : w.heap[g]? = some (.cells cur.toArray t (0, 0))) (cs : List Value) (hn : cs.length = Nat.min sLen dLen * sz)
    (hsrc : ∀ j v, cs[j]? = some v → w.cell? (ad.add j) = some v) (hfit : off + cs.length ≤ cur.length) (h1 : ∀ v ∈ cs, v.oneCell' = true)
    (h : K (a.put o.dst (goInt (Nat.min sLen dLen))) (w.setRow g (splice cur off cs).toArray)) :
    if Region.wanted o (yielded ops a.tmps) = true then Oper.wp P o a w K Q else E := by
  have hw : Region.wanted o (yielded ops a.tmps) = true := by simp [Region.wanted, hgd]
  rw [if_pos hw]
  have hrun := run_copy_N (P := P) w dT sT o.type elem sz g off dLen dCap ad sLen sCap cur.toArray t cs hu hsz hg hn hsrc (by simpa using hfit) h1
  unfold Oper.wp
  simp [execOp, ho, resolve, invoke, builtin, hd, hs, hrun, Result.andThen]
  have e : w.setRow g (splice cur off cs).toArray = w.setRow g (List.take off cur ++ (cs ++ List.drop (off + cs.length) cur)).toArray := rfl
  first
    | exact h
    | (rw [e] at h; simpa using h)
/-- The numbers of times that are asked for. -/
def Few (n : Nat) : Prop := n ≤ 16 ∨ n = 27 ∨ n = 32 ∨ n = 81

end Go.Proofs.YthmcdfjijkecfaaGreat

/- PowerOfState: what the program answers. -/
namespace Go.Proofs.YthmcdfjijkecfaaGreat
open Go.RowKit
set_option linter.unusedVariables false
set_option linter.unusedSimpArgs false
-- @LONG

theorem St.callBlk {base bn t : Nat} {w0 w w' : World} {L : List Asn} {cs : Array Value} (h : St base w0 L w) (h' : St w.heap.size w [Asn.blk bn cs t] w') (hb : w.heap.size ≤ bn) : St base w0 (Asn.blk bn cs t :: L) w' :=
  h.callPush (a := Asn.blk bn cs t) h'.bel h'.k0 fun k hk => (show k = bn from hk) ▸ hb

end Go.Proofs.YthmcdfjijkecfaaGreat

/- What products, powers and machines of states do. -/
namespace Go.Proofs.YthmcdfjijkecfaaGreat
set_option linter.unusedVariables false
set_option linter.unusedSimpArgs false

/-- What a state of a table makes of a word. -/
def imgT (T : Tab) : Nat → List Nat → List Nat
  | _, [] => []
  | q, x :: u => T.ot q x :: imgT T (T.nx q x) u
theorem imgT_tab (m : Mach) (l s : Nat) : ∀ (u : List Nat) (q : Nat), imgT (tabOf m l s) q u = img m q u
  | [], _ => rfl
  | x :: u, q => by
    show m.ot (q * 3 + x) :: imgT (tabOf m l s) (m.nx (q * 3 + x)) u = _
    rw [imgT_tab m l s u]; rfl
section
variable {T U : Tab}
theorem Sim.imgT {p q : Nat} (h : Sim T p U q) : ∀ u : List Nat, (∀ x ∈ u, x < T.L) → imgT T p u = imgT U q u := by
  obtain ⟨R, h, hr⟩ := h
  intro u
  induction u generalizing p q with
  | nil => intro _; rfl
  | cons x u ih =>
    intro hu
    have hx := hu x (by simp)
    show T.ot p x :: Go.Proofs.YthmcdfjijkecfaaGreat.imgT T (T.nx p x) u = U.ot q x :: Go.Proofs.YthmcdfjijkecfaaGreat.imgT U (U.nx q x) u
    rw [h.ot hr x hx, ih (h.nx hr x hx) fun z hz => hu z (by simp [hz])]
/-- States that lead all words alike do the same. -/
theorem Sim.of_imgT (hT : T.Ok) (hU : U.Ok) (hL : T.L = U.L) {p q : Nat} (hp : p < T.n) (hq : q < U.n) (h : ∀ u : List Nat, (∀ x ∈ u, x < T.L) → Go.Proofs.YthmcdfjijkecfaaGreat.imgT T p u = Go.Proofs.YthmcdfjijkecfaaGreat.imgT U q u) : Sim T p U q := by
  refine ⟨fun a b => a < T.n ∧ b < U.n ∧ ∀ u : List Nat, (∀ x ∈ u, x < T.L) → Go.Proofs.YthmcdfjijkecfaaGreat.imgT T a u = Go.Proofs.YthmcdfjijkecfaaGreat.imgT U b u, ⟨hL, fun h => h.1, fun h => h.2.1, fun {a b} h x hx => ?_, fun {a b} h x hx => ⟨hT.nx a x h.1 hx, hU.nx b x h.2.1 (hL ▸ hx), fun u hu => ?_⟩⟩, hp, hq, h⟩
  · have := h.2.2 [x] (by simpa using hx)
    simpa [Go.Proofs.YthmcdfjijkecfaaGreat.imgT] using this
  · have := h.2.2 (x :: u) (by intro z hz; rcases List.mem_cons.1 hz with rfl | hz; exact hx; exact hu z hz)
    simp only [Go.Proofs.YthmcdfjijkecfaaGreat.imgT, List.cons.injEq] at this
    exact this.2
end
section
variable {m k : Mach} {l s t : Nat}
theorem imgT_prod (g : Good m l s) (g' : Good k l t) : ∀ (u : List Nat) (a b : Nat), a < s → b < t → (∀ x ∈ u, x < l) → imgT (prodT m k l s t) (a * t + b) u = img k b (img m a u)
  | [], _, _, _, _, _ => rfl
  | x :: u, a, b, ha, hb, hu => by
    have hx := hu x (by simp)
    show (prodT m k l s t).ot (a * t + b) x :: imgT (prodT m k l s t) ((prodT m k l s t).nx (a * t + b) x) u = k.ot (b * 3 + m.ot (a * 3 + x)) :: img k (k.nx (b * 3 + m.ot (a * 3 + x))) (img m (m.nx (a * 3 + x)) u)
    rw [prod_ot m k l s x hb rfl, prod_nx m k l s x hb rfl, imgT_prod g g' u _ _ (g.nx a x ha hx) (g'.nx b _ hb (g.ot a x ha hx)) fun z hz => hu z (by simp [hz])]
/-- The machine of a product acts as one state and then the other. -/
theorem prod_law (g : Good m l s) (g' : Good k l t) {q r : Nat} (hq : q < s) (hr : r < t) (h : fromC (prodT m k l s t) (q * t + r) = 0) :
    ∃ s2, Good (fromM (prodT m k l s t) (q * t + r)) l s2 ∧ (fromM (prodT m k l s t) (q * t + r)).Ok ∧ ∀ u : List Nat, (∀ x ∈ u, x < l) → img (fromM (prodT m k l s t) (q * t + r)) 0 u = img k r (img m q u) := by
  have hin := prod_in (s' := t) hq hr
  obtain ⟨s2, g2⟩ := fromM_good (prod_ok g g') hin g.l2 g.l3 (prod_o g g') (prod_inj g g') h
  refine ⟨s2, g2, fromM_ok (prod_ok g g') hin (prod_o256 g g'), fun u hu => ?_⟩
  have hs := Sim.of_from (prod_ok g g') hin g.l3 h g2.S
  have := hs.imgT u hu
  rw [imgT_tab, imgT_prod g g' u q r hq hr hu] at this
  exact this
theorem img_triv (l2 : 2 ≤ l) : ∀ (u : List Nat), (∀ x ∈ u, x < l) → img (trivM l) 0 u = u
  | [], _ => rfl
  | x :: u, hu => by
    have hx := hu x (by simp)
    show (if 0 * 3 + x < l then 0 * 3 + x else 0) :: img (trivM l) 0 u = x :: u
    rw [img_triv l2 u fun z hz => hu z (by simp [hz]), if_pos (by omega), show 0 * 3 + x = x by omega]
theorem triv_S (l2 : 2 ≤ l) (l3 : l ≤ 3) : (fromM (tabOf (trivM l) l 1) 0).S = 1 := by
  have hT := tabOf_ok (trivM_good l l2 l3)
  have h1 := (bfs_uniq hT (c := fix (tabOf (trivM l) l 1)) (fun r hr => fix_lt r hr) 0 Nat.one_pos 1).len
  have h2 := fin_pos (tabOf (trivM l) l 1) (fix (tabOf (trivM l) l 1)) 0
  have h3 : (fin (tabOf (trivM l) l 1) (fix (tabOf (trivM l) l 1)) 0).length ≤ 1 := h1
  unfold fromM
  rw [if_pos (by omega)]
  show ((List.length _ : Nat) : Int) = 1
  omega
/-- A state that leaves all words has the trivial machine. -/
theorem triv_canon {T : Tab} {q : Nat} (hT : T.Ok) (hq : q < T.n) (h2 : 2 ≤ T.L) (h3 : T.L ≤ 3) (h : ∀ u : List Nat, (∀ x ∈ u, x < T.L) → imgT T q u = u) : fromM T q = fromM (tabOf (trivM T.L) T.L 1) 0 ∧ fromC T q = 0 ∧ (fromM T q).S = 1 := by
  have hU := tabOf_ok (trivM_good T.L h2 h3)
  have hs : Sim T q (tabOf (trivM T.L) T.L 1) 0 := Sim.of_imgT hT hU rfl hq Nat.one_pos fun u hu => by rw [h u hu, imgT_tab, img_triv h2 u hu]
  obtain ⟨h1, h4⟩ := hs.canon hT hU
  exact ⟨h1, by rw [h4]; exact fromC_few hU Nat.one_pos (by show 1 ≤ 16; omega), by rw [h1]; exact triv_S h2 h3⟩
/-- .. so has a product that leaves all words. -/
theorem prod_triv (g : Good m l s) (g' : Good k l t) {q r : Nat} (hq : q < s) (hr : r < t) (h : ∀ u : List Nat, (∀ x ∈ u, x < l) → img k r (img m q u) = u) :
    fromC (prodT m k l s t) (q * t + r) = 0 ∧ (fromM (prodT m k l s t) (q * t + r)).S = 1 := by
  have := triv_canon (prod_ok g g') (prod_in (s' := t) hq hr) g.l2 g.l3 (fun u hu => by rw [imgT_prod g g' u q r hq hr hu]; exact h u hu)
  exact ⟨this.2.1, this.2.2⟩
/-- What a chain of one state does. -/
theorem chn_law (g : Good m l s) {q : Nat} (hq : q < s) : ∀ (f i : Nat) (now : Mach) (sN : Nat), Good now l sN → now.Ok → (chn (fun _ => (m, s, q)) l f i now).2 = 0 →
    ∃ s2, Good (chn (fun _ => (m, s, q)) l f i now).1 l s2 ∧ (chn (fun _ => (m, s, q)) l f i now).1.Ok ∧ ∀ u : List Nat, (∀ x ∈ u, x < l) → img (chn (fun _ => (m, s, q)) l f i now).1 0 u = itF (img m q) f (img now 0 u)
  | 0, _, now, sN, gN, hN, _ => ⟨sN, gN, hN, fun u hu => rfl⟩
  | f + 1, i, now, sN, gN, hN, h => by
    obtain ⟨hM, hC⟩ := next_M m l s q now sN gN
    by_cases h0 : nextC m l s q now = 0
    · have hch : chn (fun _ => (m, s, q)) l (f + 1) i now = chn (fun _ => (m, s, q)) l f (i + 1) (nextM m l s q now) := chn_0 (fs := fun _ => (m, s, q)) h0
      rw [hch] at h ⊢
      obtain ⟨s2, g2, k2, h2⟩ := prod_law gN g (show 0 < sN from gN.s1) hq (by rw [hC]; exact h0)
      rw [hM] at g2 k2 h2
      obtain ⟨s3, g3, k3, h3⟩ := chn_law g hq f (i + 1) _ s2 g2 k2 h
      refine ⟨s3, g3, k3, fun u hu => ?_⟩
      rw [h3 u hu, h2 u hu]
      have := itF_add (img m q) 1 (img now 0 u) f
      exact this.symm
    · unfold chn at h
      rw [if_neg (show ¬ nextC ((fun _ => (m, s, q)) i : Mach × Nat × Nat).1 l ((fun _ => (m, s, q)) i : Mach × Nat × Nat).2.1 ((fun _ => (m, s, q)) i : Mach × Nat × Nat).2.2 now = 0 from h0)] at h
      cases h
end
/-- A product that is made. -/
theorem posAns_law {m k : Mach} {q r : Int} (h : (posAns m q k r).2 = 0) : ∃ (l s t s2 q' r' : Nat), Good m l s ∧ Good k l t ∧ q = q' ∧ q' < s ∧ r = r' ∧ r' < t ∧ Good (posAns m q k r).1 l s2 ∧ (posAns m q k r).1.Ok ∧
    ∀ u : List Nat, (∀ x ∈ u, x < l) → img (posAns m q k r).1 0 u = img k r' (img m q' u) := by
  rcases pairI_cases m q k r with ⟨h1, _⟩ | h1 | ⟨l, s, t, q', r', g, g', rfl, hq, rfl, hr, h1⟩
  · rw [posAns_n h1 (by decide)] at h; cases h
  · rw [posAns_n h1 (by decide)] at h; cases h
  · rw [posAns_0 g g' h1] at h ⊢
    obtain ⟨s2, g2, k2, h2⟩ := prod_law g g' hq hr h
    exact ⟨l, s, t, s2, q', r', g, g', rfl, hq, rfl, hr, g2, k2, h2⟩
theorem pairI_0 {m k : Mach} {l s t q r : Nat} (g : Good m l s) (g' : Good k l t) (hq : q < s) (hr : r < t) : pairI m q k r = 0 := by
  rcases pairI_cases m q k r with ⟨h1, h2⟩ | h1 | ⟨_, _, _, _, _, _, _, _, _, _, _, h1⟩
  · unfold pairI at h1 ⊢
    by_cases hm : IsM m ∧ IsM k
    · exact absurd hm h2
    · exfalso; rw [if_neg hm] at h1
      exact hm ⟨(by have := g; exact g.isM), g'.isM⟩
  · unfold pairI at h1
    rw [if_pos ⟨g.isM, g'.isM⟩, g.S, g'.S, g.L, g'.L, if_pos ⟨⟨by omega, by omega⟩, ⟨by omega, by omega⟩, rfl⟩] at h1
    cases h1
  · exact h1
/-- A product that leaves all words is made, and has one state. -/
theorem posAns_triv {m k : Mach} {l s t q r : Nat} (g : Good m l s) (g' : Good k l t) (hq : q < s) (hr : r < t) (h : ∀ u : List Nat, (∀ x ∈ u, x < l) → img k r (img m q u) = u) :
    (posAns m q k r).2 = 0 ∧ (posAns m q k r).1.S = 1 := by
  rw [posAns_0 g g' (pairI_0 g g' hq hr)]
  exact prod_triv g g' hq hr h
section
variable {F G : List Nat → List Nat} {P : List Nat → Prop}
theorem itF_succ' (F : List Nat → List Nat) (f : Nat) (u : List Nat) : itF F (f + 1) u = itF F f (F u) := itF_add F 1 u f
theorem itF_P (hF : ∀ u, P u → P (F u)) : ∀ f u, P u → P (itF F f u)
  | 0, _, h => h
  | f + 1, u, h => hF _ (itF_P hF f u h)
theorem itF_back (hF : ∀ u, P u → P (F u)) (h : ∀ u, P u → G (F u) = u) : ∀ f u, P u → itF G f (itF F f u) = u
  | 0, _, _ => rfl
  | f + 1, u, hu => by
    rw [itF_succ']
    show itF G f (G (F (itF F f u))) = u
    rw [h _ (itF_P hF f u hu)]
    exact itF_back hF h f u hu
end
/-- A power that is made. -/
theorem powAns_law {m : Mach} {q n : Int} (h : (powAns m q n).2 = 0) : ∃ (l s s2 q' : Nat), Good m l s ∧ q = q' ∧ q' < s ∧ -16 ≤ n ∧ n ≤ 16 ∧ Good (powAns m q n).1 l s2 ∧ (powAns m q n).1.Ok ∧
    ∀ u : List Nat, (∀ x ∈ u, x < l) → img (powAns m q n).1 0 u = itF (img (powB m l s n) q') n.natAbs u := by
  rcases codeI_cases m q with h1 | h1 | ⟨l, s, q', g, rfl, hq, h1⟩
  · rw [powAns_n h1 (by decide)] at h; cases h
  · rw [powAns_n h1 (by decide)] at h; cases h
  · by_cases hn : -16 ≤ n ∧ n ≤ 16
    · rw [powAns_0 g h1 hn] at h ⊢
      obtain ⟨s2, g2, k2, h2⟩ := chn_law (powB_good g n) hq n.natAbs 0 (trivM l) 1 (trivM_good l g.l2 g.l3) (trivM_ok l g.l3) h
      refine ⟨l, s, s2, q', g, rfl, hq, hn.1, hn.2, g2, k2, fun u hu => ?_⟩
      have := h2 u hu
      rw [img_triv g.l2 u hu] at this
      exact this
    · rw [powAns_r h1 hn] at h; cases h
/-- A power and its opposite undo each other. -/
theorem powAns_opp {m : Mach} {q n : Int} (h : (powAns m q n).2 = 0) (h' : (powAns m q (-n)).2 = 0) : (posAns (powAns m q n).1 0 (powAns m q (-n)).1 0).2 = 0 ∧ (posAns (powAns m q n).1 0 (powAns m q (-n)).1 0).1.S = 1 := by
  obtain ⟨l, s, s2, q1, g, rfl, hq, hn1, hn2, g2, k2, h2⟩ := powAns_law h
  obtain ⟨l', s', s3, q3, g', e, hq', _, _, g3, k3, h3⟩ := powAns_law h'
  obtain rfl : l = l' := by have := g.L; rw [g'.L] at this; omega
  obtain rfl : s = s' := by have := g.S; rw [g'.S] at this; omega
  obtain rfl : q1 = q3 := by omega
  refine posAns_triv (q := 0) (r := 0) g2 g3 g2.s1 g3.s1 fun u hu => ?_
  have lt : ∀ {M : Mach}, Good M l s → ∀ u : List Nat, (∀ x ∈ u, x < l) → ∀ x ∈ img M q1 u, x < l := fun gM u hu => img_lt gM u q1 hq hu
  by_cases h0 : n = 0
  · subst h0
    rw [h3 _ (fun x hx => by rw [h2 u hu] at hx; exact hu x hx), h2 u hu]; rfl
  rw [h2 u hu, h3 _ (itF_P (P := fun u => ∀ x ∈ u, x < l) (lt (powB_good g n)) _ u hu), Int.natAbs_neg]
  refine itF_back (P := fun u => ∀ x ∈ u, x < l) (lt (powB_good g n)) (fun v hv => ?_) _ u hu
  by_cases hn : n < 0
  · have e1 : powB m l s n = inv m l s := if_pos hn
    have e2 : powB m l s (-n) = m := if_neg (by omega)
    rw [e1, e2]; exact inv_img g v q1 hq hv
  · have e1 : powB m l s n = m := if_neg hn
    have e2 : powB m l s (-n) = inv m l s := if_pos (by omega)
    rw [e1, e2]; exact (img_inv g v q1 hq hv).1
open Classical in
/-- The machine of a state is equal to the state. -/
theorem mosAns_acr {m : Mach} {q : Int} (h : (mosAns m q).2 = 0) : acrAns m q (mosAns m q).1 0 = (true, 0) ∧ (mosAns m q).1.Ok := by
  rcases codeI_cases m q with h1 | h1 | ⟨l, s, q', g, rfl, hq, h1⟩
  · unfold mosAns at h; rw [h1, if_neg (by decide)] at h; cases h
  · unfold mosAns at h; rw [h1, if_neg (by decide)] at h; cases h
  · rw [mosAns_0 g hq]
    have hT := tabOf_ok g
    have hot : ∀ q x, q < (tabOf m l s).n → x < (tabOf m l s).L → (tabOf m l s).ot q x < (tabOf m l s).L := fun q x hq hx => g.ot q x hq hx
    have hinj : ∀ q, q < (tabOf m l s).n → ∀ y x, y < x → x < (tabOf m l s).L → (tabOf m l s).ot q y ≠ (tabOf m l s).ot q x := fun q hq y x hy hx => g.inj q hq y x hy hx
    have hc := fromC_few hT (show q' < (tabOf m l s).n from hq) g.s16
    obtain ⟨s2, g2⟩ := fromM_good hT hq g.l2 g.l3 hot hinj hc
    have hs := Sim.of_from hT hq g.l3 hc g2.S
    have g2' : Good (fromM (tabOf m l s) q') l s2 := g2
    have hp := pairI_0 g g2' hq g2.s1
    have hcn := (Sim.canon hs (tabOf_ok g2) hT).1
    refine ⟨?_, fromM_ok hT hq fun q x hq hx => Nat.lt_of_lt_of_le (g.ot q x hq hx) (by have := g.l3; omega)⟩
    have hA : acrAns m (q' : Int) (fromM (tabOf m l s) q') ((0 : Nat) : Int) = (decide (mcells (fromM (tabOf m l s) q') = mcells (fromM (tabOf (fromM (tabOf m l s) q') l s2) 0)), 0) := by
      unfold acrAns; rw [if_pos hp, g.L, g.S, g2'.S, g2'.L]; rfl
    have e : fromM (tabOf (fromM (tabOf m l s) q') l s2) 0 = fromM (tabOf m l s) q' := hcn
    show acrAns m (q' : Int) (fromM (tabOf m l s) q') ((0 : Nat) : Int) = (true, 0)
    rw [hA, decide_eq_true (by rw [e])]
end Go.Proofs.YthmcdfjijkecfaaGreat

/- CommutatorOfStates: what the program and the reference answer. -/
namespace Go.Proofs.YthmcdfjijkecfaaGreat
open Go.RowKit
set_option linter.unusedVariables false
set_option linter.unusedSimpArgs false
-- @LONG

/-- The four states of a commutator. -/
def comF (m : Mach) (l s q r : Nat) (i : Nat) : Mach × Nat × Nat := if i = 0 then (inv m l s, s, q) else if i = 1 then (inv m l s, s, r) else if i = 2 then (m, s, q) else (m, s, r)
open Classical in
noncomputable def comAns (m : Mach) (q r : Int) : Mach × Int :=
  if codeI m { data := #[] } [q, r] = 0 then chn (comF m m.L.toNat m.S.toNat q.toNat r.toNat) m.L.toNat 4 0 (trivM m.L.toNat) else (⟨0, 0, fun _ => 0, fun _ => 0⟩, codeI m { data := #[] } [q, r])
theorem comAns_n {m : Mach} {q r c : Int} (h : codeI m { data := #[] } [q, r] = c) (hc : c ≠ 0) : comAns m q r = (⟨0, 0, fun _ => 0, fun _ => 0⟩, c) := by
  unfold comAns; rw [h, if_neg hc]
theorem comAns_0 {m : Mach} {l s q r : Nat} (g : Good m l s) (h : codeI m { data := #[] } [(q : Int), (r : Int)] = 0) : comAns m q r = chn (comF m l s q r) l 4 0 (trivM l) := by
  unfold comAns; rw [if_pos h, g.L, g.S]; rfl
theorem codeI2_cases (m : Mach) (q r : Int) : (codeI m { data := #[] } [q] = 1 ∧ codeI m { data := #[] } [q, r] = 1) ∨ (codeI m { data := #[] } [q] = 2 ∧ codeI m { data := #[] } [q, r] = 2)
    ∨ (∃ l s, Good m l s ∧ ¬ (0 ≤ r ∧ r < (s : Int)) ∧ codeI m { data := #[] } [q] = 0 ∧ codeI m { data := #[] } [q, r] = 2)
    ∨ ∃ (l s q' r' : Nat), Good m l s ∧ q = q' ∧ r = r' ∧ q' < s ∧ r' < s ∧ codeI m { data := #[] } [q] = 0 ∧ codeI m { data := #[] } [q, r] = 0 := by
  rcases codeI_cases m q with h | h | ⟨l, s, q', g, rfl, hq, h⟩
  · refine .inl ⟨h, ?_⟩
    by_cases hm : IsM m
    · obtain ⟨l, s, g⟩ := hm.good
      exfalso
      by_cases hq : 0 ≤ q ∧ q < (s : Int)
      · rw [codeI_one g hq] at h; cases h
      · rw [codeI_bad g hq] at h; cases h
    · exact codeI_1 hm
  · refine .inr (.inl ⟨h, ?_⟩)
    by_cases hm : IsM m
    · obtain ⟨l, s, g⟩ := hm.good
      by_cases hq : 0 ≤ q ∧ q < (s : Int)
      · rw [codeI_one g hq] at h; cases h
      · exact codeI_2 g (isWd_nil _) (fun k => hq (k q (by simp)))
    · rw [codeI_1 hm] at h; cases h
  · by_cases hr : 0 ≤ r ∧ r < (s : Int)
    · obtain ⟨r', rfl⟩ := Int.eq_ofNat_of_zero_le hr.1
      exact .inr (.inr (.inr ⟨l, s, q', r', g, rfl, rfl, hq, by omega, h, codeI_0 g (isWd_nil _) (by intro x hx; simp at hx; rcases hx with rfl | rfl <;> omega)⟩))
    · exact .inr (.inr (.inl ⟨l, s, g, hr, h, codeI_2 g (isWd_nil _) (fun k => hr (k r (by simp)))⟩))

/-- What the reference makes: the first product at once. -/
def comS (m : Mach) (l s q r : Nat) : Mach × Int :=
  if fromC (prodT (inv m l s) (inv m l s) l s s) (q * s + r) = 0 then chn (comF m l s q r) l 2 2 (fromM (prodT (inv m l s) (inv m l s) l s s) (q * s + r)) else (⟨0, 0, fun _ => 0, fun _ => 0⟩, 3)
theorem com_eq {m : Mach} {l s q r : Nat} (g : Good m l s) (hq : q < s) (hr : r < s) : chn (comF m l s q r) l 4 0 (trivM l) = comS m l s q r := by
  have gB := inv_good g
  have gT := trivM_good l g.l2 g.l3
  have hin := prod_in (s' := s) (show 0 < 1 from Nat.one_pos) hq
  obtain ⟨hM, hC⟩ := next_M (inv m l s) l s q (trivM l) 1 gT
  have hs := Sim.triv gB hq
  have hT : (prodT (trivM l) (inv m l s) l 1 s).Ok := prod_ok gT gB
  have hc1 := hs.canon hT (tabOf_ok gB)
  have h0 : fromC (prodT (trivM l) (inv m l s) l 1 s) (0 * s + q) = 0 := by
    rw [hc1.2]; exact fromC_few (tabOf_ok gB) hq gB.s16
  rw [chn_0 (show nextC (comF m l s q r 0).1 l (comF m l s q r 0).2.1 (comF m l s q r 0).2.2 (trivM l) = 0 from hC ▸ h0)]
  show chn (comF m l s q r) l 3 1 (nextM (inv m l s) l s q (trivM l)) = _
  obtain ⟨s2, g2⟩ := fromM_good hT hin g.l2 g.l3 (prod_o gT gB) (prod_inj gT gB) h0
  have hsim := (Sim.of_from hT hin g.l3 h0 g2.S).trans hs
  rw [← hM]
  generalize fromM (prodT (trivM l) (inv m l s) l 1 s) (0 * s + q) = A at *
  have g2' : Good A l s2 := g2
  have hsim' : Sim (tabOf A l s2) 0 (tabOf (inv m l s) l s) q := hsim
  have hs2 := Sim.prod g2' hsim' (Sim.refl (tabOf_ok gB) hr)
  have hc2 := hs2.canon (prod_ok g2' gB) (prod_ok gB gB)
  obtain ⟨hM2, hC2⟩ := next_M (inv m l s) l s r A s2 g2'
  unfold comS
  rw [← hc2.1, ← hc2.2, hM2, hC2]
  by_cases h : nextC (inv m l s) l s r A = 0
  · rw [if_pos h]
    exact chn_0 (show nextC (comF m l s q r 1).1 l (comF m l s q r 1).2.1 (comF m l s q r 1).2.2 A = 0 from h)
  · rw [if_neg h]
    unfold chn
    rw [if_neg (show ¬ nextC (comF m l s q r 1).1 l (comF m l s q r 1).2.1 (comF m l s q r 1).2.2 A = 0 from h)]
end Go.Proofs.YthmcdfjijkecfaaGreat

/- Machines of few letters and states are compared by ==. -/
namespace Go.Proofs.YthmcdfjijkecfaaGreat
open Go.RowKit
set_option linter.unusedVariables false
set_option linter.unusedSimpArgs false

def Sm (m : Mach) : Prop := m.Ok ∧ ∃ a b : Nat, m.L = a ∧ m.S = b ∧ a ≤ 3 ∧ b ≤ 16
theorem Sm.same {m : Mach} (h : Sm m) (w : World) : (Op.equalIn 10000 27 (.agg (mcells m)) (.agg (mcells m))).run Tryz.prog w = .ok true w := by
  obtain ⟨hk, a, b, ha, hb, la, lb⟩ := h
  exact eq_mach w m m hk hk a b a b ha hb ha hb (by omega) (by omega) (by omega) (by omega) true (iff_of_true rfl rfl)
theorem Sm.zero : Sm ⟨0, 0, fun _ => 0, fun _ => 0⟩ := ⟨fun _ => ⟨show 0 < 256 by decide, show 0 < 256 by decide⟩, 0, 0, rfl, rfl, by decide, by decide⟩
theorem Good.sm {m : Mach} {l s : Nat} (g : Good m l s) (h : m.Ok) : Sm m := ⟨h, l, s, g.L, g.S, g.l3, g.s16⟩
theorem posAns_sm (m : Mach) (q : Int) (k : Mach) (r : Int) : Sm (posAns m q k r).1 := by
  by_cases h : (posAns m q k r).2 = 0
  · obtain ⟨l, s, t, s2, q', r', g, g', rfl, hq, rfl, hr, g2, k2, _⟩ := posAns_law h
    exact g2.sm k2
  · rcases pairI_cases m q k r with ⟨h1, _⟩ | h1 | ⟨l, s, t, q', r', g, g', rfl, hq, rfl, hr, h1⟩
    · rw [posAns_n h1 (by decide)]; exact Sm.zero
    · rw [posAns_n h1 (by decide)]; exact Sm.zero
    · rw [posAns_0 g g' h1] at h ⊢
      rcases from_cases (prodT m k l s t) (q' * t + r') with ⟨_, h2⟩ | ⟨_, _, h2⟩
      · exact absurd h2 h
      · rw [h2]; exact Sm.zero
theorem powAns_sm (m : Mach) (q n : Int) : Sm (powAns m q n).1 := by
  by_cases h : (powAns m q n).2 = 0
  · obtain ⟨l, s, s2, q', g, rfl, hq, _, _, g2, k2, _⟩ := powAns_law h
    exact g2.sm k2
  · rcases codeI_cases m q with h1 | h1 | ⟨l, s, q', g, rfl, hq, h1⟩
    · rw [powAns_n h1 (by decide)]; exact Sm.zero
    · rw [powAns_n h1 (by decide)]; exact Sm.zero
    · by_cases hn : -16 ≤ n ∧ n ≤ 16
      · rw [powAns_0 g h1 hn] at h ⊢
        unfold powR at h ⊢
        rcases chn_cases (fun _ => (powB m l s n, s, q')) l n.natAbs 0 (trivM l) with h2 | ⟨_, h2⟩
        · exact absurd h2 h
        · rw [h2]; exact Sm.zero
      · rw [powAns_r h1 hn]; exact Sm.zero
theorem mosAns_sm (m : Mach) (q : Int) : Sm (mosAns m q).1 := by
  rcases codeI_cases m q with h1 | h1 | ⟨l, s, q', g, rfl, hq, h1⟩
  · unfold mosAns; rw [h1, if_neg (by decide)]; exact Sm.zero
  · unfold mosAns; rw [h1, if_neg (by decide)]; exact Sm.zero
  · have h := mosAns_0 g hq
    have h0 : (mosAns m (q' : Int)).2 = 0 := by rw [h]
    have hk := (mosAns_acr h0).2
    rw [h] at hk ⊢
    have hT := tabOf_ok g
    have hc := fromC_few hT (show q' < (tabOf m l s).n from hq) g.s16
    obtain ⟨s2, g2⟩ := fromM_good hT hq g.l2 g.l3 (tabOf_ot g) (tabOf_inj g) hc
    exact Good.sm g2 hk
theorem chn_good (fs : Nat → Mach × Nat × Nat) (l : Nat) (hfs : ∀ i, Good (fs i).1 l (fs i).2.1 ∧ (fs i).2.2 < (fs i).2.1) : ∀ (f i : Nat) (now : Mach) (sN : Nat), Good now l sN → now.Ok → Sm (chn fs l f i now).1
  | 0, _, now, sN, gN, hN => gN.sm hN
  | f + 1, i, now, sN, gN, hN => by
    obtain ⟨hM, hC⟩ := next_M (fs i).1 l (fs i).2.1 (fs i).2.2 now sN gN
    by_cases h0 : nextC (fs i).1 l (fs i).2.1 (fs i).2.2 now = 0
    · rw [chn_0 h0]
      obtain ⟨s2, g2, k2, _⟩ := prod_law gN (hfs i).1 (show 0 < sN from gN.s1) (hfs i).2 (by rw [hC]; exact h0)
      rw [hM] at g2 k2
      exact chn_good fs l hfs f (i + 1) _ s2 g2 k2
    · rcases chn_cases fs l (f + 1) i now with h2 | ⟨_, h2⟩
      · exfalso
        unfold chn at h2
        rw [if_neg h0] at h2
        cases h2
      · rw [h2]; exact Sm.zero
theorem comAns_sm (m : Mach) (q r : Int) : Sm (comAns m q r).1 := by
  rcases codeI2_cases m q r with ⟨_, h⟩ | ⟨_, h⟩ | ⟨_, _, _, _, _, h⟩ | ⟨l, s, q', r', g, rfl, rfl, hq, hr, _, h⟩
  · rw [comAns_n h (by decide)]; exact Sm.zero
  · rw [comAns_n h (by decide)]; exact Sm.zero
  · rw [comAns_n h (by decide)]; exact Sm.zero
  · rw [comAns_0 g h]
    refine chn_good _ l (fun i => ?_) 4 0 (trivM l) 1 (trivM_good l g.l2 g.l3) (trivM_ok l g.l3)
    unfold comF
    split
    · exact ⟨inv_good g, hq⟩
    · split
      · exact ⟨inv_good g, hr⟩
      · split
        · exact ⟨g, hq⟩
        · exact ⟨g, hr⟩
end Go.Proofs.YthmcdfjijkecfaaGreat

/- A machine drawn: a known one or any, seldom spoilt. -/
namespace Go.Proofs.YthmcdfjijkecfaaGreat
open Go.RowKit
set_option linter.unusedVariables false
set_option linter.unusedSimpArgs false
-- @LONG

/-- The texts of the known machines. -/
def tx8 : List ByteArray := [{ data := #[50, 58, 48, 97, 49, 97, 44, 49, 97, 48, 98] }, { data := #[50, 58, 48, 97, 49, 97, 44, 49, 97, 48, 97, 44, 48, 98, 49, 100, 44, 48, 98, 49, 101, 44, 48, 97, 49, 99] }, { data := #[50, 58, 48, 97, 49, 97, 44, 48, 97, 49, 99, 44, 49, 97, 48, 98] }, { data := #[50, 58, 48, 97, 49, 98, 44, 49, 97, 48, 98] }, { data := #[51, 58, 48, 97, 49, 97, 50, 97, 44, 49, 97, 48, 97, 50, 98, 44, 50, 97, 49, 99, 48, 97, 44, 48, 100, 50, 97, 49, 97] }, { data := #[51, 58, 48, 97, 49, 97, 50, 97, 44, 49, 97, 50, 97, 48, 97, 44, 48, 98, 49, 99, 50, 100, 44, 50, 97, 48, 97, 49, 97] }, { data := #[50, 58, 49, 98, 48, 99, 44, 48, 99, 49, 99, 44, 49, 97, 48, 98] }, { data := #[50, 58, 48, 98, 49, 97, 44, 49, 98, 48, 97] }]
def tx7 : List ByteArray := [{ data := #[50, 58, 48, 97, 49, 97, 44, 49, 97, 48, 98] }, { data := #[50, 58, 48, 97, 49, 97, 44, 48, 97, 49, 99, 44, 49, 97, 48, 98] }, { data := #[50, 58, 48, 97, 49, 97, 44, 49, 97, 48, 97, 44, 48, 98, 49, 100, 44, 48, 98, 49, 101, 44, 48, 97, 49, 99] }, { data := #[50, 58, 48, 98, 49, 97, 44, 49, 98, 48, 97] }, { data := #[51, 58, 48, 97, 49, 97, 50, 97, 44, 49, 97, 48, 97, 50, 98] }, { data := #[50, 58, 48, 97, 49, 98, 44, 49, 97, 48, 98] }, { data := #[51, 58, 48, 97, 49, 97, 50, 97, 44, 49, 97, 50, 97, 48, 98] }]
theorem tx8_S : ∀ t ∈ tx8, (rdS t).length ≤ 8 ∧ t.size ≤ 1000 := by decide +kernel
theorem tx7_S : ∀ t ∈ tx7, (rdS t).length ≤ 8 ∧ t.size ≤ 1000 := by decide +kernel
theorem rdAns_S {t : ByteArray} (h : (rdS t).length ≤ 8) : 0 ≤ (rdAns t).1.S ∧ (rdAns t).1.S ≤ 8 := by
  unfold rdAns
  split
  · have e : (rdM (bt t 0 - 48) (rdS t)).S = (((rdS t).length : Nat) : Int) := rfl
    show 0 ≤ (rdM (bt t 0 - 48) (rdS t)).S ∧ (rdM (bt t 0 - 48) (rdS t)).S ≤ 8
    rw [e]; omega
  · exact ⟨by decide, by decide⟩
/-- A machine with few states. -/
def Few8 (m : Mach) : Prop := m.Ok ∧ 0 ≤ m.S ∧ m.S ≤ 8
/-- .. where it is one. -/
def Low8 (m : Mach) : Prop := m.Ok ∧ (IsM m → m.S ≤ 8)
theorem MLS.few {m : Mach} {L : Int} {S : Nat} (h : MLS m L S) (hS : S ≤ 8) : Few8 m := ⟨h.1, by rw [h.2.2]; omega⟩
theorem Few8.low {m : Mach} (h : Few8 m) : Low8 m := ⟨h.1, fun _ => h.2.2⟩
section
variable {w0 w : World} {S : Nat} {v : Value} {l : List Nat} {L : List Asn}
theorem pick_two {r : Int} (h : r ∈ [2, 2, (3 : Int)]) : ∃ d : Nat, r = d ∧ (d = 2 ∨ d = 3) := by
  simp only [List.mem_cons, List.not_mem_nil, or_false] at h
  rcases h with rfl | rfl | rfl
  · exact ⟨2, rfl, .inl rfl⟩
  · exact ⟨2, rfl, .inl rfl⟩
  · exact ⟨3, rfl, .inr rfl⟩
theorem pick_six {r : Int} {k : Nat} (hk : k < 8) (h : r ∈ [1, 2, 3, 4, 5, 1 + (k : Int)]) : ∃ n : Nat, r = n ∧ n ≤ 8 := by
  simp only [List.mem_cons, List.not_mem_nil, or_false] at h
  rcases h with rfl | rfl | rfl | rfl | rfl | rfl
  · exact ⟨1, rfl, by omega⟩
  · exact ⟨2, rfl, by omega⟩
  · exact ⟨3, rfl, by omega⟩
  · exact ⟨4, rfl, by omega⟩
  · exact ⟨5, rfl, by omega⟩
  · exact ⟨1 + k, by omega, by omega⟩
set_option maxHeartbeats 4000000 in
set_option maxRecDepth 100000 in
theorem Dg.draw (D : Dg w0 S v l) (hS : St w0.heap.size w0 (Asn.src S v l.length :: L) w) :
    Calls Tryz.prog 200 #[.pointer (some ⟨S, 0, none⟩)] w fun e w' => ∃ m : Mach, e = .returned (.agg (mcells m)) ∧ Hid (Few8 m) ∧ St w0.heap.size w0 (Asn.src S v l.length :: L) w' := by
  have hN := hid (fun W L n (h0 : n ≤ 1000000000) hW => D.next (w := W) (L := L) n h0 hW)
  have hP := hid (fun W L b2 v2 M hM hMl hW => D.pick (w := W) (L := L) (b2 := b2) (v2 := v2) M hM hMl hW)
  have hA := hid (fun W L d n hd hn hW => D.any (w := W) (L := L) d n hd hn hW)
  have hrd := hid (fun W t (ht : t.size ≤ 1000) => l01Read_any W t (by omega))
  have hro := hid (fun t (ht : (rdS t).length ≤ 8) => (show Few8 (rdAns t).1 from ⟨rdAns_ok t, rdAns_S ht⟩))
  have hz := zeroM_run
  have hz2 := hid (fun L W (h : St w0.heap.size w0 (Asn.src S v l.length :: L) W) => (h.newMB zeroM 27).f1)
  have hle := hid hS.le
  have hS := hid (((hz2.out _ _ hS).newOwn [.string { data := #[50, 58, 48, 97, 49, 97, 44, 49, 97, 48, 98] }, .string { data := #[50, 58, 48, 97, 49, 97, 44, 49, 97, 48, 97, 44, 48, 98, 49, 100, 44, 48, 98, 49, 101, 44, 48, 97, 49, 99] }, .string { data := #[50, 58, 48, 97, 49, 97, 44, 48, 97, 49, 99, 44, 49, 97, 48, 98] }, .string { data := #[50, 58, 48, 97, 49, 98, 44, 49, 97, 48, 98] }, .string { data := #[51, 58, 48, 97, 49, 97, 50, 97, 44, 49, 97, 48, 97, 50, 98, 44, 50, 97, 49, 99, 48, 97, 44, 48, 100, 50, 97, 49, 97] }, .string { data := #[51, 58, 48, 97, 49, 97, 50, 97, 44, 49, 97, 50, 97, 48, 97, 44, 48, 98, 49, 99, 50, 100, 44, 50, 97, 48, 97, 49, 97] }, .string { data := #[50, 58, 49, 98, 48, 99, 44, 48, 99, 49, 99, 44, 49, 97, 48, 98] }, .string { data := #[50, 58, 48, 98, 49, 97, 44, 49, 98, 48, 97] }] 9 (by simp)).f1)
  have htx := hid (fun W L r (hr : r < 8) (hW : St w0.heap.size w0 (Asn.src S v l.length :: Asn.own w0.heap.size 9 (.slice (some ⟨w.heap.size + 1, 0, none⟩) 8 8) [.string { data := #[50, 58, 48, 97, 49, 97, 44, 49, 97, 48, 98] }, .string { data := #[50, 58, 48, 97, 49, 97, 44, 49, 97, 48, 97, 44, 48, 98, 49, 100, 44, 48, 98, 49, 101, 44, 48, 97, 49, 99] }, .string { data := #[50, 58, 48, 97, 49, 97, 44, 48, 97, 49, 99, 44, 49, 97, 48, 98] }, .string { data := #[50, 58, 48, 97, 49, 98, 44, 49, 97, 48, 98] }, .string { data := #[51, 58, 48, 97, 49, 97, 50, 97, 44, 49, 97, 48, 97, 50, 98, 44, 50, 97, 49, 99, 48, 97, 44, 48, 100, 50, 97, 49, 97] }, .string { data := #[51, 58, 48, 97, 49, 97, 50, 97, 44, 49, 97, 50, 97, 48, 97, 44, 48, 98, 49, 99, 50, 100, 44, 50, 97, 48, 97, 49, 97] }, .string { data := #[50, 58, 49, 98, 48, 99, 44, 48, 99, 49, 99, 44, 49, 97, 48, 98] }, .string { data := #[50, 58, 48, 98, 49, 97, 44, 49, 98, 48, 97] }] :: L) W) => (show ∃ t, W.cell? ⟨w.heap.size + 1, r, none⟩ = some (.string t) ∧ Hid ((rdS t).length ≤ 8) ∧ t.size ≤ 1000 from by
    have hr' : r < tx8.length := hr
    have hm := tx8_S tx8[r] (List.getElem_mem hr')
    exact ⟨tx8[r], hW.o1.cellAt r _ (by rw [show ([.string { data := #[50, 58, 48, 97, 49, 97, 44, 49, 97, 48, 98] }, .string { data := #[50, 58, 48, 97, 49, 97, 44, 49, 97, 48, 97, 44, 48, 98, 49, 100, 44, 48, 98, 49, 101, 44, 48, 97, 49, 99] }, .string { data := #[50, 58, 48, 97, 49, 97, 44, 48, 97, 49, 99, 44, 49, 97, 48, 98] }, .string { data := #[50, 58, 48, 97, 49, 98, 44, 49, 97, 48, 98] }, .string { data := #[51, 58, 48, 97, 49, 97, 50, 97, 44, 49, 97, 48, 97, 50, 98, 44, 50, 97, 49, 99, 48, 97, 44, 48, 100, 50, 97, 49, 97] }, .string { data := #[51, 58, 48, 97, 49, 97, 50, 97, 44, 49, 97, 50, 97, 48, 97, 44, 48, 98, 49, 99, 50, 100, 44, 50, 97, 48, 97, 49, 97] }, .string { data := #[50, 58, 49, 98, 48, 99, 44, 48, 99, 49, 99, 44, 49, 97, 48, 98] }, .string { data := #[50, 58, 48, 98, 49, 97, 44, 49, 98, 48, 97] }] : List Value) = strs tx8 from rfl]; simp [strs, List.getElem?_eq_getElem hr']), hid hm.1, hm.2⟩))
  simp only [heap_alloc_size] at hS
  clear D
  go_enter Tryz.func200, Tryz.ntmps200
  go_upto_region 2 with (fail)
  generalize World.alloc (World.alloc w _) _ = wA at *
  simp only [List.length_cons, List.length_nil, Nat.reduceAdd] at hS
  generalize ([.string { data := #[50, 58, 48, 97, 49, 97, 44, 49, 97, 48, 98] }, .string { data := #[50, 58, 48, 97, 49, 97, 44, 49, 97, 48, 97, 44, 48, 98, 49, 100, 44, 48, 98, 49, 101, 44, 48, 97, 49, 99] }, .string { data := #[50, 58, 48, 97, 49, 97, 44, 48, 97, 49, 99, 44, 49, 97, 48, 98] }, .string { data := #[50, 58, 48, 97, 49, 98, 44, 49, 97, 48, 98] }, .string { data := #[51, 58, 48, 97, 49, 97, 50, 97, 44, 49, 97, 48, 97, 50, 98, 44, 50, 97, 49, 99, 48, 97, 44, 48, 100, 50, 97, 49, 97] }, .string { data := #[51, 58, 48, 97, 49, 97, 50, 97, 44, 49, 97, 50, 97, 48, 97, 44, 48, 98, 49, 99, 50, 100, 44, 50, 97, 48, 97, 49, 97] }, .string { data := #[50, 58, 49, 98, 48, 99, 44, 48, 99, 49, 99, 44, 49, 97, 48, 98] }, .string { data := #[50, 58, 48, 98, 49, 97, 44, 49, 98, 48, 97] }] : List Value) = cs at *
  generalize w.heap.size + 1 = gT at *
  have mk1 : True := trivial
  go_wp2_with (first
    | (go_at_call 130; clear mk1; (with_reducible refine (hN.out _ _ _ (by omega) hS.out).mono ?_); rintro e w1 ⟨r1, rfl, _, hS'⟩; replace hS := hid hS'; clear hS')
    | (go_at_call 130; (with_reducible refine (hN.out _ _ _ (by omega) hS.out).mono ?_); rintro e w2 ⟨r, rfl, hr, hS'⟩; (have hr8 : r < 8 := by omega); (have hr9 : (r : Int) < 8 := by omega); (have r0 : (0 : Int) ≤ (r : Int) := Int.natCast_nonneg _); (have e1 : wrap64 (1 + (r : Int)) = 1 + (r : Int) := w64 (by omega) (by omega)); (refine Exists.elim (htx.out w2 _ r hr8 hS') ?_); rintro t ⟨ct, ht, hts⟩; replace hS := hid hS'; clear hS' hr)
    | (go_at_call 130; (with_reducible refine (hN.out _ _ _ (by omega) hS.out).mono ?_); rintro e w2 ⟨r, rfl, hr, hS'⟩; (have hr8 : r < 8 := by omega); (have hr9 : (r : Int) < 8 := by omega); (have r0 : (0 : Int) ≤ (r : Int) := Int.natCast_nonneg _); (have e1 : wrap64 (1 + (r : Int)) = 1 + (r : Int) := w64 (by omega) (by omega)); replace hS := hid hS'; clear hS' hr)
    | (go_at_call 237; (with_reducible refine (hrd.out _ t hts).mono ?_); rintro e w3 ⟨rfl, hb⟩; (have hle3 := hid (hS.out.call hb).le); replace hS := hid (hz2.out _ _ (hS.out.call hb)); (have hF := hid (hro.out t ht.out)); clear ct hb; generalize (rdAns t).1 = M at *; generalize (rdAns t).2 = ok at *)
    | ((with_reducible refine gateOp (op := .store 27 (.tmp 4) (.tmp 19)) rfl ?_); refine store_mach rfl _ _ rfl w3.heap.size rfl M rfl 27 _ hS.out.f1.m0 ?_; intro w4 p3 ho hsz hbl; replace hS := hid (hS.out.f1.setM hle3.out p3 ho hbl); clear p3 ho hsz hbl)
    | ((with_reducible refine gate (N := 22) rfl ?_); refine load_mach rfl _ rfl w3.heap.size rfl M hS.out.m0 ?_)
    | ((with_reducible refine gateOp (op := .store 27 (.tmp 2) (.tmp 22)) rfl ?_); refine store_mach rfl _ _ rfl w.heap.size rfl M rfl 27 _ hS.out.f3.m0 ?_; intro w5 p3 ho hsz hbl; replace hS := hid (hS.out.f3.setM hle.out p3 ho hbl); clear p3 ho hsz hbl)
    | (go_at_call 158; (first | have hS2 := hS.out.list [.int .i64 2, .int .i64 2, .int .i64 3] (by simp) | have hS2 := hS.out.f1.list [.int .i64 2, .int .i64 2, .int .i64 3] (by simp)); (with_reducible refine (hP.out _ _ _ _ [2, 2, 3] (by simp) (by simp) hS2).mono ?_); rintro e w6 ⟨d', rfl, hd', hS'⟩; obtain ⟨d, rfl, hd⟩ := pick_two hd'; replace hS := hid hS'; clear hS' hS2 hd')
    | (go_at_call 158; (have hS2 := hS.out.list [.int .i64 1, .int .i64 2, .int .i64 3, .int .i64 4, .int .i64 5, .int .i64 (1 + (r : Int))] (by simp)); (with_reducible refine (hP.out _ _ _ _ [1, 2, 3, 4, 5, 1 + (r : Int)] (by simp) (by simp) hS2).mono ?_); rintro e w7 ⟨n', rfl, hn', hS'⟩; obtain ⟨n, rfl, hn⟩ := pick_six hr8 hn'; replace hS := hid hS'; clear hS' hS2 hn')
    | (go_at_call 174; (with_reducible refine (hA.out _ _ _ _ hd (by omega) hS.out).mono ?_); rintro e w8 ⟨M, rfl, hM, hS'⟩; (have hF := hid (hM.out.few hn)); replace hS := hid hS'; clear hS')
    | ((with_reducible refine gateOp (op := .store 27 (.tmp 2) (.tmp 33)) rfl ?_); refine store_mach rfl _ _ rfl w.heap.size rfl M rfl 27 _ hS.out.f2.m0 ?_; intro w9 p3 ho hsz hbl; replace hS := hid (hS.out.f2.setM hle.out p3 ho hbl); clear p3 ho hsz hbl)
    | ((with_reducible refine gateOp (op := .store 27 (.tmp 2) (.tmp 33)) rfl ?_); refine store_mach rfl _ _ rfl w.heap.size rfl M rfl 27 _ hS.out.f3.m0 ?_; intro w9 p3 ho hsz hbl; replace hS := hid (hS.out.f3.setM hle.out p3 ho hbl); clear p3 ho hsz hbl))
  all_goals first
    | exact ret_mach rfl rfl hS.out.m0 rfl ⟨M, rfl, hF, hS.out.drop.drop.f1.drop⟩
    | exact ret_mach rfl rfl hS.out.m0 rfl ⟨M, rfl, hF, hS.out.drop.f1.drop⟩
    | exact ret_mach rfl rfl hS.out.m0 rfl ⟨M, rfl, hF, hS.out.drop.f1.drop.f1.drop⟩
theorem MB.setL {w : World} {t b : Nat} {m : Mach} (h : MB w t b m) (x : Int) : MB (w.setCell ⟨b, 0, none⟩ (.int .i64 x)) t b { m with L := x } := by
  refine World.rowIs.congr (World.rowIs.set h 0 _) (fun i hi => ?_)
  unfold mf
  by_cases e : i = 0
  · rw [if_pos e, if_pos e]
  · rw [if_neg e, if_neg e, if_neg e]
theorem MB.setS {w : World} {t b : Nat} {m : Mach} (h : MB w t b m) (x : Int) : MB (w.setCell ⟨b, 1, none⟩ (.int .i64 x)) t b { m with S := x } := by
  refine World.rowIs.congr (World.rowIs.set h 1 _) (fun i hi => ?_)
  unfold mf
  by_cases e : i = 1
  · rw [if_pos e, if_neg (by omega), if_pos e]
  · rw [if_neg e]
    by_cases e0 : i = 0
    · rw [if_pos e0, if_pos e0]
    · rw [if_neg e0, if_neg e, if_neg e0, if_neg e]
theorem St.setL {base t bn : Nat} {w0 w : World} {L : List Asn} {m : Mach} (h : St base w0 (Asn.mb t bn m :: L) w) (hb : base ≤ bn) (x : Int) : St base w0 (Asn.mb t bn { m with L := x } :: L) (w.setCell ⟨bn, 0, none⟩ (.int .i64 x)) :=
  h.turn (a' := Asn.mb t bn _) (MB.setL h.star.1 x) (fun k hk => .inl hk) (fun k hk => (show k = bn from hk) ▸ hb) ((Below.refl _ _).setCell hb _) fun k _ hk => heap_setCell_other w ⟨bn, _, none⟩ k _ hk
theorem St.setS {base t bn : Nat} {w0 w : World} {L : List Asn} {m : Mach} (h : St base w0 (Asn.mb t bn m :: L) w) (hb : base ≤ bn) (x : Int) : St base w0 (Asn.mb t bn { m with S := x } :: L) (w.setCell ⟨bn, 1, none⟩ (.int .i64 x)) :=
  h.turn (a' := Asn.mb t bn _) (MB.setS h.star.1 x) (fun k hk => .inl hk) (fun k hk => (show k = bn from hk) ▸ hb) ((Below.refl _ _).setCell hb _) fun k _ hk => heap_setCell_other w ⟨bn, _, none⟩ k _ hk
theorem IsM.few {m : Mach} (h : IsM m) : 1 ≤ m.S ∧ m.S ≤ 16 := by
  obtain ⟨l, s, g⟩ := h.good
  have := g.S; have := g.s1; have := g.s16
  omega
theorem Few8.setL {m : Mach} (h : Few8 m) (x : Int) : Low8 { m with L := x } := ⟨h.1, fun _ => h.2.2⟩
theorem Few8.setS {m : Mach} (h : Few8 m) {x : Int} (hx : x ∈ [0, 17, -1, wrap64 (m.S - 1)]) : Low8 { m with S := x } := by
  refine ⟨h.1, fun hm => ?_⟩
  have h2 := hm.few
  have h3 : 1 ≤ x ∧ x ≤ 16 := h2
  show x ≤ 8
  have h4 := h.2.1; have h5 := h.2.2
  rw [w64 (by omega) (by omega)] at hx
  simp only [List.mem_cons, List.not_mem_nil, or_false] at hx
  rcases hx with rfl | rfl | rfl | rfl <;> omega
theorem Few8.setN {m : Mach} (h : Few8 m) (i v : Nat) (hv : v < 256) : Low8 { m with nx := upd m.nx i v } := ⟨(MLS.nx (L := m.L) (S := m.S) ⟨h.1, rfl, rfl⟩ i v hv).1, fun _ => h.2.2⟩
theorem Few8.setO {m : Mach} (h : Few8 m) (i v : Nat) (hv : v < 256) : Low8 { m with ot := upd m.ot i v } := ⟨(MLS.ot (L := m.L) (S := m.S) ⟨h.1, rfl, rfl⟩ i v hv).1, fun _ => h.2.2⟩
set_option maxHeartbeats 4000000 in
set_option maxRecDepth 100000 in
theorem Dg.bad (D : Dg w0 S v l) (m : Mach) (hm : Few8 m) (hS : St w0.heap.size w0 (Asn.src S v l.length :: L) w) :
    Calls Tryz.prog 199 #[.pointer (some ⟨S, 0, none⟩), .agg (mcells m)] w fun e w' => ∃ m : Mach, e = .returned (.agg (mcells m)) ∧ Hid (Low8 m) ∧ St w0.heap.size w0 (Asn.src S v l.length :: L) w' := by
  have hN := hid (fun W L n (h0 : n ≤ 1000000000) hW => D.next (w := W) (L := L) n h0 hW)
  have hP := hid (fun W L b2 v2 M hM hMl hW => D.pick (w := W) (L := L) (b2 := b2) (v2 := v2) M hM hMl hW)
  have hz := zeroM_run
  have hle := hid hS.le
  have hS := hid (((hS.newMB m 27).f1.newMB zeroM 27).f1)
  have hle2 := hid (show w0.heap.size ≤ w.heap.size + 1 from Nat.le_succ_of_le hle.out)
  simp only [heap_alloc_size] at hS
  replace hm := hid hm
  clear D
  go_enter Tryz.func199, Tryz.ntmps199
  go_upto_region 2 with (first
    | (go_at_call 130; (with_reducible refine (hN.out _ _ _ (by omega) hS.out).mono ?_); rintro e w1 ⟨k, rfl, _, hS'⟩; replace hS := hid hS'; clear hS'))
  generalize w.heap.size + 1 = b4 at *
  have cL := hS.out.m2.cL
  have cS := hS.out.m2.cS
  have fL : w1.frozen? ⟨w.heap.size, 0, none⟩ = false := World.rowIs.frozen hS.out.m2 _
  have fS : w1.frozen? ⟨w.heap.size, 1, none⟩ = false := World.rowIs.frozen hS.out.m2 _
  by_cases k0 : k = 0
  · subst k0
    go_upto_region 10 with (first
      | (go_at_call 158; (have hS2 := hS.out.list [.int .i64 0, .int .i64 1, .int .i64 4, .int .i64 (-1), .int .i64 (wrap64 (5 - m.L))] (by simp)); (with_reducible refine (hP.out _ _ _ _ [0, 1, 4, -1, wrap64 (5 - m.L)] (by simp) (by simp) hS2).mono ?_); rintro e w6 ⟨x, rfl, _, hS'⟩; replace hS := hid hS'; clear hS' hS2 cL cS fL fS; (obtain ⟨vl, cL⟩ : ∃ u, w6.cell? ⟨w.heap.size, 0, none⟩ = some u := ⟨_, hS.out.m2.cL⟩); (have fL : w6.frozen? ⟨w.heap.size, 0, none⟩ = false := World.rowIs.frozen hS.out.m2 _)))
    replace hS := hid (hS.out.f2.setL hle.out x)
    have hF := hid (hm.out.setL x)
    generalize World.setCell w6 _ _ = wz at *
    generalize hMM : Mach.mk _ _ _ _ = M at hS hF
    clear hMM
    go_wp2_with (first
      | ((with_reducible refine gate (N := 49) rfl ?_); refine load_mach rfl _ rfl w.heap.size rfl M hS.out.m0 ?_)
      | ((with_reducible refine gateOp (op := .store 27 (.tmp 4) (.tmp 49)) rfl ?_); refine store_mach rfl _ _ rfl b4 rfl M rfl 27 _ hS.out.f2.m0 ?_; intro w9 p3 ho hsz hbl; replace hS := hid (hS.out.f2.setM hle2.out p3 ho hbl); clear p3 ho hsz hbl))
    exact ret_mach rfl rfl hS.out.m0 rfl ⟨M, rfl, hF, hS.out.drop.drop⟩
  · have d0 : ((k : Int) == 0) = false := by simp; omega
    by_cases k1 : k = 1
    · subst k1
      go_upto_region 10 with (first
        | (go_at_call 158; (have hS2 := hS.out.list [.int .i64 0, .int .i64 17, .int .i64 (-1), .int .i64 (wrap64 (m.S - 1))] (by simp)); (with_reducible refine (hP.out _ _ _ _ [0, 17, -1, wrap64 (m.S - 1)] (by simp) (by simp) hS2).mono ?_); rintro e w6 ⟨x, rfl, hx, hS'⟩; replace hS := hid hS'; replace hx := hid hx; clear hS' hS2 cL cS fL fS; (obtain ⟨vl, cL⟩ : ∃ u, w6.cell? ⟨w.heap.size, 1, none⟩ = some u := ⟨_, hS.out.m2.cS⟩); (have fL : w6.frozen? ⟨w.heap.size, 1, none⟩ = false := World.rowIs.frozen hS.out.m2 _)))
      replace hS := hid (hS.out.f2.setS hle.out x)
      have hF := hid (hm.out.setS hx.out)
      generalize World.setCell w6 _ _ = wz at *
      generalize hMM : Mach.mk _ _ _ _ = M at hS hF
      clear hMM
      go_wp2_with (first
        | ((with_reducible refine gate (N := 49) rfl ?_); refine load_mach rfl _ rfl w.heap.size rfl M hS.out.m0 ?_)
        | ((with_reducible refine gateOp (op := .store 27 (.tmp 4) (.tmp 49)) rfl ?_); refine store_mach rfl _ _ rfl b4 rfl M rfl 27 _ hS.out.f2.m0 ?_; intro w9 p3 ho hsz hbl; replace hS := hid (hS.out.f2.setM hle2.out p3 ho hbl); clear p3 ho hsz hbl))
      exact ret_mach rfl rfl hS.out.m0 rfl ⟨M, rfl, hF, hS.out.drop.drop⟩
    · have d1 : ((k : Int) == 1) = false := by simp; omega
      by_cases k2 : k = 2
      · subst k2
        go_upto_region 7 with (fail)
        have mk1 : True := trivial
        have mk2 : True := trivial
        clear cL cS fL fS
        go_region_with (first
          | (go_at_call 130; clear mk1; (with_reducible refine (hN.out _ _ _ (by omega) hS.out.drew).mono ?_); rintro e w5 ⟨r, rfl, hr, hS'⟩; (have r0 : (0 : Int) ≤ (r : Int) := Int.natCast_nonneg _); (have r1 : (r : Int) < 16 := by omega); replace hS := hid hS'; clear hS')
          | (go_at_call 130; clear mk2; (with_reducible refine (hN.out _ _ _ (by omega) hS.out).mono ?_); rintro e w6 ⟨x, rfl, hx, hS'⟩; (have x0 : (0 : Int) ≤ (x : Int) := Int.natCast_nonneg _); (have x1 : (x : Int) < 3 := by omega); replace hS := hid hS'; clear hS')
          | (go_at_call 130; (with_reducible refine (hN.out _ _ _ (by omega) hS.out).mono ?_); rintro e w7 ⟨y, rfl, hy, hS'⟩; replace hS := hid hS'; clear hS'; (have y1 : y < 256 := by omega); (have e1 : IntKind.u8.wrap (y : Int) = y := u8_of y y1); (have hrx := hid (show r < 16 ∧ x < 3 by omega)); (obtain ⟨vn, cn⟩ : ∃ u, w7.cell? ⟨w.heap.size, 2 + r * 3 + x, none⟩ = some u := ⟨_, hS.out.m2.cnx r x hrx.out.1 hrx.out.2⟩); (have fn : w7.frozen? ⟨w.heap.size, 2 + r * 3 + x, none⟩ = false := World.rowIs.frozen hS.out.m2 _)))
        replace hS := hid (hS.out.f2.setNx hle.out r x y hrx.out.1 hrx.out.2)
        have hF := hid (hm.out.setN (r * 3 + x) y y1)
        generalize World.setCell w7 _ _ = wz at *
        generalize hMM : Mach.mk _ _ _ _ = M at hS hF
        clear hMM
        go_wp2_with (first
          | ((with_reducible refine gate (N := 49) rfl ?_); refine load_mach rfl _ rfl w.heap.size rfl M hS.out.m0 ?_)
          | ((with_reducible refine gateOp (op := .store 27 (.tmp 4) (.tmp 49)) rfl ?_); refine store_mach rfl _ _ rfl b4 rfl M rfl 27 _ hS.out.f2.m0 ?_; intro w9 p3 ho hsz hbl; replace hS := hid (hS.out.f2.setM hle2.out p3 ho hbl); clear p3 ho hsz hbl))
        exact ret_mach rfl rfl hS.out.m0 rfl ⟨M, rfl, hF, hS.out.drop.drop⟩
      · have d2 : ((k : Int) == 2) = false := by simp; omega
        by_cases k3 : k = 3
        · subst k3
          go_upto_region 9 with (fail)
          have mk1 : True := trivial
          have mk2 : True := trivial
          clear cL cS fL fS
          go_region_with (first
            | (go_at_call 130; clear mk1; (with_reducible refine (hN.out _ _ _ (by omega) hS.out.drew).mono ?_); rintro e w5 ⟨r, rfl, hr, hS'⟩; (have r0 : (0 : Int) ≤ (r : Int) := Int.natCast_nonneg _); (have r1 : (r : Int) < 16 := by omega); replace hS := hid hS'; clear hS')
            | (go_at_call 130; clear mk2; (with_reducible refine (hN.out _ _ _ (by omega) hS.out).mono ?_); rintro e w6 ⟨x, rfl, hx, hS'⟩; (have x0 : (0 : Int) ≤ (x : Int) := Int.natCast_nonneg _); (have x1 : (x : Int) < 3 := by omega); replace hS := hid hS'; clear hS')
            | (go_at_call 130; (with_reducible refine (hN.out _ _ _ (by omega) hS.out).mono ?_); rintro e w7 ⟨y, rfl, hy, hS'⟩; replace hS := hid hS'; clear hS'; (have y1 : y < 256 := by omega); (have e1 : IntKind.u8.wrap (y : Int) = y := u8_of y y1); (have hrx := hid (show r < 16 ∧ x < 3 by omega)); (obtain ⟨vn, cn⟩ : ∃ u, w7.cell? ⟨w.heap.size, 50 + r * 3 + x, none⟩ = some u := ⟨_, hS.out.m2.cot r x hrx.out.1 hrx.out.2⟩); (have fn : w7.frozen? ⟨w.heap.size, 50 + r * 3 + x, none⟩ = false := World.rowIs.frozen hS.out.m2 _)))
          replace hS := hid (hS.out.f2.setOt hle.out r x y hrx.out.1 hrx.out.2)
          have hF := hid (hm.out.setO (r * 3 + x) y y1)
          generalize World.setCell w7 _ _ = wz at *
          generalize hMM : Mach.mk _ _ _ _ = M at hS hF
          clear hMM
          go_wp2_with (first
            | ((with_reducible refine gate (N := 49) rfl ?_); refine load_mach rfl _ rfl w.heap.size rfl M hS.out.m0 ?_)
            | ((with_reducible refine gateOp (op := .store 27 (.tmp 4) (.tmp 49)) rfl ?_); refine store_mach rfl _ _ rfl b4 rfl M rfl 27 _ hS.out.f2.m0 ?_; intro w9 p3 ho hsz hbl; replace hS := hid (hS.out.f2.setM hle2.out p3 ho hbl); clear p3 ho hsz hbl))
          exact ret_mach rfl rfl hS.out.m0 rfl ⟨M, rfl, hF, hS.out.drop.drop⟩
        · have d3 : ((k : Int) == 3) = false := by simp; omega
          replace hS := hid hS.out.f2
          have hF := hid hm.out.low
          clear cL cS fL fS
          go_wp2_with (first
            | ((with_reducible refine gate (N := 49) rfl ?_); refine load_mach rfl _ rfl w.heap.size rfl m hS.out.m0 ?_)
            | ((with_reducible refine gateOp (op := .store 27 (.tmp 4) (.tmp 49)) rfl ?_); refine store_mach rfl _ _ rfl b4 rfl m rfl 27 _ hS.out.f2.m0 ?_; intro w9 p3 ho hsz hbl; replace hS := hid (hS.out.f2.setM hle2.out p3 ho hbl); clear p3 ho hsz hbl))
          exact ret_mach rfl rfl hS.out.m0 rfl ⟨m, rfl, hF, hS.out.drop.drop⟩
set_option maxHeartbeats 4000000 in
set_option maxRecDepth 100000 in
theorem Dg.spoil (D : Dg w0 S v l) (hS : St w0.heap.size w0 (Asn.src S v l.length :: L) w) :
    Calls Tryz.prog 105 #[.pointer (some ⟨S, 0, none⟩)] w fun e w' => ∃ m : Mach, e = .returned (.agg (mcells m)) ∧ Hid (Low8 m) ∧ St w0.heap.size w0 (Asn.src S v l.length :: L) w' := by
  have hR := hid (fun W L hW => D.draw (w := W) (L := L) hW)
  have hB := hid (fun W L m hm hW => D.bad (w := W) (L := L) m hm hW)
  have hz := zeroM_run
  have hle := hid hS.le
  have hS := hid ((hS.newMB zeroM 27).f1)
  clear D
  go_enter Tryz.func105, Tryz.ntmps105
  go_wp2_with (first
    | (go_at_call 200; (with_reducible refine (hR.out _ _ hS.out).mono ?_); rintro e w1 ⟨m0, rfl, hm, hS'⟩; replace hS := hid hS'; clear hS')
    | (go_at_call 199; (with_reducible refine (hB.out _ _ m0 hm.out hS.out).mono ?_); rintro e w2 ⟨M, rfl, hF, hS'⟩; replace hS := hid hS'; clear hS')
    | ((with_reducible refine gateOp (op := .store 27 (.tmp 2) (.tmp 6)) rfl ?_); refine store_mach rfl _ _ rfl w.heap.size rfl M rfl 27 _ hS.out.f1.m0 ?_; intro w9 p3 ho hsz hbl; replace hS := hid (hS.out.f1.setM hle.out p3 ho hbl); clear p3 ho hsz hbl))
  exact ret_mach rfl rfl hS.out.m0 rfl ⟨M, rfl, hF, hS.out.drop⟩
end
end Go.Proofs.YthmcdfjijkecfaaGreat

/- Draws of machines and levels. -/
namespace Go.Proofs.YthmcdfjijkecfaaGreat
open Go.RowKit
set_option linter.unusedVariables false
set_option linter.unusedSimpArgs false
-- @LONG

theorem Low8.ok {m : Mach} (h : Low8 m) : m.Ok := h.1
theorem ret_mvv {fn : Func} {R : Ending → World → Prop} {a : Act} {w : World} {p q r : Nat} (h : fn.results = #[.cell p 27, .tmp q, .tmp r]) {g t : Nat} {m : Mach} {v u : Value}
    (hp : a.tmps.getD p undef = .pointer (some ⟨g, 0, none⟩)) (hq : a.tmps.getD q undef = v) (hr : a.tmps.getD r undef = u) (hm : MB w t g m) (hdf : a.defers = []) (hR : R (.returned (.tuple #[.agg (mcells m), v, u])) w) : bodyPost Tryz.prog fn R .ret a w := by
  refine bodyPost_ret (v := .tuple #[.agg (mcells m), v, u]) ?_ hdf hR
  have hp' : a.tmps[p]?.getD undef = .pointer (some ⟨g, 0, none⟩) := by simpa using hp
  have hq' : a.tmps[q]?.getD undef = v := by simpa using hq
  have hr' : a.tmps[r]?.getD undef = u := by simpa using hr
  have := run_loadVar_row (P := Tryz.prog) w g t 27 (mcells m) (0, 0) _ hm.heap Tryz.underlying27 rfl (by rw [size_mcells]; exact sz_mach)
  simp [results, h, hp', hq', hr', asAddr, this]
theorem ret_mvvv {fn : Func} {R : Ending → World → Prop} {a : Act} {w : World} {p q r s : Nat} (h : fn.results = #[.cell p 27, .tmp q, .tmp r, .tmp s]) {g t : Nat} {m : Mach} {v u x : Value}
    (hp : a.tmps.getD p undef = .pointer (some ⟨g, 0, none⟩)) (hq : a.tmps.getD q undef = v) (hr : a.tmps.getD r undef = u) (hs : a.tmps.getD s undef = x) (hm : MB w t g m) (hdf : a.defers = []) (hR : R (.returned (.tuple #[.agg (mcells m), v, u, x])) w) : bodyPost Tryz.prog fn R .ret a w := by
  refine bodyPost_ret (v := .tuple #[.agg (mcells m), v, u, x]) ?_ hdf hR
  have hp' : a.tmps[p]?.getD undef = .pointer (some ⟨g, 0, none⟩) := by simpa using hp
  have hq' : a.tmps[q]?.getD undef = v := by simpa using hq
  have hr' : a.tmps[r]?.getD undef = u := by simpa using hr
  have hs' : a.tmps[s]?.getD undef = x := by simpa using hs
  have := run_loadVar_row (P := Tryz.prog) w g t 27 (mcells m) (0, 0) _ hm.heap Tryz.underlying27 rfl (by rw [size_mcells]; exact sz_mach)
  simp [results, h, hp', hq', hr', hs', asAddr, this]
theorem Dg.from {w W : World} {v : Value} {l : List Nat} {L : List Asn} (hv : ArgB w v l) (hl : l.length ≤ 4096) (hS : St w.heap.size w L W) :
    Calls Tryz.prog 104 #[v] W fun e w' => ∃ S, e = .returned (.pointer (some ⟨S, 0, none⟩)) ∧ Hid (Dg w S v l) ∧ St w.heap.size w (Asn.src S v l.length :: L) w' := by
  refine (l01From_any W v l (hv.below hS.bel) hl).mono ?_
  rintro e w' ⟨rfl, h⟩
  exact ⟨_, rfl, hid ⟨hv, hl, hS.le⟩, hS.callPush (a := Asn.src W.heap.size v l.length) h.bel h.star.1 fun k hk => Nat.le_of_eq (show k = W.heap.size from hk).symm⟩
section
variable {w0 w : World} {S : Nat} {v : Value} {l : List Nat} {L : List Asn}
theorem power_small (d n : Int) (hd : 1 ≤ d ∧ d ≤ 3) (hn : 0 ≤ n ∧ n ≤ 5) (w : World) : Calls Tryz.prog 120 #[.int .i64 d, .int .i64 n] w fun e w' => ∃ r : Int, e = .returned (.int .i64 r) ∧ 1 ≤ r ∧ r ≤ 243 ∧ w = w' := by
  obtain ⟨d, rfl⟩ := Int.eq_ofNat_of_zero_le (show 0 ≤ d by omega)
  obtain ⟨n, rfl⟩ := Int.eq_ofNat_of_zero_le hn.1
  have hb : pw d n ≤ 243 := by
    have h1 := pw_le d (by omega) (n := n) (k := 5) (by omega)
    have h2 : d = 1 ∨ d = 2 ∨ d = 3 := by omega
    have h3 : pw d 5 ≤ 243 := by rcases h2 with rfl | rfl | rfl <;> decide
    omega
  have hp := pw_pos d (by omega) n
  refine (l01Power_any d n (by omega) (by omega) (by omega) w).mono ?_
  rintro e w' ⟨rfl, rfl⟩
  exact ⟨_, rfl, by omega, by omega, rfl⟩
set_option maxHeartbeats 2000000 in
set_option maxRecDepth 100000 in
theorem Dg.place (D : Dg w0 S v l) (m : Mach) (n : Int) (hS : St w0.heap.size w0 (Asn.src S v l.length :: L) w) :
    Calls Tryz.prog 107 #[.pointer (some ⟨S, 0, none⟩), .agg (mcells m), .int .i64 n] w fun e w' => ∃ r : Int, e = .returned (.int .i64 r) ∧ Hid (I64 r) ∧ St w0.heap.size w0 (Asn.src S v l.length :: L) w' := by
  have hN := hid (fun W L n (h0 : -1 ≤ n) (h1 : n ≤ 1000000) hW => D.near (w := W) (L := L) n h0 h1 hW)
  have hPw := hid power_small
  replace hS := hid (hS.newMB m 27).f1
  have cL := hS.out.m1.cL
  clear D
  go_enter Tryz.func107, Tryz.ntmps107
  go_wp2_with (first
    | (go_at_call 120; (with_reducible refine (hPw.out _ _ (by (repeat' split) <;> omega) (by (repeat' split) <;> omega) _).mono ?_); rintro e w1 ⟨r, rfl, hr1, hr2, rfl⟩; have ew : wrap64 (r - 1) = r - 1 := w64 (by omega) (by omega))
    | (go_at_call 140; (with_reducible refine (hN.out _ _ _ (by omega) (by omega) hS.out).mono ?_); rintro e w1 ⟨x, rfl, hr, hS'⟩; clear hS; have hS := hid hS'.f1.drop; clear hS' cL))
  all_goals go_ret
  all_goals exact ⟨_, rfl, hr, hS.out⟩
end
set_option maxHeartbeats 2000000 in
set_option maxRecDepth 100000 in
theorem l05Draw_any (w : World) (v : Value) (l : List Nat) (hv : ArgB w v l) (hl : l.length ≤ 4096) :
    Calls Tryz.prog 118 #[v] w fun e w' => ∃ (m : Mach) (n : Int), e = .returned (.tuple #[.agg (mcells m), .int .i64 n]) ∧ Hid (Low8 m ∧ I64 n) ∧ Below w.heap.size w w' := by
  have hz := zeroM_run
  have hS := hid ((St.start w).newMB zeroM 27)
  have hfr := hid (fun W L hW => Dg.from (w := w) (W := W) (L := L) hv hl hW)
  replace hv := hid hv
  obtain ⟨A, c, rfl, _⟩ := hv.out
  go_enter Tryz.func118, Tryz.ntmps118
  go_wp2_with (first
    | (go_at_call 104; (with_reducible refine (hfr.out _ _ hS.out).mono ?_); rintro e w1 ⟨S, rfl, D, hS'⟩; replace hS := hid hS'; clear hS')
    | (go_at_call 105; (with_reducible refine (D.out.spoil hS.out).mono ?_); rintro e w2 ⟨M, rfl, hM, hS'⟩; replace hS := hid hS'; clear hS')
    | (go_at_call 106; (with_reducible refine (D.out.level hS.out).mono ?_); rintro e w3 ⟨n, rfl, hn, hS'⟩; replace hS := hid hS'; clear hS')
    | ((with_reducible refine gateOp (op := .store 27 (.tmp 2) (.tmp 8)) rfl ?_); refine store_mach rfl _ _ rfl w.heap.size rfl M rfl 27 _ hS.out.f1.m0 ?_; intro w4 p3 ho hsz hbl; replace hS := hid (hS.out.f1.setM (Nat.le_refl _) p3 ho hbl); clear p3 ho hsz hbl))
  exact ret_mach_v rfl rfl rfl hS.out.m0 rfl ⟨M, n, rfl, hid ⟨hM.out, hn.out⟩, hS.out.bel⟩
set_option maxHeartbeats 2000000 in
set_option maxRecDepth 100000 in
theorem drEdg_any (w : World) (v : Value) (l : List Nat) (hv : ArgB w v l) (hl : l.length ≤ 4096) :
    Calls Tryz.prog 27 #[v] w fun e w' => ∃ (m : Mach) (n : Int), e = .returned (.tuple #[.agg (mcells m), .int .i64 n]) ∧ Hid (Low8 m ∧ I64 n) ∧ Below w.heap.size w w' := by
  have hz := zeroM_run
  have hS := hid ((St.start w).newMB zeroM 27)
  have hdr := hid (fun W (hW : Below w.heap.size w W) => l05Draw_any W v l (hv.below hW) hl)
  have hz2 := hid (fun L W (h : St w.heap.size w L W) => h.newMB zeroM 27)
  replace hv := hid hv
  obtain ⟨A, c, rfl, _⟩ := hv.out
  go_enter Tryz.func27, Tryz.ntmps27
  go_wp2_with (first
    | (go_at_call 118; (with_reducible refine (hdr.out _ hS.out.bel).mono ?_); rintro e w1 ⟨M, n, rfl, hF, hb⟩; have hle := hid (hS.out.call hb).le; replace hS := hid (hz2.out _ _ (hS.out.call hb)); clear hb)
    | ((with_reducible refine gateOp (op := .store 27 (.tmp 4) (.tmp 9)) rfl ?_); refine store_mach rfl _ _ rfl w1.heap.size rfl M rfl 27 _ hS.out.m0 ?_; intro w2 p3 ho hsz hbl; replace hS := hid (hS.out.setM hle.out p3 ho hbl); clear p3 ho hsz hbl)
    | ((with_reducible refine gate (N := 11) rfl ?_); refine load_mach rfl _ rfl w1.heap.size rfl M hS.out.m0 ?_)
    | ((with_reducible refine gateOp (op := .store 27 (.tmp 2) (.tmp 11)) rfl ?_); refine store_mach rfl _ _ rfl w.heap.size rfl M rfl 27 _ hS.out.f1.m0 ?_; intro w4 p3 ho hsz hbl; replace hS := hid (hS.out.f1.setM (Nat.le_refl _) p3 ho hbl); clear p3 ho hsz hbl))
  exact ret_mach_v rfl rfl rfl hS.out.m0 rfl ⟨M, n, rfl, hF, hS.out.bel⟩
set_option maxHeartbeats 2000000 in
set_option maxRecDepth 100000 in
theorem drDia_any (w : World) (v : Value) (l : List Nat) (hv : ArgB w v l) (hl : l.length ≤ 4096) :
    Calls Tryz.prog 30 #[v] w fun e w' => ∃ (m : Mach) (n : Int), e = .returned (.tuple #[.agg (mcells m), .int .i64 n]) ∧ Hid (Low8 m ∧ I64 n) ∧ Below w.heap.size w w' := by
  have hz := zeroM_run
  have hS := hid ((St.start w).newMB zeroM 27)
  have hdr := hid (fun W (hW : Below w.heap.size w W) => l05Draw_any W v l (hv.below hW) hl)
  have hz2 := hid (fun L W (h : St w.heap.size w L W) => h.newMB zeroM 27)
  replace hv := hid hv
  obtain ⟨A, c, rfl, _⟩ := hv.out
  go_enter Tryz.func30, Tryz.ntmps30
  go_wp2_with (first
    | (go_at_call 118; (with_reducible refine (hdr.out _ hS.out.bel).mono ?_); rintro e w1 ⟨M, n, rfl, hF, hb⟩; have hle := hid (hS.out.call hb).le; replace hS := hid (hz2.out _ _ (hS.out.call hb)); clear hb)
    | ((with_reducible refine gateOp (op := .store 27 (.tmp 4) (.tmp 9)) rfl ?_); refine store_mach rfl _ _ rfl w1.heap.size rfl M rfl 27 _ hS.out.m0 ?_; intro w2 p3 ho hsz hbl; replace hS := hid (hS.out.setM hle.out p3 ho hbl); clear p3 ho hsz hbl)
    | ((with_reducible refine gate (N := 11) rfl ?_); refine load_mach rfl _ rfl w1.heap.size rfl M hS.out.m0 ?_)
    | ((with_reducible refine gateOp (op := .store 27 (.tmp 2) (.tmp 11)) rfl ?_); refine store_mach rfl _ _ rfl w.heap.size rfl M rfl 27 _ hS.out.f1.m0 ?_; intro w4 p3 ho hsz hbl; replace hS := hid (hS.out.f1.setM (Nat.le_refl _) p3 ho hbl); clear p3 ho hsz hbl))
  exact ret_mach_v rfl rfl rfl hS.out.m0 rfl ⟨M, n, rfl, hF, hS.out.bel⟩
set_option maxHeartbeats 2000000 in
set_option maxRecDepth 100000 in
theorem drLvo_any (w : World) (v : Value) (l : List Nat) (hv : ArgB w v l) (hl : l.length ≤ 4096) :
    Calls Tryz.prog 32 #[v] w fun e w' => ∃ (m : Mach) (n : Int), e = .returned (.tuple #[.agg (mcells m), .int .i64 n]) ∧ Hid (Low8 m ∧ I64 n) ∧ Below w.heap.size w w' := by
  have hz := zeroM_run
  have hS := hid ((St.start w).newMB zeroM 27)
  have hdr := hid (fun W (hW : Below w.heap.size w W) => l05Draw_any W v l (hv.below hW) hl)
  have hz2 := hid (fun L W (h : St w.heap.size w L W) => h.newMB zeroM 27)
  replace hv := hid hv
  obtain ⟨A, c, rfl, _⟩ := hv.out
  go_enter Tryz.func32, Tryz.ntmps32
  go_wp2_with (first
    | (go_at_call 118; (with_reducible refine (hdr.out _ hS.out.bel).mono ?_); rintro e w1 ⟨M, n, rfl, hF, hb⟩; have hle := hid (hS.out.call hb).le; replace hS := hid (hz2.out _ _ (hS.out.call hb)); clear hb)
    | ((with_reducible refine gateOp (op := .store 27 (.tmp 4) (.tmp 9)) rfl ?_); refine store_mach rfl _ _ rfl w1.heap.size rfl M rfl 27 _ hS.out.m0 ?_; intro w2 p3 ho hsz hbl; replace hS := hid (hS.out.setM hle.out p3 ho hbl); clear p3 ho hsz hbl)
    | ((with_reducible refine gate (N := 11) rfl ?_); refine load_mach rfl _ rfl w1.heap.size rfl M hS.out.m0 ?_)
    | ((with_reducible refine gateOp (op := .store 27 (.tmp 2) (.tmp 11)) rfl ?_); refine store_mach rfl _ _ rfl w.heap.size rfl M rfl 27 _ hS.out.f1.m0 ?_; intro w4 p3 ho hsz hbl; replace hS := hid (hS.out.f1.setM (Nat.le_refl _) p3 ho hbl); clear p3 ho hsz hbl))
  exact ret_mach_v rfl rfl rfl hS.out.m0 rfl ⟨M, n, rfl, hF, hS.out.bel⟩
set_option maxHeartbeats 2000000 in
set_option maxRecDepth 100000 in
theorem drFix_any (w : World) (v : Value) (l : List Nat) (hv : ArgB w v l) (hl : l.length ≤ 4096) :
    Calls Tryz.prog 78 #[v] w fun e w' => ∃ (m : Mach) (n : Int), e = .returned (.tuple #[.agg (mcells m), .int .i64 n]) ∧ Hid (Low8 m ∧ I64 n) ∧ Below w.heap.size w w' := by
  have hz := zeroM_run
  have hS := hid ((St.start w).newMB zeroM 27)
  have hdr := hid (fun W (hW : Below w.heap.size w W) => l05Draw_any W v l (hv.below hW) hl)
  have hz2 := hid (fun L W (h : St w.heap.size w L W) => h.newMB zeroM 27)
  replace hv := hid hv
  obtain ⟨A, c, rfl, _⟩ := hv.out
  go_enter Tryz.func78, Tryz.ntmps78
  go_wp2_with (first
    | (go_at_call 118; (with_reducible refine (hdr.out _ hS.out.bel).mono ?_); rintro e w1 ⟨M, n, rfl, hF, hb⟩; have hle := hid (hS.out.call hb).le; replace hS := hid (hz2.out _ _ (hS.out.call hb)); clear hb)
    | ((with_reducible refine gateOp (op := .store 27 (.tmp 4) (.tmp 9)) rfl ?_); refine store_mach rfl _ _ rfl w1.heap.size rfl M rfl 27 _ hS.out.m0 ?_; intro w2 p3 ho hsz hbl; replace hS := hid (hS.out.setM hle.out p3 ho hbl); clear p3 ho hsz hbl)
    | ((with_reducible refine gate (N := 11) rfl ?_); refine load_mach rfl _ rfl w1.heap.size rfl M hS.out.m0 ?_)
    | ((with_reducible refine gateOp (op := .store 27 (.tmp 2) (.tmp 11)) rfl ?_); refine store_mach rfl _ _ rfl w.heap.size rfl M rfl 27 _ hS.out.f1.m0 ?_; intro w4 p3 ho hsz hbl; replace hS := hid (hS.out.f1.setM (Nat.le_refl _) p3 ho hbl); clear p3 ho hsz hbl))
  exact ret_mach_v rfl rfl rfl hS.out.m0 rfl ⟨M, n, rfl, hF, hS.out.bel⟩
set_option maxHeartbeats 2000000 in
set_option maxRecDepth 100000 in
theorem drDis_any (w : World) (v : Value) (l : List Nat) (hv : ArgB w v l) (hl : l.length ≤ 4096) :
    Calls Tryz.prog 19 #[v] w fun e w' => ∃ (m : Mach) (n k : Int), e = .returned (.tuple #[.agg (mcells m), .int .i64 n, .int .i64 k]) ∧ Hid (Low8 m ∧ I64 n ∧ I64 k) ∧ Below w.heap.size w w' := by
  have hz := zeroM_run
  have hS := hid ((St.start w).newMB zeroM 27)
  have hfr := hid (fun W L hW => Dg.from (w := w) (W := W) (L := L) hv hl hW)
  have hz2 := hid (fun L W (h : St w.heap.size w L W) => h.newMB zeroM 27)
  replace hv := hid hv
  obtain ⟨A, c, rfl, _⟩ := hv.out
  go_enter Tryz.func19, Tryz.ntmps19
  go_upto_region 3 with (first
    | (go_at_call 104; (with_reducible refine (hfr.out _ _ hS.out).mono ?_); rintro e w1 ⟨S, rfl, D, hS'⟩; replace hS := hid hS'; clear hS')
    | (go_at_call 105; (with_reducible refine (D.out.spoil hS.out).mono ?_); rintro e w2 ⟨M, rfl, hM, hS'⟩; replace hS := hid hS'; clear hS')
    | (go_at_call 106; (with_reducible refine (D.out.level hS.out).mono ?_); rintro e w3 ⟨n, rfl, hn, hS'⟩; have hle := hid hS'.le; replace hS := hid (hz2.out _ _ hS'); clear hS')
    | ((with_reducible refine gateOp (op := .store 27 (.tmp 6) (.tmp 11)) rfl ?_); refine store_mach rfl _ _ rfl w3.heap.size rfl M rfl 27 _ hS.out.m0 ?_; intro w4 p3 ho hsz hbl; replace hS := hid (hS.out.setM hle.out p3 ho hbl); clear p3 ho hsz hbl))
  generalize w3.heap.size = b6 at *
  replace hS := hid hS.out.drew
  refine wp_region_heldL (L := [(6, (fun w' : World => MB w' 27 b6 M))]) (by kernel_rfl) (HeldL.cons (fun _ => hS.out.m0) HeldL.nil) (fun hHeld => ?_)
  generalize World.drew w4 = wa at *
  refine wpAnyL_takeP (i := 0) 6 [] (v := (.agg (mcells M))) (fun w' : World => MB w' 27 b6 M) rfl (by kernel_rfl) (by kernel_rfl) (by kernel_rfl) (by rfl) (by kernel_rfl) (by simp) (fun _ _ _ h => h) (Or.inl ⟨by rfl, ?_⟩) (by assumption) ?_
  · (intro W hW; exact exec_load _ rfl rfl (load_run hW))
  intro hHeld'
  clear hHeld; have hHeld := hHeld'; clear hHeld'
  try simp only [Act.put, List.getElem_toArray, List.getElem_cons_succ, List.getElem_cons_zero, List.setIfInBounds_toArray, List.set_cons_zero, List.set_cons_succ]
  refine wpAnyL_take0 (i := 1) (v := ?_) rfl (by kernel_rfl) (by kernel_rfl) (by kernel_rfl) (by rfl) (fun _ _ _ h => h) (Or.inl ⟨by rfl, ?_⟩) (by assumption) ?_
  rotate_left
  · (intro W _; go_simp; (with_reducible rfl))
  intro hHeld'
  clear hHeld; have hHeld := hHeld'; clear hHeld'
  try simp only [Act.put, List.getElem_toArray, List.getElem_cons_succ, List.getElem_cons_zero, List.setIfInBounds_toArray, List.set_cons_zero, List.set_cons_succ]
  refine wpAnyL_take0 (i := 2) (v := ?_) rfl (by kernel_rfl) (by kernel_rfl) (by kernel_rfl) (by rfl) (fun _ _ _ h => h) (Or.inl ⟨by rfl, ?_⟩) (by assumption) ?_
  rotate_left
  · (intro W _; go_simp; (with_reducible rfl))
  intro hHeld'
  clear hHeld; have hHeld := hHeld'; clear hHeld'
  try simp only [Act.put, List.getElem_toArray, List.getElem_cons_succ, List.getElem_cons_zero, List.setIfInBounds_toArray, List.set_cons_zero, List.set_cons_succ]
  refine wpAnyL_takeP (i := 3) 6 [5] (v := (.agg (mcells M))) (fun w' : World => MB w' 27 b6 M) rfl (by kernel_rfl) (by kernel_rfl) (by kernel_rfl) (by rfl) (by kernel_rfl) (by simp) (fun _ _ _ h => h) (Or.inl ⟨by rfl, ?_⟩) (by assumption) ?_
  · (intro W hW; exact exec_load _ rfl rfl (load_run hW))
  intro hHeld'
  clear hHeld; have hHeld := hHeld'; clear hHeld'
  try simp only [Act.put, List.getElem_toArray, List.getElem_cons_succ, List.getElem_cons_zero, List.setIfInBounds_toArray, List.set_cons_zero, List.set_cons_succ]
  refine wpAnyL_take0 (i := 4) (v := ?_) rfl (by kernel_rfl) (by kernel_rfl) (by kernel_rfl) (by rfl) (fun _ _ _ h => h) (Or.inl ⟨by rfl, ?_⟩) (by assumption) ?_
  rotate_left
  · (intro W _; go_simp; (with_reducible rfl))
  intro hHeld'
  clear hHeld; have hHeld := hHeld'; clear hHeld'
  try simp only [Act.put, List.getElem_toArray, List.getElem_cons_succ, List.getElem_cons_zero, List.setIfInBounds_toArray, List.set_cons_zero, List.set_cons_succ]
  refine wpAnyL_ready (rs := [5]) (by kernel_rfl) (by simp) ?_
  refine AllReadyL.cons rfl (fun K hK => ?_) AllReadyL.nil
  go_simp
  replace hS := hid hS.out.f1
  (with_reducible refine (D.out.place M n hS.out).mono ?_)
  rintro e w5 ⟨k, rfl, hk, hS'⟩
  replace hS := hid hS'
  clear hS'
  go_simp
  refine hK.out _ _ (HeldL.cons (fun _ => hS.out.m1) HeldL.nil) (fun hHeld' => ?_)
  clear hK K hHeld; have hHeld := hHeld'; clear hHeld'
  try simp only [Act.put, List.getElem_toArray, List.getElem_cons_succ, List.getElem_cons_zero, List.setIfInBounds_toArray, List.set_cons_zero, List.set_cons_succ]
  refine wpAnyL_ready (rs := [6]) (by kernel_rfl) (by simp) ?_
  refine AllReadyL.cons rfl (fun K hK => ?_) AllReadyL.nil
  refine step_store_mach rfl _ _ rfl _ rfl M rfl _ _ hS.out.m2 ?_
  intro W9 p2 ho hbl
  replace hS := hid (hS.out.f2.setM (Nat.le_refl _) p2 ho hbl)
  clear p2 ho hbl
  refine hK.out _ _ (HeldL.cons (fun h => absurd h (by decide +kernel)) HeldL.nil) (fun hHeld' => ?_)
  clear hK K hHeld; have hHeld := hHeld'; clear hHeld'
  try simp only [Act.put, List.getElem_toArray, List.getElem_cons_succ, List.getElem_cons_zero, List.setIfInBounds_toArray, List.set_cons_zero, List.set_cons_succ]
  refine wpAnyL_take0 (i := 7) (v := ?_) rfl (by kernel_rfl) (by kernel_rfl) (by kernel_rfl) (by rfl) (fun _ _ _ h => h) (Or.inl ⟨by rfl, ?_⟩) (by assumption) ?_
  rotate_left
  · (intro W _; go_simp; (with_reducible rfl))
  intro hHeld'
  clear hHeld; have hHeld := hHeld'; clear hHeld'
  try simp only [Act.put, List.getElem_toArray, List.getElem_cons_succ, List.getElem_cons_zero, List.setIfInBounds_toArray, List.set_cons_zero, List.set_cons_succ]
  refine wpAnyL_take0 (i := 8) (v := ?_) rfl (by kernel_rfl) (by kernel_rfl) (by kernel_rfl) (by rfl) (fun _ _ _ h => h) (Or.inl ⟨by rfl, ?_⟩) (by assumption) ?_
  rotate_left
  · (intro W _; go_simp; (with_reducible rfl))
  intro hHeld'
  clear hHeld; have hHeld := hHeld'; clear hHeld'
  try simp only [Act.put, List.getElem_toArray, List.getElem_cons_succ, List.getElem_cons_zero, List.setIfInBounds_toArray, List.set_cons_zero, List.set_cons_succ]
  refine wpAnyL_done (by kernel_rfl) ?_ _
  go_wp2
  exact ret_mvv rfl rfl rfl rfl hS.out.m0 rfl ⟨M, n, k, rfl, hid ⟨hM.out, hn.out, hk.out⟩, hS.out.bel⟩
set_option maxHeartbeats 2000000 in
set_option maxRecDepth 100000 in
theorem drLop_any (w : World) (v : Value) (l : List Nat) (hv : ArgB w v l) (hl : l.length ≤ 4096) :
    Calls Tryz.prog 61 #[v] w fun e w' => ∃ (m : Mach) (n k : Int), e = .returned (.tuple #[.agg (mcells m), .int .i64 n, .int .i64 k]) ∧ Hid (Low8 m ∧ I64 n ∧ I64 k) ∧ Below w.heap.size w w' := by
  have hz := zeroM_run
  have hS := hid ((St.start w).newMB zeroM 27)
  have hfr := hid (fun W L hW => Dg.from (w := w) (W := W) (L := L) hv hl hW)
  have hz2 := hid (fun L W (h : St w.heap.size w L W) => h.newMB zeroM 27)
  replace hv := hid hv
  obtain ⟨A, c, rfl, _⟩ := hv.out
  go_enter Tryz.func61, Tryz.ntmps61
  go_upto_region 3 with (first
    | (go_at_call 104; (with_reducible refine (hfr.out _ _ hS.out).mono ?_); rintro e w1 ⟨S, rfl, D, hS'⟩; replace hS := hid hS'; clear hS')
    | (go_at_call 105; (with_reducible refine (D.out.spoil hS.out).mono ?_); rintro e w2 ⟨M, rfl, hM, hS'⟩; replace hS := hid hS'; clear hS')
    | (go_at_call 106; (with_reducible refine (D.out.level hS.out).mono ?_); rintro e w3 ⟨n, rfl, hn, hS'⟩; have hle := hid hS'.le; replace hS := hid (hz2.out _ _ hS'); clear hS')
    | ((with_reducible refine gateOp (op := .store 27 (.tmp 6) (.tmp 11)) rfl ?_); refine store_mach rfl _ _ rfl w3.heap.size rfl M rfl 27 _ hS.out.m0 ?_; intro w4 p3 ho hsz hbl; replace hS := hid (hS.out.setM hle.out p3 ho hbl); clear p3 ho hsz hbl))
  generalize w3.heap.size = b6 at *
  replace hS := hid hS.out.drew
  refine wp_region_heldL (L := [(6, (fun w' : World => MB w' 27 b6 M))]) (by kernel_rfl) (HeldL.cons (fun _ => hS.out.m0) HeldL.nil) (fun hHeld => ?_)
  generalize World.drew w4 = wa at *
  refine wpAnyL_takeP (i := 0) 6 [] (v := (.agg (mcells M))) (fun w' : World => MB w' 27 b6 M) rfl (by kernel_rfl) (by kernel_rfl) (by kernel_rfl) (by rfl) (by kernel_rfl) (by simp) (fun _ _ _ h => h) (Or.inl ⟨by rfl, ?_⟩) (by assumption) ?_
  · (intro W hW; exact exec_load _ rfl rfl (load_run hW))
  intro hHeld'
  clear hHeld; have hHeld := hHeld'; clear hHeld'
  try simp only [Act.put, List.getElem_toArray, List.getElem_cons_succ, List.getElem_cons_zero, List.setIfInBounds_toArray, List.set_cons_zero, List.set_cons_succ]
  refine wpAnyL_take0 (i := 1) (v := ?_) rfl (by kernel_rfl) (by kernel_rfl) (by kernel_rfl) (by rfl) (fun _ _ _ h => h) (Or.inl ⟨by rfl, ?_⟩) (by assumption) ?_
  rotate_left
  · (intro W _; go_simp; (with_reducible rfl))
  intro hHeld'
  clear hHeld; have hHeld := hHeld'; clear hHeld'
  try simp only [Act.put, List.getElem_toArray, List.getElem_cons_succ, List.getElem_cons_zero, List.setIfInBounds_toArray, List.set_cons_zero, List.set_cons_succ]
  refine wpAnyL_take0 (i := 2) (v := ?_) rfl (by kernel_rfl) (by kernel_rfl) (by kernel_rfl) (by rfl) (fun _ _ _ h => h) (Or.inl ⟨by rfl, ?_⟩) (by assumption) ?_
  rotate_left
  · (intro W _; go_simp; (with_reducible rfl))
  intro hHeld'
  clear hHeld; have hHeld := hHeld'; clear hHeld'
  try simp only [Act.put, List.getElem_toArray, List.getElem_cons_succ, List.getElem_cons_zero, List.setIfInBounds_toArray, List.set_cons_zero, List.set_cons_succ]
  refine wpAnyL_takeP (i := 3) 6 [5] (v := (.agg (mcells M))) (fun w' : World => MB w' 27 b6 M) rfl (by kernel_rfl) (by kernel_rfl) (by kernel_rfl) (by rfl) (by kernel_rfl) (by simp) (fun _ _ _ h => h) (Or.inl ⟨by rfl, ?_⟩) (by assumption) ?_
  · (intro W hW; exact exec_load _ rfl rfl (load_run hW))
  intro hHeld'
  clear hHeld; have hHeld := hHeld'; clear hHeld'
  try simp only [Act.put, List.getElem_toArray, List.getElem_cons_succ, List.getElem_cons_zero, List.setIfInBounds_toArray, List.set_cons_zero, List.set_cons_succ]
  refine wpAnyL_take0 (i := 4) (v := ?_) rfl (by kernel_rfl) (by kernel_rfl) (by kernel_rfl) (by rfl) (fun _ _ _ h => h) (Or.inl ⟨by rfl, ?_⟩) (by assumption) ?_
  rotate_left
  · (intro W _; go_simp; (with_reducible rfl))
  intro hHeld'
  clear hHeld; have hHeld := hHeld'; clear hHeld'
  try simp only [Act.put, List.getElem_toArray, List.getElem_cons_succ, List.getElem_cons_zero, List.setIfInBounds_toArray, List.set_cons_zero, List.set_cons_succ]
  refine wpAnyL_ready (rs := [5]) (by kernel_rfl) (by simp) ?_
  refine AllReadyL.cons rfl (fun K hK => ?_) AllReadyL.nil
  go_simp
  replace hS := hid hS.out.f1
  (with_reducible refine (D.out.place M n hS.out).mono ?_)
  rintro e w5 ⟨k, rfl, hk, hS'⟩
  replace hS := hid hS'
  clear hS'
  go_simp
  refine hK.out _ _ (HeldL.cons (fun _ => hS.out.m1) HeldL.nil) (fun hHeld' => ?_)
  clear hK K hHeld; have hHeld := hHeld'; clear hHeld'
  try simp only [Act.put, List.getElem_toArray, List.getElem_cons_succ, List.getElem_cons_zero, List.setIfInBounds_toArray, List.set_cons_zero, List.set_cons_succ]
  refine wpAnyL_ready (rs := [6]) (by kernel_rfl) (by simp) ?_
  refine AllReadyL.cons rfl (fun K hK => ?_) AllReadyL.nil
  refine step_store_mach rfl _ _ rfl _ rfl M rfl _ _ hS.out.m2 ?_
  intro W9 p2 ho hbl
  replace hS := hid (hS.out.f2.setM (Nat.le_refl _) p2 ho hbl)
  clear p2 ho hbl
  refine hK.out _ _ (HeldL.cons (fun h => absurd h (by decide +kernel)) HeldL.nil) (fun hHeld' => ?_)
  clear hK K hHeld; have hHeld := hHeld'; clear hHeld'
  try simp only [Act.put, List.getElem_toArray, List.getElem_cons_succ, List.getElem_cons_zero, List.setIfInBounds_toArray, List.set_cons_zero, List.set_cons_succ]
  refine wpAnyL_take0 (i := 7) (v := ?_) rfl (by kernel_rfl) (by kernel_rfl) (by kernel_rfl) (by rfl) (fun _ _ _ h => h) (Or.inl ⟨by rfl, ?_⟩) (by assumption) ?_
  rotate_left
  · (intro W _; go_simp; (with_reducible rfl))
  intro hHeld'
  clear hHeld; have hHeld := hHeld'; clear hHeld'
  try simp only [Act.put, List.getElem_toArray, List.getElem_cons_succ, List.getElem_cons_zero, List.setIfInBounds_toArray, List.set_cons_zero, List.set_cons_succ]
  refine wpAnyL_take0 (i := 8) (v := ?_) rfl (by kernel_rfl) (by kernel_rfl) (by kernel_rfl) (by rfl) (fun _ _ _ h => h) (Or.inl ⟨by rfl, ?_⟩) (by assumption) ?_
  rotate_left
  · (intro W _; go_simp; (with_reducible rfl))
  intro hHeld'
  clear hHeld; have hHeld := hHeld'; clear hHeld'
  try simp only [Act.put, List.getElem_toArray, List.getElem_cons_succ, List.getElem_cons_zero, List.setIfInBounds_toArray, List.set_cons_zero, List.set_cons_succ]
  refine wpAnyL_done (by kernel_rfl) ?_ _
  go_wp2
  exact ret_mvv rfl rfl rfl rfl hS.out.m0 rfl ⟨M, n, k, rfl, hid ⟨hM.out, hn.out, hk.out⟩, hS.out.bel⟩
end Go.Proofs.YthmcdfjijkecfaaGreat
