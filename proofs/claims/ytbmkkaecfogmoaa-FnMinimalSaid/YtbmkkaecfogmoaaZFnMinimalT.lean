/- What the proof of FnMinimal leans on, part 20 of 21. -/
import Derived.Test.YtbmkkaecfogmoaaZFnMinimalS
/- Minimal machines: the reference's side. -/
namespace Go.Proofs.Ytbmkkaecfogmoaa
open Go.RowKit
set_option linter.unusedVariables false
set_option linter.unusedSimpArgs false
-- @LONG

section
variable {T : Tab}
theorem mstN_pre (q : Nat) : ∀ d, ∃ r, mstN T (q + d) = mstN T q ++ r
  | 0 => ⟨[], by simp⟩
  | d + 1 => by
    obtain ⟨r, hr⟩ := mstN_pre q d
    rw [show q + (d + 1) = q + d + 1 by omega, mstN_succ]
    split
    · exact ⟨r ++ [q + d], by rw [hr, List.append_assoc]⟩
    · exact ⟨r, hr⟩
theorem mst_place {q : Nat} (hq : q < T.n) (h : fix T q = q) : (mst T)[(mstN T q).length]? = some q := by
  obtain ⟨r, hr⟩ := mstN_pre (T := T) (q + 1) (T.n - (q + 1))
  rw [show q + 1 + (T.n - (q + 1)) = T.n by omega, mstN_succ, if_pos h] at hr
  have e : mst T = mstN T q ++ [q] ++ r := hr
  rw [e]; simp
theorem mst_idx {q : Nat} (hq : q < T.n) (h : fix T q = q) : (mst T).idxOf q = (mstN T q).length := by
  have hm : q ∈ mst T := mst_mem.2 ⟨hq, h⟩
  have h1 := List.idxOf_lt_length_of_mem hm
  have h2 := List.getElem_idxOf h1
  obtain ⟨a, b⟩ := List.getElem?_eq_some_iff.1 (mst_place hq h)
  exact nodup_inj (mst_nodup T) _ _ h1 a (h2.trans b.symm)
theorem mstN_mono {p q : Nat} (h : p ≤ q) : (mstN T p).length ≤ (mstN T q).length := by
  obtain ⟨r, hr⟩ := mstN_pre (T := T) p (q - p)
  rw [show p + (q - p) = q by omega] at hr
  rw [hr, List.length_append]; omega
/-- A state that is not the least of its class comes behind it. -/
theorem mst_before {q : Nat} (hq : q < T.n) (h : fix T q ≠ q) : (mst T).idxOf (fix T q) < (mstN T q).length := by
  have hle : fix T q ≤ q := cls_le _ _ _
  have hlt : fix T q < q := by omega
  rw [mst_idx (fix_lt q hq) (fix_fix T q)]
  have h1 : (mstN T (fix T q + 1)).length = (mstN T (fix T q)).length + 1 := by rw [mstN_succ, if_pos (fix_fix T q)]; simp
  have h2 := mstN_mono (T := T) (p := fix T q + 1) (q := q) (by omega)
  omega
theorem upd_id {f : Nat → Nat} {p v : Nat} (h : f p = v) : upd f p v = f := by
  funext i
  unfold upd
  split
  · rename_i e; rw [e]; exact h.symm
  · rfl
/-- The machine, as far as its states are written. -/
def mnP (T : Tab) (q x : Nat) : Mach := gthP T (fix T) (mst T) (mstN T q).length (if fix T q = q then x else 0)
theorem mnP_next (h3 : T.L ≤ 3) (q : Nat) : mnP T q T.L = mnP T (q + 1) 0 := by
  unfold mnP
  rw [mstN_succ]
  have e : (if fix T (q + 1) = q + 1 then 0 else 0) = 0 := by split <;> rfl
  rw [e]
  by_cases h : fix T q = q
  · rw [if_pos h, if_pos h, List.length_append, List.length_singleton]
    exact gthP_row T (fix T) (mst T) _ h3
  · rw [if_neg h, if_neg h]
theorem mnP_zero : mnP T 0 0 = ⟨T.L, (mst T).length, fun _ => 0, fun _ => 0⟩ := by
  unfold mnP
  have e : (if fix T 0 = 0 then 0 else 0) = 0 := by split <;> rfl
  rw [e]
  exact gthP_zero T (fix T) (mst T)
theorem mnP_done : mnP T T.n 0 = mnM T := by
  unfold mnP mnM gth
  have e : (if fix T T.n = T.n then 0 else 0) = 0 := by split <;> rfl
  rw [e]; rfl
theorem mnP_step (hT : T.Ok) (h3 : T.L ≤ 3) {q x : Nat} (hq : q < T.n) (hx : x < T.L) :
    mnP T q (x + 1) = { (mnP T q x) with ot := upd (mnP T q x).ot ((mst T).idxOf (fix T q) * 3 + x) (T.ot q x), nx := upd (mnP T q x).nx ((mst T).idxOf (fix T q) * 3 + x) ((mst T).idxOf (fix T (T.nx q x))) } := by
  by_cases h : fix T q = q
  · have e := gthP_step T (fix T) (mst T) (mstN T q).length x q hx h3 (mst_place hq h)
    unfold mnP
    rw [if_pos h, if_pos h, h, mst_idx hq h]
    exact e
  · have hb := mst_before hq h
    have hg : (mst T).getD ((mst T).idxOf (fix T q)) 0 = fix T q := by
      have h1 := List.idxOf_lt_length_of_mem (mst_fix hq)
      rw [List.getD_eq_getElem?_getD, List.getElem?_eq_getElem h1, List.getElem_idxOf h1]; rfl
    unfold mnP
    rw [if_neg h, if_neg h]
    have e1 : (gthP T (fix T) (mst T) (mstN T q).length 0).ot ((mst T).idxOf (fix T q) * 3 + x) = T.ot q x := by
      unfold gthP
      dsimp only
      rw [if_pos (by omega), show ((mst T).idxOf (fix T q) * 3 + x) / 3 = (mst T).idxOf (fix T q) by omega, show ((mst T).idxOf (fix T q) * 3 + x) % 3 = x by omega, hg]
      exact fix_ot T q x hx
    have e2 : (gthP T (fix T) (mst T) (mstN T q).length 0).nx ((mst T).idxOf (fix T q) * 3 + x) = (mst T).idxOf (fix T (T.nx q x)) := by
      unfold gthP
      dsimp only
      rw [if_pos (by omega), show ((mst T).idxOf (fix T q) * 3 + x) / 3 = (mst T).idxOf (fix T q) by omega, show ((mst T).idxOf (fix T q) * 3 + x) % 3 = x by omega, hg, fix_nx hT hq hx]
    rw [upd_id e1, upd_id e2]
end
theorem step_store_i16 {ops : Array Oper} {o : Oper} {a : Act} {w : World} {K : Act → World → Prop} {Q : Exit → Act → World → Prop} {E : Prop} (hgd : o.guard = none) (x y : Operand) (ho : o.op = .store 87 x y)
    (b : Nat) (hx : a.eval x = .pointer (some ⟨b, 0, none⟩)) (g : Nat → Value) (hy : a.eval y = .agg (rowL 16 g).toArray) (t : Nat) (f : Nat → Value) (hrow : w.rowIs b t 16 f) (hone : ∀ i, (g i).oneCell' = true)
    (h : ∀ w', w'.rowIs b t 16 g → (∀ k, k ≠ b → w'.heap[k]? = w.heap[k]?) → (∀ (B : Nat) (a : World), B ≤ b → Below B a w → Below B a w') → K (a.put o.dst undef) w') :
    if Region.wanted o (yielded ops a.tmps) = true then Oper.wp Try.prog o a w K Q else E := by
  have hw : Region.wanted o (yielded ops a.tmps) = true := by simp [Region.wanted, hgd]
  rw [if_pos hw]
  refine wp_store_mid 87 x y ho b 0 (rowL 16 g).toArray hx hy (by rw [rowL_size]; exact rowIs_there hrow _ _ (by omega)) (by rw [rowL_size]; exact sz_i16) (all_oneCell_toArray fun v hv => by unfold rowL at hv; obtain ⟨i, _, rfl⟩ := List.mem_map.1 hv; exact hone i) ?_
  exact h _ (World.rowIs.congr (rowIs_setCells _ _ _ _ hrow) fun i hi => put_all _ _ _ _ hi) (fun k hk => block_setCells hk _ _ _) (fun B a hB hb => below_setCells hB _ _ hb)
theorem ret_mv16 {fn : Func} {R : Ending → World → Prop} {a : Act} {w : World} {p q : Nat} (h : fn.results = #[.cell p 27, .cell q 87]) {g t g2 t2 : Nat} {m : Mach} {f : Nat → Value}
    (hp : a.tmps.getD p undef = .pointer (some ⟨g, 0, none⟩)) (hq : a.tmps.getD q undef = .pointer (some ⟨g2, 0, none⟩)) (hm : MB w t g m) (hv : w.rowIs g2 t2 16 f) (hdf : a.defers = []) (hR : R (.returned (.tuple #[.agg (mcells m), .agg (rowL 16 f).toArray])) w) : bodyPost Try.prog fn R .ret a w := by
  refine bodyPost_ret (v := .tuple #[.agg (mcells m), .agg (rowL 16 f).toArray]) ?_ hdf hR
  have hp' : a.tmps[p]?.getD undef = .pointer (some ⟨g, 0, none⟩) := by simpa using hp
  have hq' : a.tmps[q]?.getD undef = .pointer (some ⟨g2, 0, none⟩) := by simpa using hq
  have e1 := run_loadVar_row (P := Try.prog) w g t 27 (mcells m) (0, 0) _ hm.heap Try.underlying27 rfl (by rw [size_mcells]; exact sz_mach)
  have e2 := run_loadVar_row (P := Try.prog) w g2 t2 87 (rowL 16 f).toArray (0, 0) _ (rowIs_heap hv) Try.underlying87 rfl (by rw [rowL_size]; exact sz_i16)
  simp [results, h, hp', hq', asAddr, e1, e2]
theorem built_machL (a : Int) : Try.prog.built 27 [(0, .int .i64 a)] = some (mcells ⟨a, 0, fun _ => 0, fun _ => 0⟩) := by kernel_rfl
theorem exec_buildM {a : Act} {o : Oper} {W : World} {t : TypeId} (parts : Array (Nat × Operand)) {cells : Array Value} (ho : o.op = .build t parts) (h : Try.prog.built t (parts.map fun (i, x) => (i, a.eval x)).toList = some cells) :
    (execOp a.eval o).run Try.prog W = .ok (.value (.agg cells)) W := by
  have h2 := run_build (P := Try.prog) W t _ cells h
  unfold execOp
  simp only [ho, Sem.run_bind, h2, Result.andThen_ok, Sem.run_pure]
theorem exec_machL {a : Act} {o : Oper} {W : World} (x : Operand) (ho : o.op = .build 27 #[(0, x)]) (L : Int) (hx : a.eval x = .int .i64 L) :
    (execOp a.eval o).run Try.prog W = .ok (.value (.agg (mcells ⟨L, 0, fun _ => 0, fun _ => 0⟩))) W :=
  exec_buildM _ ho (by simp [hx]; exact built_machL L)
set_option maxHeartbeats 20000000 in
set_option maxRecDepth 100000 in
theorem l01Minimal_any (w : World) (m : Mach) (l s : Nat) (g : Good m l s) (hk : m.Ok) :
    Calls Try.prog 81 #[.agg (mcells m)] w fun e w' => ∃ f : Nat → Nat, e = .returned (.tuple #[.agg (mcells (mnM (tabOf m l s))), .agg (rowL 16 (vI f)).toArray]) ∧ (∀ q, q < s → f q = (mst (tabOf m l s)).idxOf (fix (tabOf m l s) q)) ∧ Below w.heap.size w w' := by
  have hz := zero_mach
  obtain ⟨T, hTe⟩ : ∃ T, T = tabOf m l s := ⟨_, rfl⟩
  have hTn : T.n = s := by rw [hTe]; rfl
  have hTL : T.L = l := by rw [hTe]; rfl
  have hcl := hid (fun W => (by have h := l01Classes_any W m l s g hk; rw [← hTe] at h; exact h : Calls Try.prog 92 #[.agg (mcells m)] W fun e w' => e = .returned (.agg (rowL 16 (vI (cv T (s + 1)))).toArray) ∧ Below W.heap.size W w'))
  have hT : T.Ok := by rw [hTe]; exact tabOf_ok g
  have l2 := g.l2; have l3 := g.l3; have s16 := g.s16; have s1 := g.s1
  have hcvi := hid (fun j (h : j < s) => (show cv T (s + 1) j = fix T j from by rw [cv_in (show j < T.n by rw [hTn]; exact h)]; unfold fix; rw [hTn]))
  have hfl := hid (fun q (hq : q < s) => (show fix T q < s ∧ (mst T).idxOf (fix T q) < 16 from ⟨by have := fix_lt (T := T) q (by rw [hTn]; exact hq); omega, by have h1 := mnN_lt (T := T) (q := q) (by rw [hTn]; exact hq); have h2 := mst_len T; omega⟩))
  have hix := hid (fun q (hq : q < s) (h : fix T q = q) => mst_idx (T := T) (by rw [hTn]; exact hq) h)
  have hff := hid (fun q => fix_fix T q)
  have hle := hid (fun q => (show fix T q ≤ q from cls_le _ _ _))
  have hcs := hid (fun q => (show (mstN T (q + 1)).length = (mstN T q).length + (if fix T q = q then 1 else 0) from by rw [mstN_succ]; split <;> simp))
  have hcn := hid (fun q => mstN_len T q)
  have hst := hid (fun q x (hq : q < s) (hx : x < l) => mnP_step hT (by rw [hTL]; exact l3) (q := q) (x := x) (by rw [hTn]; exact hq) (by rw [hTL]; exact hx))
  have hrow := hid (fun q => (by have h := mnP_next (T := T) (by rw [hTL]; exact l3) q; rw [hTL] at h; exact h : mnP T q l = mnP T (q + 1) 0))
  have hz0 := hid (mnP_zero (T := T))
  have hdn := hid (by have h := mnP_done (T := T); rw [hTn] at h; exact h : mnP T s 0 = mnM T)
  have hnx := hid (fun q x (hq : q < s) (hx : x < l) => (show T.nx q x = m.nx (q * 3 + x) ∧ m.nx (q * 3 + x) < s ∧ T.ot q x = m.ot (q * 3 + x) ∧ m.ot (q * 3 + x) < 3 from ⟨by rw [hTe]; rfl, g.nx q x hq hx, by rw [hTe]; rfl, by have := g.ot q x hq hx; omega⟩))
  have hms := hid (show (mst T).length = (mstN T s).length from by rw [← hTn]; rfl)
  rw [← hTe]
  have hm0 := hid (MB.new w m 27)
  have hb0 := hid (below_alloc (Below.refl w.heap.size w) (Nat.le_refl _) (.cells (mcells m) 27))
  have hS := ((St.start (w.alloc (.cells (mcells m) 27))).newMB ⟨0, 0, fun _ => 0, fun _ => 0⟩ 27).newI16 87
  simp only [heap_alloc_size] at hS
  replace hS := hid hS
  have hmB := hid (fun W (hW : Below (w.heap.size + 1) (w.alloc (.cells (mcells m) 27)) W) => (show MB W 27 w.heap.size m from hm0.out.below hW (Nat.lt_succ_self _)))
  have hcL := hid (fun W (h : MB W 27 w.heap.size m) => (show W.cell? ⟨w.heap.size, 0, none⟩ = some (.int .i64 (l : Int)) from by have h2 := h.cL; rw [g.L] at h2; exact h2))
  have hcS := hid (fun W (h : MB W 27 w.heap.size m) => (show W.cell? ⟨w.heap.size, 1, none⟩ = some (.int .i64 (s : Int)) from by have h2 := h.cS; rw [g.S] at h2; exact h2))
  clear hTe hTn hT g hm0
  generalize hzs : mcells ⟨0, 0, fun _ => 0, fun _ => 0⟩ = zs at *
  go_enter Try.func81, Try.ntmps81
  go_upto_region 1 with (fail)
  replace hS := hid hS.out.drew
  refine wp_region_heldL (L := [(11, (fun w' : World => MB w' 27 w.heap.size m))]) (by kernel_rfl) (HeldL.cons (fun _ => hmB.out _ hS.out.bel) HeldL.nil) (fun hHeld => ?_)
  generalize World.drew _ = wa at *
  refine wpAnyL_takeP (i := 0) 11 [] (v := (.agg (mcells m))) (fun w' : World => MB w' 27 w.heap.size m) rfl (by kernel_rfl) (by kernel_rfl) (by kernel_rfl) (by rfl) (by kernel_rfl) (by simp) (fun _ _ _ h => h) (Or.inl ⟨by rfl, ?_⟩) (by assumption) ?_
  · (intro W hW; exact exec_load _ rfl rfl (load_run hW))
  intro hHeld'
  clear hHeld; have hHeld := hHeld'; clear hHeld'
  try simp only [Act.put, List.getElem_toArray, List.getElem_cons_succ, List.getElem_cons_zero, List.setIfInBounds_toArray, List.set_cons_zero, List.set_cons_succ]
  refine wpAnyL_take0 (i := 2) (v := ?_) rfl (by kernel_rfl) (by kernel_rfl) (by kernel_rfl) (by rfl) (fun _ _ _ h => h) (Or.inl ⟨by rfl, ?_⟩) (by assumption) ?_
  rotate_left
  · (intro W _; go_simp; (with_reducible rfl))
  intro hHeld'
  clear hHeld; have hHeld := hHeld'; clear hHeld'
  try simp only [Act.put, List.getElem_toArray, List.getElem_cons_succ, List.getElem_cons_zero, List.setIfInBounds_toArray, List.set_cons_zero, List.set_cons_succ]
  refine wpAnyL_take0 (i := 3) (v := ?_) rfl (by kernel_rfl) (by kernel_rfl) (by kernel_rfl) (by rfl) (fun _ _ _ h => h) (Or.inl ⟨by rfl, ?_⟩) (by assumption) ?_
  rotate_left
  · (intro W _; go_simp; (with_reducible rfl))
  intro hHeld'
  clear hHeld; have hHeld := hHeld'; clear hHeld'
  try simp only [Act.put, List.getElem_toArray, List.getElem_cons_succ, List.getElem_cons_zero, List.setIfInBounds_toArray, List.set_cons_zero, List.set_cons_succ]
  refine wpAnyL_takeP (i := 4) 11 [] (v := (.int .i64 (l : Int))) (fun w' : World => MB w' 27 w.heap.size m) rfl (by kernel_rfl) (by kernel_rfl) (by kernel_rfl) (by rfl) (by kernel_rfl) (by simp) (fun _ _ _ h => h) (Or.inl ⟨by rfl, ?_⟩) (by assumption) ?_
  · (intro W hW; (replace hW := hcL.out _ hW); go_simp)
  intro hHeld'
  clear hHeld; have hHeld := hHeld'; clear hHeld'
  try simp only [Act.put, List.getElem_toArray, List.getElem_cons_succ, List.getElem_cons_zero, List.setIfInBounds_toArray, List.set_cons_zero, List.set_cons_succ]
  refine wpAnyL_take0 (i := 5) (v := (.agg (mcells ⟨(l : Int), 0, fun _ => 0, fun _ => 0⟩))) rfl (by kernel_rfl) (by kernel_rfl) (by kernel_rfl) (by rfl) (fun _ _ _ h => h) (Or.inl ⟨by rfl, ?_⟩) (by assumption) ?_
  · (intro W _; exact exec_machL _ rfl _ rfl)
  intro hHeld'
  clear hHeld; have hHeld := hHeld'; clear hHeld'
  try simp only [Act.put, List.getElem_toArray, List.getElem_cons_succ, List.getElem_cons_zero, List.setIfInBounds_toArray, List.set_cons_zero, List.set_cons_succ]
  refine wpAnyL_ready (rs := [1, 6, 7, 8]) (by kernel_rfl) (by simp) ?_
  refine AllReadyL.cons rfl (fun K hK => ?_) ?_
  go_simp
  (with_reducible refine (hcl.out _).mono ?_)
  rintro e W2 ⟨rfl, hb⟩
  replace hS := hid (hS.out.call hb)
  clear hb
  go_simp
  refine hK.out _ _ (HeldL.cons (fun _ => hmB.out _ hS.out.bel) HeldL.nil) (fun hHeld' => ?_)
  clear hK K hHeld; have hHeld := hHeld'; clear hHeld'
  try simp only [Act.put, List.getElem_toArray, List.getElem_cons_succ, List.getElem_cons_zero, List.setIfInBounds_toArray, List.set_cons_zero, List.set_cons_succ]
  change wpAnyL _ _ _ _ _ _ #[true, true, true, true, true, true, false, false, false, false, false, false] _ _
  revert hHeld
  revert hS
  revert W2
  clear wa
  refine ?nA
  rotate_left
  refine AllReadyL.cons rfl (fun K hK => ?_) ?_
  go_simp
  have hB := hid hS.out.le
  replace hS := hid (hS.out.newI16 87)
  generalize wa.heap.size = gB at *
  generalize World.alloc wa _ = W2 at *
  refine hK.out _ _ (HeldL.cons (fun _ => hmB.out _ hS.out.bel) HeldL.nil) (fun hHeld' => ?_)
  clear hK K hHeld; have hHeld := hHeld'; clear hHeld'
  try simp only [Act.put, List.getElem_toArray, List.getElem_cons_succ, List.getElem_cons_zero, List.setIfInBounds_toArray, List.set_cons_zero, List.set_cons_succ]
  change wpAnyL _ _ _ _ _ _ #[true, false, true, true, true, true, true, false, false, false, false, false] _ _
  revert hHeld
  revert hS
  revert hB
  revert gB
  revert W2
  clear wa
  refine ?nB
  rotate_left
  refine AllReadyL.cons rfl (fun K hK => ?_) ?_
  go_simp
  have hC := hid hS.out.le
  replace hS := hid (hS.out.newI16 87)
  generalize wa.heap.size = gC at *
  generalize World.alloc wa _ = W2 at *
  refine hK.out _ _ (HeldL.cons (fun _ => hmB.out _ hS.out.bel) HeldL.nil) (fun hHeld' => ?_)
  clear hK K hHeld; have hHeld := hHeld'; clear hHeld'
  try simp only [Act.put, List.getElem_toArray, List.getElem_cons_succ, List.getElem_cons_zero, List.setIfInBounds_toArray, List.set_cons_zero, List.set_cons_succ]
  change wpAnyL _ _ _ _ _ _ #[true, false, true, true, true, true, false, true, false, false, false, false] _ _
  revert hHeld
  revert hS
  revert hC
  revert gC
  revert W2
  clear wa
  refine ?nC
  rotate_left
  refine AllReadyL.cons rfl (fun K hK => ?_) AllReadyL.nil
  go_simp
  have hD := hid hS.out.le
  replace hS := hS.out.newMB ⟨0, 0, fun _ => 0, fun _ => 0⟩ 27
  rw [hzs] at hS
  replace hS := hid hS
  generalize wa.heap.size = gD at *
  generalize World.alloc wa _ = W2 at *
  refine hK.out _ _ (HeldL.cons (fun _ => hmB.out _ hS.out.bel) HeldL.nil) (fun hHeld' => ?_)
  clear hK K hHeld; have hHeld := hHeld'; clear hHeld'
  try simp only [Act.put, List.getElem_toArray, List.getElem_cons_succ, List.getElem_cons_zero, List.setIfInBounds_toArray, List.set_cons_zero, List.set_cons_succ]
  change wpAnyL _ _ _ _ _ _ #[true, false, true, true, true, true, false, false, true, false, false, false] _ _
  revert hHeld
  revert hS
  revert hD
  revert gD
  revert W2
  clear wa
  refine ?nD
  rotate_left
  intro W hS hHeld
  refine wpAnyL_ready (rs := [6, 7, 8]) (by kernel_rfl) (by simp) ?_
  refine AllReadyL.cons rfl (fun K hK => ?_) ?_
  go_simp
  have hB := hid hS.out.le
  replace hS := hid (hS.out.newI16 87)
  generalize W.heap.size = gB at *
  generalize World.alloc W _ = W2 at *
  refine hK.out _ _ (HeldL.cons (fun _ => hmB.out _ hS.out.bel) HeldL.nil) (fun hHeld' => ?_)
  clear hK K hHeld; have hHeld := hHeld'; clear hHeld'
  try simp only [Act.put, List.getElem_toArray, List.getElem_cons_succ, List.getElem_cons_zero, List.setIfInBounds_toArray, List.set_cons_zero, List.set_cons_succ]
  change wpAnyL _ _ _ _ _ _ #[true, true, true, true, true, true, true, false, false, false, false, false] _ _
  revert hHeld
  revert hS
  revert hB
  revert gB
  revert W2
  clear W
  refine ?nAB
  rotate_left
  refine AllReadyL.cons rfl (fun K hK => ?_) ?_
  go_simp
  have hC := hid hS.out.le
  replace hS := hid (hS.out.newI16 87)
  generalize W.heap.size = gC at *
  generalize World.alloc W _ = W2 at *
  refine hK.out _ _ (HeldL.cons (fun _ => hmB.out _ hS.out.bel) HeldL.nil) (fun hHeld' => ?_)
  clear hK K hHeld; have hHeld := hHeld'; clear hHeld'
  try simp only [Act.put, List.getElem_toArray, List.getElem_cons_succ, List.getElem_cons_zero, List.setIfInBounds_toArray, List.set_cons_zero, List.set_cons_succ]
  change wpAnyL _ _ _ _ _ _ #[true, true, true, true, true, true, false, true, false, false, false, false] _ _
  revert hHeld
  revert hS
  revert hC
  revert gC
  revert W2
  clear W
  refine ?nAC
  rotate_left
  refine AllReadyL.cons rfl (fun K hK => ?_) AllReadyL.nil
  go_simp
  have hD := hid hS.out.le
  replace hS := hS.out.newMB ⟨0, 0, fun _ => 0, fun _ => 0⟩ 27
  rw [hzs] at hS
  replace hS := hid hS
  generalize W.heap.size = gD at *
  generalize World.alloc W _ = W2 at *
  refine hK.out _ _ (HeldL.cons (fun _ => hmB.out _ hS.out.bel) HeldL.nil) (fun hHeld' => ?_)
  clear hK K hHeld; have hHeld := hHeld'; clear hHeld'
  try simp only [Act.put, List.getElem_toArray, List.getElem_cons_succ, List.getElem_cons_zero, List.setIfInBounds_toArray, List.set_cons_zero, List.set_cons_succ]
  change wpAnyL _ _ _ _ _ _ #[true, true, true, true, true, true, false, false, true, false, false, false] _ _
  revert hHeld
  revert hS
  revert hD
  revert gD
  revert W2
  clear W
  refine ?nAD
  rotate_left
  intro W gB hB hS hHeld
  refine wpAnyL_ready (rs := [1, 7, 8]) (by kernel_rfl) (by simp) ?_
  refine AllReadyL.cons rfl (fun K hK => ?_) ?_
  go_simp
  (with_reducible refine (hcl.out _).mono ?_)
  rintro e W2 ⟨rfl, hb⟩
  replace hS := hid (hS.out.call hb)
  clear hb
  go_simp
  refine hK.out _ _ (HeldL.cons (fun _ => hmB.out _ hS.out.bel) HeldL.nil) (fun hHeld' => ?_)
  clear hK K hHeld; have hHeld := hHeld'; clear hHeld'
  try simp only [Act.put, List.getElem_toArray, List.getElem_cons_succ, List.getElem_cons_zero, List.setIfInBounds_toArray, List.set_cons_zero, List.set_cons_succ]
  change wpAnyL _ _ _ _ _ _ #[true, true, true, true, true, true, true, false, false, false, false, false] _ _
  revert hHeld
  revert hS
  revert hB
  revert gB
  revert W2
  clear W
  exact ?nAB
  refine AllReadyL.cons rfl (fun K hK => ?_) ?_
  go_simp
  have hC := hid hS.out.le
  replace hS := hid (hS.out.newI16 87)
  generalize W.heap.size = gC at *
  generalize World.alloc W _ = W2 at *
  replace hS := hid hS.out.f1
  refine hK.out _ _ (HeldL.cons (fun _ => hmB.out _ hS.out.bel) HeldL.nil) (fun hHeld' => ?_)
  clear hK K hHeld; have hHeld := hHeld'; clear hHeld'
  try simp only [Act.put, List.getElem_toArray, List.getElem_cons_succ, List.getElem_cons_zero, List.setIfInBounds_toArray, List.set_cons_zero, List.set_cons_succ]
  change wpAnyL _ _ _ _ _ _ #[true, false, true, true, true, true, true, true, false, false, false, false] _ _
  revert hHeld
  revert hS
  revert hC
  revert gC
  revert hB
  revert gB
  revert W2
  clear W
  refine ?nBC
  rotate_left
  refine AllReadyL.cons rfl (fun K hK => ?_) AllReadyL.nil
  go_simp
  have hD := hid hS.out.le
  replace hS := hS.out.newMB ⟨0, 0, fun _ => 0, fun _ => 0⟩ 27
  rw [hzs] at hS
  replace hS := hid hS
  generalize W.heap.size = gD at *
  generalize World.alloc W _ = W2 at *
  replace hS := hid hS.out.f1
  refine hK.out _ _ (HeldL.cons (fun _ => hmB.out _ hS.out.bel) HeldL.nil) (fun hHeld' => ?_)
  clear hK K hHeld; have hHeld := hHeld'; clear hHeld'
  try simp only [Act.put, List.getElem_toArray, List.getElem_cons_succ, List.getElem_cons_zero, List.setIfInBounds_toArray, List.set_cons_zero, List.set_cons_succ]
  change wpAnyL _ _ _ _ _ _ #[true, false, true, true, true, true, true, false, true, false, false, false] _ _
  revert hHeld
  revert hS
  revert hD
  revert gD
  revert hB
  revert gB
  revert W2
  clear W
  refine ?nBD
  rotate_left
  intro W gC hC hS hHeld
  refine wpAnyL_ready (rs := [1, 6, 8]) (by kernel_rfl) (by simp) ?_
  refine AllReadyL.cons rfl (fun K hK => ?_) ?_
  go_simp
  (with_reducible refine (hcl.out _).mono ?_)
  rintro e W2 ⟨rfl, hb⟩
  replace hS := hid (hS.out.call hb)
  clear hb
  go_simp
  refine hK.out _ _ (HeldL.cons (fun _ => hmB.out _ hS.out.bel) HeldL.nil) (fun hHeld' => ?_)
  clear hK K hHeld; have hHeld := hHeld'; clear hHeld'
  try simp only [Act.put, List.getElem_toArray, List.getElem_cons_succ, List.getElem_cons_zero, List.setIfInBounds_toArray, List.set_cons_zero, List.set_cons_succ]
  change wpAnyL _ _ _ _ _ _ #[true, true, true, true, true, true, false, true, false, false, false, false] _ _
  revert hHeld
  revert hS
  revert hC
  revert gC
  revert W2
  clear W
  exact ?nAC
  refine AllReadyL.cons rfl (fun K hK => ?_) ?_
  go_simp
  have hB := hid hS.out.le
  replace hS := hid (hS.out.newI16 87)
  generalize W.heap.size = gB at *
  generalize World.alloc W _ = W2 at *
  refine hK.out _ _ (HeldL.cons (fun _ => hmB.out _ hS.out.bel) HeldL.nil) (fun hHeld' => ?_)
  clear hK K hHeld; have hHeld := hHeld'; clear hHeld'
  try simp only [Act.put, List.getElem_toArray, List.getElem_cons_succ, List.getElem_cons_zero, List.setIfInBounds_toArray, List.set_cons_zero, List.set_cons_succ]
  change wpAnyL _ _ _ _ _ _ #[true, false, true, true, true, true, true, true, false, false, false, false] _ _
  revert hHeld
  revert hS
  revert hC
  revert gC
  revert hB
  revert gB
  revert W2
  clear W
  exact ?nBC
  refine AllReadyL.cons rfl (fun K hK => ?_) AllReadyL.nil
  go_simp
  have hD := hid hS.out.le
  replace hS := hS.out.newMB ⟨0, 0, fun _ => 0, fun _ => 0⟩ 27
  rw [hzs] at hS
  replace hS := hid hS
  generalize W.heap.size = gD at *
  generalize World.alloc W _ = W2 at *
  replace hS := hid hS.out.f1
  refine hK.out _ _ (HeldL.cons (fun _ => hmB.out _ hS.out.bel) HeldL.nil) (fun hHeld' => ?_)
  clear hK K hHeld; have hHeld := hHeld'; clear hHeld'
  try simp only [Act.put, List.getElem_toArray, List.getElem_cons_succ, List.getElem_cons_zero, List.setIfInBounds_toArray, List.set_cons_zero, List.set_cons_succ]
  change wpAnyL _ _ _ _ _ _ #[true, false, true, true, true, true, false, true, true, false, false, false] _ _
  revert hHeld
  revert hS
  revert hD
  revert gD
  revert hC
  revert gC
  revert W2
  clear W
  refine ?nCD
  rotate_left
  intro W gD hD hS hHeld
  refine wpAnyL_ready (rs := [1, 6, 7]) (by kernel_rfl) (by simp) ?_
  refine AllReadyL.cons rfl (fun K hK => ?_) ?_
  go_simp
  (with_reducible refine (hcl.out _).mono ?_)
  rintro e W2 ⟨rfl, hb⟩
  replace hS := hid (hS.out.call hb)
  clear hb
  go_simp
  refine hK.out _ _ (HeldL.cons (fun _ => hmB.out _ hS.out.bel) HeldL.nil) (fun hHeld' => ?_)
  clear hK K hHeld; have hHeld := hHeld'; clear hHeld'
  try simp only [Act.put, List.getElem_toArray, List.getElem_cons_succ, List.getElem_cons_zero, List.setIfInBounds_toArray, List.set_cons_zero, List.set_cons_succ]
  change wpAnyL _ _ _ _ _ _ #[true, true, true, true, true, true, false, false, true, false, false, false] _ _
  revert hHeld
  revert hS
  revert hD
  revert gD
  revert W2
  clear W
  exact ?nAD
  refine AllReadyL.cons rfl (fun K hK => ?_) ?_
  go_simp
  have hB := hid hS.out.le
  replace hS := hid (hS.out.newI16 87)
  generalize W.heap.size = gB at *
  generalize World.alloc W _ = W2 at *
  refine hK.out _ _ (HeldL.cons (fun _ => hmB.out _ hS.out.bel) HeldL.nil) (fun hHeld' => ?_)
  clear hK K hHeld; have hHeld := hHeld'; clear hHeld'
  try simp only [Act.put, List.getElem_toArray, List.getElem_cons_succ, List.getElem_cons_zero, List.setIfInBounds_toArray, List.set_cons_zero, List.set_cons_succ]
  change wpAnyL _ _ _ _ _ _ #[true, false, true, true, true, true, true, false, true, false, false, false] _ _
  revert hHeld
  revert hS
  revert hD
  revert gD
  revert hB
  revert gB
  revert W2
  clear W
  exact ?nBD
  refine AllReadyL.cons rfl (fun K hK => ?_) AllReadyL.nil
  go_simp
  have hC := hid hS.out.le
  replace hS := hid (hS.out.newI16 87)
  generalize W.heap.size = gC at *
  generalize World.alloc W _ = W2 at *
  refine hK.out _ _ (HeldL.cons (fun _ => hmB.out _ hS.out.bel) HeldL.nil) (fun hHeld' => ?_)
  clear hK K hHeld; have hHeld := hHeld'; clear hHeld'
  try simp only [Act.put, List.getElem_toArray, List.getElem_cons_succ, List.getElem_cons_zero, List.setIfInBounds_toArray, List.set_cons_zero, List.set_cons_succ]
  change wpAnyL _ _ _ _ _ _ #[true, false, true, true, true, true, false, true, true, false, false, false] _ _
  revert hHeld
  revert hS
  revert hD
  revert gD
  revert hC
  revert gC
  revert W2
  clear W
  exact ?nCD
  intro W gB hB hS hHeld
  refine wpAnyL_ready (rs := [7, 8]) (by kernel_rfl) (by simp) ?_
  refine AllReadyL.cons rfl (fun K hK => ?_) ?_
  go_simp
  have hC := hid hS.out.le
  replace hS := hid (hS.out.newI16 87)
  generalize W.heap.size = gC at *
  generalize World.alloc W _ = W2 at *
  replace hS := hid hS.out.f1
  refine hK.out _ _ (HeldL.cons (fun _ => hmB.out _ hS.out.bel) HeldL.nil) (fun hHeld' => ?_)
  clear hK K hHeld; have hHeld := hHeld'; clear hHeld'
  try simp only [Act.put, List.getElem_toArray, List.getElem_cons_succ, List.getElem_cons_zero, List.setIfInBounds_toArray, List.set_cons_zero, List.set_cons_succ]
  change wpAnyL _ _ _ _ _ _ #[true, true, true, true, true, true, true, true, false, false, false, false] _ _
  revert hHeld
  revert hS
  revert hC
  revert gC
  revert hB
  revert gB
  revert W2
  clear W
  refine ?nABC
  rotate_left
  refine AllReadyL.cons rfl (fun K hK => ?_) AllReadyL.nil
  go_simp
  have hD := hid hS.out.le
  replace hS := hS.out.newMB ⟨0, 0, fun _ => 0, fun _ => 0⟩ 27
  rw [hzs] at hS
  replace hS := hid hS
  generalize W.heap.size = gD at *
  generalize World.alloc W _ = W2 at *
  replace hS := hid hS.out.f1
  refine hK.out _ _ (HeldL.cons (fun _ => hmB.out _ hS.out.bel) HeldL.nil) (fun hHeld' => ?_)
  clear hK K hHeld; have hHeld := hHeld'; clear hHeld'
  try simp only [Act.put, List.getElem_toArray, List.getElem_cons_succ, List.getElem_cons_zero, List.setIfInBounds_toArray, List.set_cons_zero, List.set_cons_succ]
  change wpAnyL _ _ _ _ _ _ #[true, true, true, true, true, true, true, false, true, false, false, false] _ _
  revert hHeld
  revert hS
  revert hD
  revert gD
  revert hB
  revert gB
  revert W2
  clear W
  refine ?nABD
  rotate_left
  intro W gC hC hS hHeld
  refine wpAnyL_ready (rs := [6, 8]) (by kernel_rfl) (by simp) ?_
  refine AllReadyL.cons rfl (fun K hK => ?_) ?_
  go_simp
  have hB := hid hS.out.le
  replace hS := hid (hS.out.newI16 87)
  generalize W.heap.size = gB at *
  generalize World.alloc W _ = W2 at *
  refine hK.out _ _ (HeldL.cons (fun _ => hmB.out _ hS.out.bel) HeldL.nil) (fun hHeld' => ?_)
  clear hK K hHeld; have hHeld := hHeld'; clear hHeld'
  try simp only [Act.put, List.getElem_toArray, List.getElem_cons_succ, List.getElem_cons_zero, List.setIfInBounds_toArray, List.set_cons_zero, List.set_cons_succ]
  change wpAnyL _ _ _ _ _ _ #[true, true, true, true, true, true, true, true, false, false, false, false] _ _
  revert hHeld
  revert hS
  revert hC
  revert gC
  revert hB
  revert gB
  revert W2
  clear W
  exact ?nABC
  refine AllReadyL.cons rfl (fun K hK => ?_) AllReadyL.nil
  go_simp
  have hD := hid hS.out.le
  replace hS := hS.out.newMB ⟨0, 0, fun _ => 0, fun _ => 0⟩ 27
  rw [hzs] at hS
  replace hS := hid hS
  generalize W.heap.size = gD at *
  generalize World.alloc W _ = W2 at *
  replace hS := hid hS.out.f1
  refine hK.out _ _ (HeldL.cons (fun _ => hmB.out _ hS.out.bel) HeldL.nil) (fun hHeld' => ?_)
  clear hK K hHeld; have hHeld := hHeld'; clear hHeld'
  try simp only [Act.put, List.getElem_toArray, List.getElem_cons_succ, List.getElem_cons_zero, List.setIfInBounds_toArray, List.set_cons_zero, List.set_cons_succ]
  change wpAnyL _ _ _ _ _ _ #[true, true, true, true, true, true, false, true, true, false, false, false] _ _
  revert hHeld
  revert hS
  revert hD
  revert gD
  revert hC
  revert gC
  revert W2
  clear W
  refine ?nACD
  rotate_left
  intro W gD hD hS hHeld
  refine wpAnyL_ready (rs := [6, 7]) (by kernel_rfl) (by simp) ?_
  refine AllReadyL.cons rfl (fun K hK => ?_) ?_
  go_simp
  have hB := hid hS.out.le
  replace hS := hid (hS.out.newI16 87)
  generalize W.heap.size = gB at *
  generalize World.alloc W _ = W2 at *
  refine hK.out _ _ (HeldL.cons (fun _ => hmB.out _ hS.out.bel) HeldL.nil) (fun hHeld' => ?_)
  clear hK K hHeld; have hHeld := hHeld'; clear hHeld'
  try simp only [Act.put, List.getElem_toArray, List.getElem_cons_succ, List.getElem_cons_zero, List.setIfInBounds_toArray, List.set_cons_zero, List.set_cons_succ]
  change wpAnyL _ _ _ _ _ _ #[true, true, true, true, true, true, true, false, true, false, false, false] _ _
  revert hHeld
  revert hS
  revert hD
  revert gD
  revert hB
  revert gB
  revert W2
  clear W
  exact ?nABD
  refine AllReadyL.cons rfl (fun K hK => ?_) AllReadyL.nil
  go_simp
  have hC := hid hS.out.le
  replace hS := hid (hS.out.newI16 87)
  generalize W.heap.size = gC at *
  generalize World.alloc W _ = W2 at *
  refine hK.out _ _ (HeldL.cons (fun _ => hmB.out _ hS.out.bel) HeldL.nil) (fun hHeld' => ?_)
  clear hK K hHeld; have hHeld := hHeld'; clear hHeld'
  try simp only [Act.put, List.getElem_toArray, List.getElem_cons_succ, List.getElem_cons_zero, List.setIfInBounds_toArray, List.set_cons_zero, List.set_cons_succ]
  change wpAnyL _ _ _ _ _ _ #[true, true, true, true, true, true, false, true, true, false, false, false] _ _
  revert hHeld
  revert hS
  revert hD
  revert gD
  revert hC
  revert gC
  revert W2
  clear W
  exact ?nACD
  intro W gB hB gC hC hS hHeld
  refine wpAnyL_ready (rs := [1, 8]) (by kernel_rfl) (by simp) ?_
  refine AllReadyL.cons rfl (fun K hK => ?_) ?_
  go_simp
  (with_reducible refine (hcl.out _).mono ?_)
  rintro e W2 ⟨rfl, hb⟩
  replace hS := hid (hS.out.call hb)
  clear hb
  go_simp
  refine hK.out _ _ (HeldL.cons (fun _ => hmB.out _ hS.out.bel) HeldL.nil) (fun hHeld' => ?_)
  clear hK K hHeld; have hHeld := hHeld'; clear hHeld'
  try simp only [Act.put, List.getElem_toArray, List.getElem_cons_succ, List.getElem_cons_zero, List.setIfInBounds_toArray, List.set_cons_zero, List.set_cons_succ]
  change wpAnyL _ _ _ _ _ _ #[true, true, true, true, true, true, true, true, false, false, false, false] _ _
  revert hHeld
  revert hS
  revert hC
  revert gC
  revert hB
  revert gB
  revert W2
  clear W
  exact ?nABC
  refine AllReadyL.cons rfl (fun K hK => ?_) AllReadyL.nil
  go_simp
  have hD := hid hS.out.le
  replace hS := hS.out.newMB ⟨0, 0, fun _ => 0, fun _ => 0⟩ 27
  rw [hzs] at hS
  replace hS := hid hS
  generalize W.heap.size = gD at *
  generalize World.alloc W _ = W2 at *
  replace hS := hid hS.out.b2
  refine hK.out _ _ (HeldL.cons (fun _ => hmB.out _ hS.out.bel) HeldL.nil) (fun hHeld' => ?_)
  clear hK K hHeld; have hHeld := hHeld'; clear hHeld'
  try simp only [Act.put, List.getElem_toArray, List.getElem_cons_succ, List.getElem_cons_zero, List.setIfInBounds_toArray, List.set_cons_zero, List.set_cons_succ]
  change wpAnyL _ _ _ _ _ _ #[true, false, true, true, true, true, true, true, true, false, false, false] _ _
  revert hHeld
  revert hS
  revert hD
  revert gD
  revert hC
  revert gC
  revert hB
  revert gB
  revert W2
  clear W
  refine ?nBCD
  rotate_left
  intro W gB hB gD hD hS hHeld
  refine wpAnyL_ready (rs := [1, 7]) (by kernel_rfl) (by simp) ?_
  refine AllReadyL.cons rfl (fun K hK => ?_) ?_
  go_simp
  (with_reducible refine (hcl.out _).mono ?_)
  rintro e W2 ⟨rfl, hb⟩
  replace hS := hid (hS.out.call hb)
  clear hb
  go_simp
  refine hK.out _ _ (HeldL.cons (fun _ => hmB.out _ hS.out.bel) HeldL.nil) (fun hHeld' => ?_)
  clear hK K hHeld; have hHeld := hHeld'; clear hHeld'
  try simp only [Act.put, List.getElem_toArray, List.getElem_cons_succ, List.getElem_cons_zero, List.setIfInBounds_toArray, List.set_cons_zero, List.set_cons_succ]
  change wpAnyL _ _ _ _ _ _ #[true, true, true, true, true, true, true, false, true, false, false, false] _ _
  revert hHeld
  revert hS
  revert hD
  revert gD
  revert hB
  revert gB
  revert W2
  clear W
  exact ?nABD
  refine AllReadyL.cons rfl (fun K hK => ?_) AllReadyL.nil
  go_simp
  have hC := hid hS.out.le
  replace hS := hid (hS.out.newI16 87)
  generalize W.heap.size = gC at *
  generalize World.alloc W _ = W2 at *
  replace hS := hid hS.out.f1
  refine hK.out _ _ (HeldL.cons (fun _ => hmB.out _ hS.out.bel) HeldL.nil) (fun hHeld' => ?_)
  clear hK K hHeld; have hHeld := hHeld'; clear hHeld'
  try simp only [Act.put, List.getElem_toArray, List.getElem_cons_succ, List.getElem_cons_zero, List.setIfInBounds_toArray, List.set_cons_zero, List.set_cons_succ]
  change wpAnyL _ _ _ _ _ _ #[true, false, true, true, true, true, true, true, true, false, false, false] _ _
  revert hHeld
  revert hS
  revert hD
  revert gD
  revert hC
  revert gC
  revert hB
  revert gB
  revert W2
  clear W
  exact ?nBCD
  intro W gC hC gD hD hS hHeld
  refine wpAnyL_ready (rs := [1, 6]) (by kernel_rfl) (by simp) ?_
  refine AllReadyL.cons rfl (fun K hK => ?_) ?_
  go_simp
  (with_reducible refine (hcl.out _).mono ?_)
  rintro e W2 ⟨rfl, hb⟩
  replace hS := hid (hS.out.call hb)
  clear hb
  go_simp
  refine hK.out _ _ (HeldL.cons (fun _ => hmB.out _ hS.out.bel) HeldL.nil) (fun hHeld' => ?_)
  clear hK K hHeld; have hHeld := hHeld'; clear hHeld'
  try simp only [Act.put, List.getElem_toArray, List.getElem_cons_succ, List.getElem_cons_zero, List.setIfInBounds_toArray, List.set_cons_zero, List.set_cons_succ]
  change wpAnyL _ _ _ _ _ _ #[true, true, true, true, true, true, false, true, true, false, false, false] _ _
  revert hHeld
  revert hS
  revert hD
  revert gD
  revert hC
  revert gC
  revert W2
  clear W
  exact ?nACD
  refine AllReadyL.cons rfl (fun K hK => ?_) AllReadyL.nil
  go_simp
  have hB := hid hS.out.le
  replace hS := hid (hS.out.newI16 87)
  generalize W.heap.size = gB at *
  generalize World.alloc W _ = W2 at *
  refine hK.out _ _ (HeldL.cons (fun _ => hmB.out _ hS.out.bel) HeldL.nil) (fun hHeld' => ?_)
  clear hK K hHeld; have hHeld := hHeld'; clear hHeld'
  try simp only [Act.put, List.getElem_toArray, List.getElem_cons_succ, List.getElem_cons_zero, List.setIfInBounds_toArray, List.set_cons_zero, List.set_cons_succ]
  change wpAnyL _ _ _ _ _ _ #[true, false, true, true, true, true, true, true, true, false, false, false] _ _
  revert hHeld
  revert hS
  revert hD
  revert gD
  revert hC
  revert gC
  revert hB
  revert gB
  revert W2
  clear W
  exact ?nBCD
  intro W gB hB gC hC hS hHeld
  refine wpAnyL_ready (rs := [8]) (by kernel_rfl) (by simp) ?_
  refine AllReadyL.cons rfl (fun K hK => ?_) AllReadyL.nil
  go_simp
  have hD := hid hS.out.le
  replace hS := hS.out.newMB ⟨0, 0, fun _ => 0, fun _ => 0⟩ 27
  rw [hzs] at hS
  replace hS := hid hS
  generalize W.heap.size = gD at *
  generalize World.alloc W _ = W2 at *
  replace hS := hid hS.out.b2
  refine hK.out _ _ (HeldL.cons (fun _ => hmB.out _ hS.out.bel) HeldL.nil) (fun hHeld' => ?_)
  clear hK K hHeld; have hHeld := hHeld'; clear hHeld'
  try simp only [Act.put, List.getElem_toArray, List.getElem_cons_succ, List.getElem_cons_zero, List.setIfInBounds_toArray, List.set_cons_zero, List.set_cons_succ]
  change wpAnyL _ _ _ _ _ _ #[true, true, true, true, true, true, true, true, true, false, false, false] _ _
  revert hHeld
  revert hS
  revert hD
  revert gD
  revert hC
  revert gC
  revert hB
  revert gB
  revert W2
  clear W
  refine ?nABCD
  rotate_left
  intro W gB hB gD hD hS hHeld
  refine wpAnyL_ready (rs := [7]) (by kernel_rfl) (by simp) ?_
  refine AllReadyL.cons rfl (fun K hK => ?_) AllReadyL.nil
  go_simp
  have hC := hid hS.out.le
  replace hS := hid (hS.out.newI16 87)
  generalize W.heap.size = gC at *
  generalize World.alloc W _ = W2 at *
  replace hS := hid hS.out.f1
  refine hK.out _ _ (HeldL.cons (fun _ => hmB.out _ hS.out.bel) HeldL.nil) (fun hHeld' => ?_)
  clear hK K hHeld; have hHeld := hHeld'; clear hHeld'
  try simp only [Act.put, List.getElem_toArray, List.getElem_cons_succ, List.getElem_cons_zero, List.setIfInBounds_toArray, List.set_cons_zero, List.set_cons_succ]
  change wpAnyL _ _ _ _ _ _ #[true, true, true, true, true, true, true, true, true, false, false, false] _ _
  revert hHeld
  revert hS
  revert hD
  revert gD
  revert hC
  revert gC
  revert hB
  revert gB
  revert W2
  clear W
  exact ?nABCD
  intro W gC hC gD hD hS hHeld
  refine wpAnyL_ready (rs := [6]) (by kernel_rfl) (by simp) ?_
  refine AllReadyL.cons rfl (fun K hK => ?_) AllReadyL.nil
  go_simp
  have hB := hid hS.out.le
  replace hS := hid (hS.out.newI16 87)
  generalize W.heap.size = gB at *
  generalize World.alloc W _ = W2 at *
  refine hK.out _ _ (HeldL.cons (fun _ => hmB.out _ hS.out.bel) HeldL.nil) (fun hHeld' => ?_)
  clear hK K hHeld; have hHeld := hHeld'; clear hHeld'
  try simp only [Act.put, List.getElem_toArray, List.getElem_cons_succ, List.getElem_cons_zero, List.setIfInBounds_toArray, List.set_cons_zero, List.set_cons_succ]
  change wpAnyL _ _ _ _ _ _ #[true, true, true, true, true, true, true, true, true, false, false, false] _ _
  revert hHeld
  revert hS
  revert hD
  revert gD
  revert hC
  revert gC
  revert hB
  revert gB
  revert W2
  clear W
  exact ?nABCD
  intro W gB hB gC hC gD hD hS hHeld
  refine wpAnyL_ready (rs := [1]) (by kernel_rfl) (by simp) ?_
  refine AllReadyL.cons rfl (fun K hK => ?_) AllReadyL.nil
  go_simp
  (with_reducible refine (hcl.out _).mono ?_)
  rintro e W2 ⟨rfl, hb⟩
  replace hS := hid (hS.out.call hb)
  clear hb
  go_simp
  refine hK.out _ _ (HeldL.cons (fun _ => hmB.out _ hS.out.bel) HeldL.nil) (fun hHeld' => ?_)
  clear hK K hHeld; have hHeld := hHeld'; clear hHeld'
  try simp only [Act.put, List.getElem_toArray, List.getElem_cons_succ, List.getElem_cons_zero, List.setIfInBounds_toArray, List.set_cons_zero, List.set_cons_succ]
  change wpAnyL _ _ _ _ _ _ #[true, true, true, true, true, true, true, true, true, false, false, false] _ _
  revert hHeld
  revert hS
  revert hD
  revert gD
  revert hC
  revert gC
  revert hB
  revert gB
  revert W2
  clear W
  exact ?nABCD
  intro W gB hB gC hC gD hD hS hHeld
  refine wpAnyL_ready (rs := [9]) (by kernel_rfl) (by simp) ?_
  refine AllReadyL.cons rfl (fun K hK => ?_) AllReadyL.nil
  refine step_store_i16 rfl _ _ rfl gB rfl (vI (cv T (s + 1))) rfl _ _ hS.out.v0 (fun i => rfl) ?_
  intro W9 p2 ho hbl
  replace hS := hid (hS.out.turnVec hB.out p2 ho hbl)
  clear p2 ho hbl
  refine hK.out _ _ (HeldL.cons (fun _ => hmB.out _ hS.out.bel) HeldL.nil) (fun hHeld' => ?_)
  clear hK K hHeld; have hHeld := hHeld'; clear hHeld'
  try simp only [Act.put, List.getElem_toArray, List.getElem_cons_succ, List.getElem_cons_zero, List.setIfInBounds_toArray, List.set_cons_zero, List.set_cons_succ]
  refine wpAnyL_ready (rs := [10]) (by kernel_rfl) (by simp) ?_
  refine AllReadyL.cons rfl (fun K hK => ?_) AllReadyL.nil
  refine step_store_i16 rfl _ _ rfl gC rfl (fun _ => .int .i64 0) rfl _ _ hS.out.v1 (fun i => rfl) ?_
  intro W10 p2 ho hbl
  replace hS := hid (hS.out.f1.turnVec hC.out p2 ho hbl).f1
  clear p2 ho hbl
  refine hK.out _ _ (HeldL.cons (fun _ => hmB.out _ hS.out.bel) HeldL.nil) (fun hHeld' => ?_)
  clear hK K hHeld; have hHeld := hHeld'; clear hHeld'
  try simp only [Act.put, List.getElem_toArray, List.getElem_cons_succ, List.getElem_cons_zero, List.setIfInBounds_toArray, List.set_cons_zero, List.set_cons_succ]
  refine wpAnyL_ready (rs := [11]) (by kernel_rfl) (by simp) ?_
  refine AllReadyL.cons rfl (fun K hK => ?_) AllReadyL.nil
  refine step_store_mach rfl _ _ rfl gD rfl ⟨(l : Int), 0, fun _ => 0, fun _ => 0⟩ rfl _ _ hS.out.m2 ?_
  intro W11 p2 ho hbl
  replace hS := hid (hS.out.f2.setM hD.out p2 ho hbl).b2
  clear p2 ho hbl
  refine hK.out _ _ (HeldL.cons (fun h => absurd h (by decide +kernel)) HeldL.nil) (fun hHeld' => ?_)
  clear hK K hHeld; have hHeld := hHeld'; clear hHeld'
  try simp only [Act.put, List.getElem_toArray, List.getElem_cons_succ, List.getElem_cons_zero, List.setIfInBounds_toArray, List.set_cons_zero, List.set_cons_succ]
  refine wpAnyL_done (by kernel_rfl) ?_ _
  obtain ⟨NX, hNX⟩ : ∃ NX : Nat → Nat, NX = fun j => (mst T).idxOf (fix T j) := ⟨_, rfl⟩
  have hNXe := hid (fun j => (show (mst T).idxOf (fix T j) = NX j by rw [hNX]))
  clear hNX
  simp only [hNXe.out] at hfl hix hst ⊢
  have hNf := hid (fun j => (show NX (fix T j) = NX j by rw [← hNXe.out, ← hNXe.out, hff.out]))
  replace hS := hid (hS.out.f1.vecEq (g := vI (fl NX 0)) (by funext j; unfold vI fl; rw [if_neg (Nat.not_lt_zero _)]; rfl)).f1
  have hB' := hB.out; have hC' := hC.out; have hD' := hD.out
  replace hB := hid hB'; replace hC := hid hC'; replace hD := hid hD'
  clear hB' hC' hD' hcl
  have hcn0 : (mstN T 0).length = 0 := rfl
  go_wp2
  go_loopw [7] (fun i wr => ∃ q : Nat, q ≤ s ∧ i = .int .i64 q ∧ St (w.heap.size + 1) (w.alloc (.cells (mcells m) 27)) [Asn.vec gB 87 16 (vI (cv T (s + 1))), Asn.vec gC 87 16 (vI (fl NX q)), Asn.mb 27 gD ⟨(l : Int), ((mstN T q).length : Int), fun _ => 0, fun _ => 0⟩, Asn.vec (w.heap.size + 1 + 1) 87 16 (fun _ => .int .i64 0), Asn.mb 27 (w.heap.size + 1) ⟨0, 0, fun _ => 0, fun _ => 0⟩] wr) (fun i _ => s - (intOf i).toNat)
  case atStart => exact ⟨0, Nat.zero_le _, rfl, hS.out⟩
  case round =>
    obtain ⟨q, hq, rfl, rS⟩ := hrel
    clear hS
    have cS := hcS.out _ (hmB.out _ rS.bel)
    by_cases hlq : q < s
    · have dq : decide ((q : Int) < (s : Int)) = true := decide_eq_true (by omega)
      have q0 : (0 : Int) ≤ (q : Int) := Int.natCast_nonneg _
      have q1 : (q : Int) < 16 := by omega
      have c0 : wr.cell? ⟨gB, q, none⟩ = some (.int .i64 (fix T q : Nat)) := by rw [← hcvi.out q hlq]; exact rS.v0.cell (i := q) (by omega)
      have cQ : wr.cell? ⟨gC, q, none⟩ = some _ := rS.v1.cell (i := q) (by omega)
      have fQ : wr.frozen? ⟨gC, q, none⟩ = false := rS.v1.frozen _
      have hcq := hid (hcs.out q)
      have hset := hid (fun (j : Nat) (hj : j < 16) => (show (if j = q then Value.int .i64 (NX q : Nat) else vI (fl NX q) j) = vI (fl NX (q + 1)) j from by
        unfold vI fl
        by_cases e : j = q
        · subst e; rw [if_pos rfl, if_pos (by omega)]
        · rw [if_neg e]
          by_cases h : j < q
          · rw [if_pos h, if_pos (by omega)]
          · rw [if_neg h, if_neg (by omega)]))
      by_cases he : fix T q = q
      · have hnq := hid (show NX q = (mstN T q).length from by have h1 := hNXe.out q; rw [he] at h1; exact h1.symm.trans (hix.out q hlq he))
        have de : ((q : Int) == (q : Int)) = true := by simp
        have hcl16 := hcn.out q
        rw [he] at c0
        rw [if_pos he] at hcq
        have cD := rS.m2.cS
        have rS2 := rS.f1.setVec hC.out q (.int .i64 (NX q : Nat)) (vI (fl NX (q + 1))) hset.out
        rw [hnq.out] at rS2
        have cD2 := rS2.m2.cS
        have fD2 : (wr.setCell ⟨gC, q, none⟩ (.int .i64 ((mstN T q).length : Nat))).frozen? ⟨gD, 1, none⟩ = false := World.rowIs.frozen rS2.m2 _
        have rS3 := hid (rS2.f2.setS hD.out (((mstN T q).length + 1 : Nat) : Int)).b2.f1
        have e1 : IntKind.i64.wrap (((mstN T q).length : Int) + 1) = (((mstN T q).length + 1 : Nat) : Int) := by rw [show ((mstN T q).length : Int) + 1 = (((mstN T q).length + 1 : Nat) : Int) by omega]; exact IntWalk.i64_in _ (by omega)
        dsimp only at cD cD2
        clear rS2 rS hset
        replace he := hid he
        generalize (mstN T q).length = cq at *
        go_wp2
        go_roundw
        case rel => exact ⟨q + 1, by omega, by go_num, by rw [hcq.out]; exact rS3.out⟩
        case measure => simp [intOf]; omega
      · have de : ((q : Int) == ((fix T q : Nat) : Int)) = false := by simp; omega
        have de2 : (((fix T q : Nat) : Int) == (q : Int)) = false := by simp; omega
        rw [if_neg he, Nat.add_zero] at hcq
        have hfq : fix T q < q := by have := hle.out q; omega
        have cF : wr.cell? ⟨gC, fix T q, none⟩ = some (.int .i64 (NX q : Nat)) := (rS.v1.cell (i := fix T q) (by omega)).trans (by unfold vI fl; rw [if_pos hfq, hNf.out])
        have rS2 := hid (rS.f1.setVec hC.out q (.int .i64 (NX q : Nat)) (vI (fl NX (q + 1))) hset.out).f1
        have f0 : (0 : Int) ≤ ((fix T q : Nat) : Int) := Int.natCast_nonneg _
        have f1 : ((fix T q : Nat) : Int) < 16 := by omega
        clear rS hset
        replace he := hid he
        generalize fix T q = fq at *
        go_wp2
        go_roundw
        case rel => exact ⟨q + 1, by omega, by go_num, by rw [hcq.out]; exact rS2.out⟩
        case measure => simp [intOf]; omega
    · obtain rfl : q = s := by omega
      have dq : decide ((q : Int) < (q : Int)) = false := decide_eq_false (by omega)
      have hz1 := hz0.out
      rw [hms.out, hTL] at hz1
      rw [← hz1] at rS
      have rS0 := hid rS
      clear rS hz1 hz0 hcs hcn hix
      go_wp2
      clear cS
      go_loopw [8] (fun i wr => ∃ p : Nat, p ≤ q ∧ i = .int .i64 p ∧ St (w.heap.size + 1) (w.alloc (.cells (mcells m) 27)) [Asn.vec gB 87 16 (vI (cv T (q + 1))), Asn.vec gC 87 16 (vI (fl NX q)), Asn.mb 27 gD (mnP T p 0), Asn.vec (w.heap.size + 1 + 1) 87 16 (fun _ => .int .i64 0), Asn.mb 27 (w.heap.size + 1) ⟨0, 0, fun _ => 0, fun _ => 0⟩] wr) (fun i _ => q - (intOf i).toNat)
      case atStart => exact ⟨0, Nat.zero_le _, rfl, rS0.out⟩
      case round =>
        obtain ⟨p, hp, rfl, rS⟩ := hrel
        clear rS0
        have cS := hcS.out _ (hmB.out _ rS.bel)
        by_cases hlp : p < q
        · have dp : decide ((p : Int) < (q : Int)) = true := decide_eq_true (by omega)
          have hrp := hid (hrow.out p)
          have hsp := hid (fun x hx => hst.out p x hlp hx)
          generalize mnP T p = MP at *
          replace rS := hid rS
          go_wp2
          clear cS
          go_loopw [9] (fun i wr => ∃ x : Nat, x ≤ l ∧ i = .int .i64 x ∧ St (w.heap.size + 1) (w.alloc (.cells (mcells m) 27)) [Asn.vec gB 87 16 (vI (cv T (q + 1))), Asn.vec gC 87 16 (vI (fl NX q)), Asn.mb 27 gD (MP x), Asn.vec (w.heap.size + 1 + 1) 87 16 (fun _ => .int .i64 0), Asn.mb 27 (w.heap.size + 1) ⟨0, 0, fun _ => 0, fun _ => 0⟩] wr) (fun i _ => l - (intOf i).toNat)
          case atStart => exact ⟨0, Nat.zero_le _, rfl, rS.out⟩
          case round =>
            obtain ⟨x, hx, rfl, xS⟩ := hrel
            clear rS
            have cL := hcL.out _ (hmB.out _ xS.bel)
            by_cases hlx : x < l
            · have dx : decide ((x : Int) < (l : Int)) = true := decide_eq_true (by omega)
              obtain ⟨n1, n2, n3, n4⟩ := hnx.out p x hlp hlx
              have hi16 := (hfl.out p hlp).2
              have hj16 := (hfl.out _ n2).2
              have hsx := hid (hsp.out x hlx)
              rw [n1, n3] at hsx
              have hTc := hid (fun W M (h : St (w.heap.size + 1) (w.alloc (.cells (mcells m) 27)) [Asn.vec gB 87 16 (vI (cv T (q + 1))), Asn.vec gC 87 16 (vI (fl NX q)), Asn.mb 27 gD M, Asn.vec (w.heap.size + 1 + 1) 87 16 (fun _ => .int .i64 0), Asn.mb 27 (w.heap.size + 1) ⟨0, 0, fun _ => 0, fun _ => 0⟩] W) => (show W.cell? ⟨gC, p, none⟩ = some (.int .i64 (NX p : Nat)) ∧ W.cell? ⟨w.heap.size, 50 + p * 3 + x, none⟩ = some (.int .u8 (m.ot (p * 3 + x) : Nat)) ∧ W.cell? ⟨w.heap.size, 2 + p * 3 + x, none⟩ = some (.int .u8 (m.nx (p * 3 + x) : Nat)) ∧ W.cell? ⟨gC, m.nx (p * 3 + x), none⟩ = some (.int .i64 (NX (m.nx (p * 3 + x)) : Nat)) from by
                refine ⟨(h.v1.cell (i := p) (by omega)).trans (by unfold vI fl; rw [if_pos hlp]), (hmB.out _ h.bel).cot p x (by omega) (by omega), (hmB.out _ h.bel).cnx p x (by omega) (by omega), (h.v1.cell (i := m.nx (p * 3 + x)) (by omega)).trans (by unfold vI fl; rw [if_pos n2])⟩))
              have x0 : (0 : Int) ≤ (x : Int) := Int.natCast_nonneg _
              have x1 : (x : Int) < 3 := by omega
              have p0 : (0 : Int) ≤ (p : Int) := Int.natCast_nonneg _
              have p1 : (p : Int) < 16 := by omega
              clear n1 n3 hfl hst hsp
              generalize NX (m.nx (p * 3 + x)) = jx at *
              generalize m.nx (p * 3 + x) = v1 at *
              generalize m.ot (p * 3 + x) = y1 at *
              generalize NX p = ip at *
              have v10 : (0 : Int) ≤ (v1 : Int) := Int.natCast_nonneg _
              have v11 : (v1 : Int) < 16 := by omega
              have i0 : (0 : Int) ≤ (ip : Int) := Int.natCast_nonneg _
              have i1 : (ip : Int) < 16 := by omega
              have s3 : IntKind.u8.wrap (jx : Int) = (jx : Int) := u8_in _ (by omega)
              have s4 : ((jx : Int) % 256) = (jx : Int) := by omega
              replace xS := hid xS
              go_upto_region 15 with (fail)
              clear cL
              replace xS := hid xS.out.drew
              refine wp_region_heldL (L := [(13, (fun w' : World => w'.cell? ⟨gC, p, none⟩ = some (.int .i64 (ip : Nat)) ∧ w'.cell? ⟨w.heap.size, 50 + p * 3 + x, none⟩ = some (.int .u8 (y1 : Nat)) ∧ w'.cell? ⟨w.heap.size, 2 + p * 3 + x, none⟩ = some (.int .u8 (v1 : Nat)) ∧ w'.cell? ⟨gC, v1, none⟩ = some (.int .i64 (jx : Nat))))]) (by kernel_rfl) (HeldL.cons (fun _ => hTc.out _ _ xS.out) HeldL.nil) (fun hHeld => ?_)
              generalize World.drew wr = wb at *
              refine wpAnyL_take0 (i := 0) (v := ?_) rfl (by kernel_rfl) (by kernel_rfl) (by kernel_rfl) (by rfl) (fun _ _ _ h => h) (Or.inl ⟨by rfl, ?_⟩) (by assumption) ?_
              rotate_left
              · (intro W _; go_simp; (with_reducible rfl))
              intro hHeld'
              clear hHeld; have hHeld := hHeld'; clear hHeld'
              try simp only [Act.put, List.getElem_toArray, List.getElem_cons_succ, List.getElem_cons_zero, List.setIfInBounds_toArray, List.set_cons_zero, List.set_cons_succ]
              refine wpAnyL_take0 (i := 1) (v := ?_) rfl (by kernel_rfl) (by kernel_rfl) (by kernel_rfl) (by rfl) (fun _ _ _ h => h) (Or.inl ⟨by rfl, ?_⟩) (by assumption) ?_
              rotate_left
              · (intro W _; go_simp; (with_reducible rfl))
              intro hHeld'
              clear hHeld; have hHeld := hHeld'; clear hHeld'
              try simp only [Act.put, List.getElem_toArray, List.getElem_cons_succ, List.getElem_cons_zero, List.setIfInBounds_toArray, List.set_cons_zero, List.set_cons_succ]
              refine wpAnyL_takeP (i := 2) 13 [] (v := (.int .i64 (ip : Nat))) (fun w' : World => w'.cell? ⟨gC, p, none⟩ = some (.int .i64 (ip : Nat)) ∧ w'.cell? ⟨w.heap.size, 50 + p * 3 + x, none⟩ = some (.int .u8 (y1 : Nat)) ∧ w'.cell? ⟨w.heap.size, 2 + p * 3 + x, none⟩ = some (.int .u8 (v1 : Nat)) ∧ w'.cell? ⟨gC, v1, none⟩ = some (.int .i64 (jx : Nat))) rfl (by kernel_rfl) (by kernel_rfl) (by kernel_rfl) (by rfl) (by kernel_rfl) (by simp) (fun _ _ _ h => h) (Or.inl ⟨by rfl, ?_⟩) (by assumption) ?_
              · (intro W hW; (replace hW := hW.1); go_simp)
              intro hHeld'
              clear hHeld; have hHeld := hHeld'; clear hHeld'
              try simp only [Act.put, List.getElem_toArray, List.getElem_cons_succ, List.getElem_cons_zero, List.setIfInBounds_toArray, List.set_cons_zero, List.set_cons_succ]
              refine wpAnyL_take0 (i := 3) (v := ?_) rfl (by kernel_rfl) (by kernel_rfl) (by kernel_rfl) (by rfl) (fun _ _ _ h => h) (Or.inl ⟨by rfl, ?_⟩) (by assumption) ?_
              rotate_left
              · (intro W _; go_simp; (with_reducible rfl))
              intro hHeld'
              clear hHeld; have hHeld := hHeld'; clear hHeld'
              try simp only [Act.put, List.getElem_toArray, List.getElem_cons_succ, List.getElem_cons_zero, List.setIfInBounds_toArray, List.set_cons_zero, List.set_cons_succ]
              refine wpAnyL_take0 (i := 4) (v := ?_) rfl (by kernel_rfl) (by kernel_rfl) (by kernel_rfl) (by rfl) (fun _ _ _ h => h) (Or.inl ⟨by rfl, ?_⟩) (by assumption) ?_
              rotate_left
              · (intro W _; go_simp; (with_reducible rfl))
              intro hHeld'
              clear hHeld; have hHeld := hHeld'; clear hHeld'
              try simp only [Act.put, List.getElem_toArray, List.getElem_cons_succ, List.getElem_cons_zero, List.setIfInBounds_toArray, List.set_cons_zero, List.set_cons_succ]
              refine wpAnyL_take0 (i := 5) (v := ?_) rfl (by kernel_rfl) (by kernel_rfl) (by kernel_rfl) (by rfl) (fun _ _ _ h => h) (Or.inl ⟨by rfl, ?_⟩) (by assumption) ?_
              rotate_left
              · (intro W _; go_simp; (with_reducible rfl))
              intro hHeld'
              clear hHeld; have hHeld := hHeld'; clear hHeld'
              try simp only [Act.put, List.getElem_toArray, List.getElem_cons_succ, List.getElem_cons_zero, List.setIfInBounds_toArray, List.set_cons_zero, List.set_cons_succ]
              refine wpAnyL_take0 (i := 6) (v := ?_) rfl (by kernel_rfl) (by kernel_rfl) (by kernel_rfl) (by rfl) (fun _ _ _ h => h) (Or.inl ⟨by rfl, ?_⟩) (by assumption) ?_
              rotate_left
              · (intro W _; go_simp; (with_reducible rfl))
              intro hHeld'
              clear hHeld; have hHeld := hHeld'; clear hHeld'
              try simp only [Act.put, List.getElem_toArray, List.getElem_cons_succ, List.getElem_cons_zero, List.setIfInBounds_toArray, List.set_cons_zero, List.set_cons_succ]
              refine wpAnyL_take0 (i := 7) (v := ?_) rfl (by kernel_rfl) (by kernel_rfl) (by kernel_rfl) (by rfl) (fun _ _ _ h => h) (Or.inl ⟨by rfl, ?_⟩) (by assumption) ?_
              rotate_left
              · (intro W _; go_simp; (with_reducible rfl))
              intro hHeld'
              clear hHeld; have hHeld := hHeld'; clear hHeld'
              try simp only [Act.put, List.getElem_toArray, List.getElem_cons_succ, List.getElem_cons_zero, List.setIfInBounds_toArray, List.set_cons_zero, List.set_cons_succ]
              refine wpAnyL_take0 (i := 8) (v := ?_) rfl (by kernel_rfl) (by kernel_rfl) (by kernel_rfl) (by rfl) (fun _ _ _ h => h) (Or.inl ⟨by rfl, ?_⟩) (by assumption) ?_
              rotate_left
              · (intro W _; go_simp; (with_reducible rfl))
              intro hHeld'
              clear hHeld; have hHeld := hHeld'; clear hHeld'
              try simp only [Act.put, List.getElem_toArray, List.getElem_cons_succ, List.getElem_cons_zero, List.setIfInBounds_toArray, List.set_cons_zero, List.set_cons_succ]
              refine wpAnyL_takeP (i := 9) 13 [] (v := (.int .u8 (y1 : Nat))) (fun w' : World => w'.cell? ⟨gC, p, none⟩ = some (.int .i64 (ip : Nat)) ∧ w'.cell? ⟨w.heap.size, 50 + p * 3 + x, none⟩ = some (.int .u8 (y1 : Nat)) ∧ w'.cell? ⟨w.heap.size, 2 + p * 3 + x, none⟩ = some (.int .u8 (v1 : Nat)) ∧ w'.cell? ⟨gC, v1, none⟩ = some (.int .i64 (jx : Nat))) rfl (by kernel_rfl) (by kernel_rfl) (by kernel_rfl) (by rfl) (by kernel_rfl) (by simp) (fun _ _ _ h => h) (Or.inl ⟨by rfl, ?_⟩) (by assumption) ?_
              · (intro W hW; (replace hW := hW.2.1); go_simp)
              intro hHeld'
              clear hHeld; have hHeld := hHeld'; clear hHeld'
              try simp only [Act.put, List.getElem_toArray, List.getElem_cons_succ, List.getElem_cons_zero, List.setIfInBounds_toArray, List.set_cons_zero, List.set_cons_succ]
              refine wpAnyL_take0 (i := 10) (v := ?_) rfl (by kernel_rfl) (by kernel_rfl) (by kernel_rfl) (by rfl) (fun _ _ _ h => h) (Or.inl ⟨by rfl, ?_⟩) (by assumption) ?_
              rotate_left
              · (intro W _; go_simp; (with_reducible rfl))
              intro hHeld'
              clear hHeld; have hHeld := hHeld'; clear hHeld'
              try simp only [Act.put, List.getElem_toArray, List.getElem_cons_succ, List.getElem_cons_zero, List.setIfInBounds_toArray, List.set_cons_zero, List.set_cons_succ]
              refine wpAnyL_take0 (i := 11) (v := ?_) rfl (by kernel_rfl) (by kernel_rfl) (by kernel_rfl) (by rfl) (fun _ _ _ h => h) (Or.inl ⟨by rfl, ?_⟩) (by assumption) ?_
              rotate_left
              · (intro W _; go_simp; (with_reducible rfl))
              intro hHeld'
              clear hHeld; have hHeld := hHeld'; clear hHeld'
              try simp only [Act.put, List.getElem_toArray, List.getElem_cons_succ, List.getElem_cons_zero, List.setIfInBounds_toArray, List.set_cons_zero, List.set_cons_succ]
              refine wpAnyL_take0 (i := 12) (v := ?_) rfl (by kernel_rfl) (by kernel_rfl) (by kernel_rfl) (by rfl) (fun _ _ _ h => h) (Or.inl ⟨by rfl, ?_⟩) (by assumption) ?_
              rotate_left
              · (intro W _; go_simp; (with_reducible rfl))
              intro hHeld'
              clear hHeld; have hHeld := hHeld'; clear hHeld'
              try simp only [Act.put, List.getElem_toArray, List.getElem_cons_succ, List.getElem_cons_zero, List.setIfInBounds_toArray, List.set_cons_zero, List.set_cons_succ]
              obtain ⟨vn, cn⟩ : ∃ u, wb.cell? ⟨gD, 50 + ip * 3 + x, none⟩ = some u := ⟨_, xS.out.m2.cot ip x (by omega) (by omega)⟩
              have fn : wb.frozen? ⟨gD, 50 + ip * 3 + x, none⟩ = false := World.rowIs.frozen xS.out.m2 _
              refine wpAnyL_ready (rs := [13]) (by kernel_rfl) (by simp) ?_
              refine AllReadyL.cons rfl (fun K hK => ?_) AllReadyL.nil
              go_simp
              replace xS := hid (xS.out.f2.setOt hD.out ip x y1 (by omega) (by omega)).b2
              clear cn fn
              generalize wb.setCell ⟨gD, 50 + ip * 3 + x, none⟩ (.int .u8 (y1 : Nat)) = wc at *
              refine hK.out _ _ (HeldL.cons (fun h => absurd h (by decide +kernel)) HeldL.nil) (fun hHeld' => ?_)
              clear hK K hHeld; have hHeld := hHeld'; clear hHeld'
              try simp only [Act.put, List.getElem_toArray, List.getElem_cons_succ, List.getElem_cons_zero, List.setIfInBounds_toArray, List.set_cons_zero, List.set_cons_succ]
              refine wpAnyL_done (by kernel_rfl) ?_ _
              go_upto_region 16 with (fail)
              replace xS := hid xS.out.drew
              refine wp_region_heldL (L := [(16, (fun w' : World => w'.cell? ⟨gC, p, none⟩ = some (.int .i64 (ip : Nat)) ∧ w'.cell? ⟨w.heap.size, 50 + p * 3 + x, none⟩ = some (.int .u8 (y1 : Nat)) ∧ w'.cell? ⟨w.heap.size, 2 + p * 3 + x, none⟩ = some (.int .u8 (v1 : Nat)) ∧ w'.cell? ⟨gC, v1, none⟩ = some (.int .i64 (jx : Nat))))]) (by kernel_rfl) (HeldL.cons (fun _ => hTc.out _ _ xS.out) HeldL.nil) (fun hHeld => ?_)
              generalize World.drew wc = wd at *
              refine wpAnyL_take0 (i := 0) (v := ?_) rfl (by kernel_rfl) (by kernel_rfl) (by kernel_rfl) (by rfl) (fun _ _ _ h => h) (Or.inl ⟨by rfl, ?_⟩) (by assumption) ?_
              rotate_left
              · (intro W _; go_simp; (with_reducible rfl))
              intro hHeld'
              clear hHeld; have hHeld := hHeld'; clear hHeld'
              try simp only [Act.put, List.getElem_toArray, List.getElem_cons_succ, List.getElem_cons_zero, List.setIfInBounds_toArray, List.set_cons_zero, List.set_cons_succ]
              refine wpAnyL_take0 (i := 1) (v := ?_) rfl (by kernel_rfl) (by kernel_rfl) (by kernel_rfl) (by rfl) (fun _ _ _ h => h) (Or.inl ⟨by rfl, ?_⟩) (by assumption) ?_
              rotate_left
              · (intro W _; go_simp; (with_reducible rfl))
              intro hHeld'
              clear hHeld; have hHeld := hHeld'; clear hHeld'
              try simp only [Act.put, List.getElem_toArray, List.getElem_cons_succ, List.getElem_cons_zero, List.setIfInBounds_toArray, List.set_cons_zero, List.set_cons_succ]
              refine wpAnyL_takeP (i := 2) 16 [] (v := (.int .i64 (ip : Nat))) (fun w' : World => w'.cell? ⟨gC, p, none⟩ = some (.int .i64 (ip : Nat)) ∧ w'.cell? ⟨w.heap.size, 50 + p * 3 + x, none⟩ = some (.int .u8 (y1 : Nat)) ∧ w'.cell? ⟨w.heap.size, 2 + p * 3 + x, none⟩ = some (.int .u8 (v1 : Nat)) ∧ w'.cell? ⟨gC, v1, none⟩ = some (.int .i64 (jx : Nat))) rfl (by kernel_rfl) (by kernel_rfl) (by kernel_rfl) (by rfl) (by kernel_rfl) (by simp) (fun _ _ _ h => h) (Or.inl ⟨by rfl, ?_⟩) (by assumption) ?_
              · (intro W hW; (replace hW := hW.1); go_simp)
              intro hHeld'
              clear hHeld; have hHeld := hHeld'; clear hHeld'
              try simp only [Act.put, List.getElem_toArray, List.getElem_cons_succ, List.getElem_cons_zero, List.setIfInBounds_toArray, List.set_cons_zero, List.set_cons_succ]
              refine wpAnyL_take0 (i := 3) (v := ?_) rfl (by kernel_rfl) (by kernel_rfl) (by kernel_rfl) (by rfl) (fun _ _ _ h => h) (Or.inl ⟨by rfl, ?_⟩) (by assumption) ?_
              rotate_left
              · (intro W _; go_simp; (with_reducible rfl))
              intro hHeld'
              clear hHeld; have hHeld := hHeld'; clear hHeld'
              try simp only [Act.put, List.getElem_toArray, List.getElem_cons_succ, List.getElem_cons_zero, List.setIfInBounds_toArray, List.set_cons_zero, List.set_cons_succ]
              refine wpAnyL_take0 (i := 4) (v := ?_) rfl (by kernel_rfl) (by kernel_rfl) (by kernel_rfl) (by rfl) (fun _ _ _ h => h) (Or.inl ⟨by rfl, ?_⟩) (by assumption) ?_
              rotate_left
              · (intro W _; go_simp; (with_reducible rfl))
              intro hHeld'
              clear hHeld; have hHeld := hHeld'; clear hHeld'
              try simp only [Act.put, List.getElem_toArray, List.getElem_cons_succ, List.getElem_cons_zero, List.setIfInBounds_toArray, List.set_cons_zero, List.set_cons_succ]
              refine wpAnyL_take0 (i := 5) (v := ?_) rfl (by kernel_rfl) (by kernel_rfl) (by kernel_rfl) (by rfl) (fun _ _ _ h => h) (Or.inl ⟨by rfl, ?_⟩) (by assumption) ?_
              rotate_left
              · (intro W _; go_simp; (with_reducible rfl))
              intro hHeld'
              clear hHeld; have hHeld := hHeld'; clear hHeld'
              try simp only [Act.put, List.getElem_toArray, List.getElem_cons_succ, List.getElem_cons_zero, List.setIfInBounds_toArray, List.set_cons_zero, List.set_cons_succ]
              refine wpAnyL_take0 (i := 6) (v := ?_) rfl (by kernel_rfl) (by kernel_rfl) (by kernel_rfl) (by rfl) (fun _ _ _ h => h) (Or.inl ⟨by rfl, ?_⟩) (by assumption) ?_
              rotate_left
              · (intro W _; go_simp; (with_reducible rfl))
              intro hHeld'
              clear hHeld; have hHeld := hHeld'; clear hHeld'
              try simp only [Act.put, List.getElem_toArray, List.getElem_cons_succ, List.getElem_cons_zero, List.setIfInBounds_toArray, List.set_cons_zero, List.set_cons_succ]
              refine wpAnyL_take0 (i := 7) (v := ?_) rfl (by kernel_rfl) (by kernel_rfl) (by kernel_rfl) (by rfl) (fun _ _ _ h => h) (Or.inl ⟨by rfl, ?_⟩) (by assumption) ?_
              rotate_left
              · (intro W _; go_simp; (with_reducible rfl))
              intro hHeld'
              clear hHeld; have hHeld := hHeld'; clear hHeld'
              try simp only [Act.put, List.getElem_toArray, List.getElem_cons_succ, List.getElem_cons_zero, List.setIfInBounds_toArray, List.set_cons_zero, List.set_cons_succ]
              refine wpAnyL_take0 (i := 8) (v := ?_) rfl (by kernel_rfl) (by kernel_rfl) (by kernel_rfl) (by rfl) (fun _ _ _ h => h) (Or.inl ⟨by rfl, ?_⟩) (by assumption) ?_
              rotate_left
              · (intro W _; go_simp; (with_reducible rfl))
              intro hHeld'
              clear hHeld; have hHeld := hHeld'; clear hHeld'
              try simp only [Act.put, List.getElem_toArray, List.getElem_cons_succ, List.getElem_cons_zero, List.setIfInBounds_toArray, List.set_cons_zero, List.set_cons_succ]
              refine wpAnyL_takeP (i := 9) 16 [] (v := (.int .u8 (v1 : Nat))) (fun w' : World => w'.cell? ⟨gC, p, none⟩ = some (.int .i64 (ip : Nat)) ∧ w'.cell? ⟨w.heap.size, 50 + p * 3 + x, none⟩ = some (.int .u8 (y1 : Nat)) ∧ w'.cell? ⟨w.heap.size, 2 + p * 3 + x, none⟩ = some (.int .u8 (v1 : Nat)) ∧ w'.cell? ⟨gC, v1, none⟩ = some (.int .i64 (jx : Nat))) rfl (by kernel_rfl) (by kernel_rfl) (by kernel_rfl) (by rfl) (by kernel_rfl) (by simp) (fun _ _ _ h => h) (Or.inl ⟨by rfl, ?_⟩) (by assumption) ?_
              · (intro W hW; (replace hW := hW.2.2.1); go_simp)
              intro hHeld'
              clear hHeld; have hHeld := hHeld'; clear hHeld'
              try simp only [Act.put, List.getElem_toArray, List.getElem_cons_succ, List.getElem_cons_zero, List.setIfInBounds_toArray, List.set_cons_zero, List.set_cons_succ]
              refine wpAnyL_take0 (i := 10) (v := ?_) rfl (by kernel_rfl) (by kernel_rfl) (by kernel_rfl) (by rfl) (fun _ _ _ h => h) (Or.inl ⟨by rfl, ?_⟩) (by assumption) ?_
              rotate_left
              · (intro W _; go_simp; (with_reducible rfl))
              intro hHeld'
              clear hHeld; have hHeld := hHeld'; clear hHeld'
              try simp only [Act.put, List.getElem_toArray, List.getElem_cons_succ, List.getElem_cons_zero, List.setIfInBounds_toArray, List.set_cons_zero, List.set_cons_succ]
              refine wpAnyL_takeP (i := 11) 16 [] (v := (.int .i64 (jx : Nat))) (fun w' : World => w'.cell? ⟨gC, p, none⟩ = some (.int .i64 (ip : Nat)) ∧ w'.cell? ⟨w.heap.size, 50 + p * 3 + x, none⟩ = some (.int .u8 (y1 : Nat)) ∧ w'.cell? ⟨w.heap.size, 2 + p * 3 + x, none⟩ = some (.int .u8 (v1 : Nat)) ∧ w'.cell? ⟨gC, v1, none⟩ = some (.int .i64 (jx : Nat))) rfl (by kernel_rfl) (by kernel_rfl) (by kernel_rfl) (by rfl) (by kernel_rfl) (by simp) (fun _ _ _ h => h) (Or.inl ⟨by rfl, ?_⟩) (by assumption) ?_
              · (intro W hW; (replace hW := hW.2.2.2); go_simp)
              intro hHeld'
              clear hHeld; have hHeld := hHeld'; clear hHeld'
              try simp only [Act.put, List.getElem_toArray, List.getElem_cons_succ, List.getElem_cons_zero, List.setIfInBounds_toArray, List.set_cons_zero, List.set_cons_succ]
              refine wpAnyL_take0 (i := 12) (v := ?_) rfl (by kernel_rfl) (by kernel_rfl) (by kernel_rfl) (by rfl) (fun _ _ _ h => h) (Or.inl ⟨by rfl, ?_⟩) (by assumption) ?_
              rotate_left
              · (intro W _; go_simp; (with_reducible rfl))
              intro hHeld'
              clear hHeld; have hHeld := hHeld'; clear hHeld'
              try simp only [Act.put, List.getElem_toArray, List.getElem_cons_succ, List.getElem_cons_zero, List.setIfInBounds_toArray, List.set_cons_zero, List.set_cons_succ]
              refine wpAnyL_take0 (i := 13) (v := ?_) rfl (by kernel_rfl) (by kernel_rfl) (by kernel_rfl) (by rfl) (fun _ _ _ h => h) (Or.inl ⟨by rfl, ?_⟩) (by assumption) ?_
              rotate_left
              · (intro W _; go_simp; (with_reducible rfl))
              intro hHeld'
              clear hHeld; have hHeld := hHeld'; clear hHeld'
              try simp only [Act.put, List.getElem_toArray, List.getElem_cons_succ, List.getElem_cons_zero, List.setIfInBounds_toArray, List.set_cons_zero, List.set_cons_succ]
              refine wpAnyL_take0 (i := 14) (v := ?_) rfl (by kernel_rfl) (by kernel_rfl) (by kernel_rfl) (by rfl) (fun _ _ _ h => h) (Or.inl ⟨by rfl, ?_⟩) (by assumption) ?_
              rotate_left
              · (intro W _; go_simp; (with_reducible rfl))
              intro hHeld'
              clear hHeld; have hHeld := hHeld'; clear hHeld'
              try simp only [Act.put, List.getElem_toArray, List.getElem_cons_succ, List.getElem_cons_zero, List.setIfInBounds_toArray, List.set_cons_zero, List.set_cons_succ]
              refine wpAnyL_take0 (i := 15) (v := ?_) rfl (by kernel_rfl) (by kernel_rfl) (by kernel_rfl) (by rfl) (fun _ _ _ h => h) (Or.inl ⟨by rfl, ?_⟩) (by assumption) ?_
              rotate_left
              · (intro W _; go_simp; (with_reducible rfl))
              intro hHeld'
              clear hHeld; have hHeld := hHeld'; clear hHeld'
              try simp only [Act.put, List.getElem_toArray, List.getElem_cons_succ, List.getElem_cons_zero, List.setIfInBounds_toArray, List.set_cons_zero, List.set_cons_succ]
              obtain ⟨vn, cn⟩ : ∃ u, wd.cell? ⟨gD, 2 + ip * 3 + x, none⟩ = some u := ⟨_, xS.out.m2.cnx ip x (by omega) (by omega)⟩
              have fn : wd.frozen? ⟨gD, 2 + ip * 3 + x, none⟩ = false := World.rowIs.frozen xS.out.m2 _
              refine wpAnyL_ready (rs := [16]) (by kernel_rfl) (by simp) ?_
              refine AllReadyL.cons rfl (fun K hK => ?_) AllReadyL.nil
              go_simp
              replace xS := hid (xS.out.f2.setNx hD.out ip x jx (by omega) (by omega)).b2
              clear cn fn
              refine hK.out _ _ (HeldL.cons (fun h => absurd h (by decide +kernel)) HeldL.nil) (fun hHeld' => ?_)
              clear hK K hHeld; have hHeld := hHeld'; clear hHeld'
              try simp only [Act.put, List.getElem_toArray, List.getElem_cons_succ, List.getElem_cons_zero, List.setIfInBounds_toArray, List.set_cons_zero, List.set_cons_succ]
              refine wpAnyL_done (by kernel_rfl) ?_ _
              go_wp2
              go_roundw
              case rel => exact ⟨x + 1, by omega, by go_num, by rw [hsx.out]; exact xS.out⟩
              case measure => simp [intOf]; omega
            · obtain rfl : x = l := by omega
              have dx : decide ((x : Int) < (x : Int)) = false := decide_eq_false (by omega)
              rw [hrp.out] at xS
              replace xS := hid xS
              go_wp2
              go_roundw
              case rel => exact ⟨p + 1, by omega, by go_num, xS.out⟩
              case measure => simp [intOf]; omega
        · obtain rfl : p = q := by omega
          have dp : decide ((p : Int) < (p : Int)) = false := decide_eq_false (by omega)
          rw [hdn.out] at rS
          replace rS := hid rS
          go_upto_region 17 with (fail)
          clear cS
          replace rS := hid rS.out.drew
          refine wp_region_heldL (L := [(3, (fun w' : World => MB w' 27 gD (mnM T) ∧ w'.rowIs gC 87 16 (vI (fl NX p))))]) (by kernel_rfl) (HeldL.cons (fun _ => ⟨rS.out.m2, rS.out.v1⟩) HeldL.nil) (fun hHeld => ?_)
          generalize World.drew wr = wb at *
          refine wpAnyL_takeP (i := 0) 3 [2] (v := (.agg (mcells (mnM T)))) (fun w' : World => MB w' 27 gD (mnM T) ∧ w'.rowIs gC 87 16 (vI (fl NX p))) rfl (by kernel_rfl) (by kernel_rfl) (by kernel_rfl) (by rfl) (by kernel_rfl) (by simp) (fun _ _ _ h => h) (Or.inl ⟨by rfl, ?_⟩) (by assumption) ?_
          · (intro W hW; exact exec_load _ rfl rfl (load_run hW.1))
          intro hHeld'
          clear hHeld; have hHeld := hHeld'; clear hHeld'
          try simp only [Act.put, List.getElem_toArray, List.getElem_cons_succ, List.getElem_cons_zero, List.setIfInBounds_toArray, List.set_cons_zero, List.set_cons_succ]
          refine wpAnyL_takeP (i := 1) 3 [] (v := (.agg (rowL 16 (vI (fl NX p))).toArray)) (fun w' : World => MB w' 27 gD (mnM T) ∧ w'.rowIs gC 87 16 (vI (fl NX p))) rfl (by kernel_rfl) (by kernel_rfl) (by kernel_rfl) (by rfl) (by kernel_rfl) (by simp) (fun _ _ _ h => h) (Or.inl ⟨by rfl, ?_⟩) (by assumption) ?_
          · (intro W hW; exact exec_load _ rfl rfl (load_i16_run hW.2))
          intro hHeld'
          clear hHeld; have hHeld := hHeld'; clear hHeld'
          try simp only [Act.put, List.getElem_toArray, List.getElem_cons_succ, List.getElem_cons_zero, List.setIfInBounds_toArray, List.set_cons_zero, List.set_cons_succ]
          refine wpAnyL_ready (rs := [2]) (by kernel_rfl) (by simp) ?_
          refine AllReadyL.cons rfl (fun K hK => ?_) AllReadyL.nil
          refine step_store_mach rfl _ _ rfl (w.heap.size + 1) rfl (mnM T) rfl _ _ rS.out.m4 ?_
          intro W9 p2 ho hbl
          replace rS := hid (rS.out.f4.setM (Nat.le_refl _) p2 ho hbl)
          clear p2 ho hbl
          refine hK.out _ _ (HeldL.cons (fun _ => ⟨rS.out.m3, rS.out.v2⟩) HeldL.nil) (fun hHeld' => ?_)
          clear hK K hHeld; have hHeld := hHeld'; clear hHeld'
          try simp only [Act.put, List.getElem_toArray, List.getElem_cons_succ, List.getElem_cons_zero, List.setIfInBounds_toArray, List.set_cons_zero, List.set_cons_succ]
          refine wpAnyL_ready (rs := [3]) (by kernel_rfl) (by simp) ?_
          refine AllReadyL.cons rfl (fun K hK => ?_) AllReadyL.nil
          refine step_store_i16 rfl _ _ rfl (w.heap.size + 1 + 1) rfl (vI (fl NX p)) rfl _ _ rS.out.f4.v0 (fun i => rfl) ?_
          intro W10 p2 ho hbl
          replace rS := hid (rS.out.f4.turnVec (Nat.le_succ _) p2 ho hbl)
          clear p2 ho hbl
          refine hK.out _ _ (HeldL.cons (fun h => absurd h (by decide +kernel)) HeldL.nil) (fun hHeld' => ?_)
          clear hK K hHeld; have hHeld := hHeld'; clear hHeld'
          try simp only [Act.put, List.getElem_toArray, List.getElem_cons_succ, List.getElem_cons_zero, List.setIfInBounds_toArray, List.set_cons_zero, List.set_cons_succ]
          refine wpAnyL_done (by kernel_rfl) ?_ _
          go_wp2
          exact ret_mv16 rfl rfl rfl rS.out.m1 rS.out.v0 rfl ⟨fl NX p, rfl, fun q hq => by unfold fl; rw [if_pos hq]; exact (hNXe.out q).symm, hb0.out.trans (rS.out.bel.mono (Nat.le_succ _))⟩
end Go.Proofs.Ytbmkkaecfogmoaa

/- MinimalMachine: the reference's. -/
namespace Go.Proofs.Ytbmkkaecfogmoaa
open Go.RowKit
set_option linter.unusedVariables false
set_option linter.unusedSimpArgs false

section
variable {base : Nat} {w0 w : World} {L : List Asn}
theorem St.mbVec (h : St base w0 L w) (t1 t2 : Nat) : St base w0 (Asn.vec (w.heap.size + 1) t2 16 (fun _ => .int .i64 0) :: Asn.mb t1 w.heap.size ⟨0, 0, fun _ => 0, fun _ => 0⟩ :: L) ((w.alloc (.cells (mcells ⟨0, 0, fun _ => 0, fun _ => 0⟩) t1)).alloc (.cells #[.int .i64 0, .int .i64 0, .int .i64 0, .int .i64 0, .int .i64 0, .int .i64 0, .int .i64 0, .int .i64 0, .int .i64 0, .int .i64 0, .int .i64 0, .int .i64 0, .int .i64 0, .int .i64 0, .int .i64 0, .int .i64 0] t2)) := by
  have h2 := (h.newMB ⟨0, 0, fun _ => 0, fun _ => 0⟩ t1).newI16 t2
  rw [heap_alloc_size] at h2
  exact h2
end
set_option maxHeartbeats 4000000 in
set_option maxRecDepth 100000 in
theorem specMin_any (w : World) (m : Mach) (hk : m.Ok) :
    Calls Try.prog 11 #[.agg (mcells m)] w fun e w' => ∃ v, e = .returned (.tuple #[.agg (mcells (minAns m).1), v, .int .i64 (minAns m).2.2]) ∧ Own w' w.heap.size 2 v (ints (minAns m).2.1) ∧ Below w.heap.size w w' := by
  have hz := zero_mach
  have hS := hid (((St.start w).newMB m 27).newMB ⟨0, 0, fun _ => 0, fun _ => 0⟩ 27)
  rw [heap_alloc_size] at hS
  by_cases hm : IsM m
  · obtain ⟨l, s, g⟩ := hm.good
    rw [minAns_good g]
    have him := hid (fun W => l01Is_any W m hk true (iff_of_true rfl hm))
    have hmi := hid (fun W => l01Minimal_any W m l s g hk)
    have gS := hid g.S
    have s16 := g.s16
    have hts := hid (fun k => mnNk_succ (tabOf m l s) k)
    have hfx := hid (fun k (hk : k < s) => (show (mst (tabOf m l s)).idxOf (fix (tabOf m l s) k) < 16 from by have h1 := mnN_lt (T := tabOf m l s) (q := k) hk; have h2 := mst_len (tabOf m l s); have h3 : (tabOf m l s).n = s := rfl; omega))
    have hll := hid (fun k => mnNk_len (tabOf m l s) k)
    have ht0 := hid (show mnNk (tabOf m l s) 0 = [] from rfl)
    have hdn := hid (show mnN (tabOf m l s) = mnNk (tabOf m l s) s from rfl)
    rw [hdn.out]
    replace hk := hid hk; replace hm := hid hm
    clear g hdn
    generalize mnM (tabOf m l s) = M at *
    generalize hG : (fun q => (mst (tabOf m l s)).idxOf (fix (tabOf m l s) q)) = G at *
    have hGe := hid (fun q => (show (mst (tabOf m l s)).idxOf (fix (tabOf m l s) q) = G q from by rw [← hG]))
    clear hG
    simp only [hGe.out] at hts hmi hfx
    clear hGe
    generalize mnNk (tabOf m l s) = R at *
    go_enter Try.func11, Try.ntmps11
    go_upto_region 4 with (first
      | ((with_reducible refine gate (N := 9) rfl ?_); refine load_mach rfl _ rfl w.heap.size rfl m hS.out.m1 ?_)
      | (go_at_call 80; (with_reducible refine (him.out _).mono ?_); rintro e w1 ⟨rfl, hb⟩; replace hS := hid (hS.out.call hb); clear hb)
      | ((with_reducible refine gate (N := 14) rfl ?_); refine load_mach rfl _ rfl w.heap.size rfl m hS.out.m1 ?_)
      | (go_at_call 81; (with_reducible refine (hmi.out _).mono ?_); rintro e w2 ⟨f, rfl, hf, hb⟩; have hle := hid (hS.out.call hb).le; replace hS := hid ((hS.out.call hb).mbVec 27 87); replace hf := hid hf; clear hb)
      | ((with_reducible refine gateOp (op := .store 27 (.tmp 5) (.tmp 16)) rfl ?_); refine store_mach rfl _ _ rfl w2.heap.size rfl M rfl 27 _ hS.out.f1.m0 ?_; intro w3 p3 ho hsz hbl; replace hS := hid (hS.out.f1.setM hle.out p3 ho hbl); clear p3 ho hsz hbl)
      | ((with_reducible refine gateOp (op := .store 87 (.tmp 6) (.tmp 17)) rfl ?_); refine store_vec rfl 87 _ _ rfl (w2.heap.size + 1) rfl 16 (vI f) rfl _ _ hS.out.f1.v0 sz_i16 (fun i => rfl) ?_; intro w4 p2 ho hbl; replace hS := hid (hS.out.f1.turnVec (Nat.le_succ_of_le hle.out) p2 ho hbl); clear p2 ho hbl))
    have hS2 := hid (hS.out.newOwn [] 2 (by simp))
    clear hS
    generalize w2.heap.size = b5 at *
    go_wp2
    go_loopw [7, 8] (fun o i wr => ∃ k : Nat, k ≤ s ∧ i = .int .i64 k ∧ St w.heap.size w [Asn.own w.heap.size 2 o (ints ((R k).map Int.ofNat)), Asn.vec (b5 + 1) 87 16 (vI f), Asn.mb 27 b5 M, Asn.mb 27 (w.heap.size + 1) ⟨0, 0, fun _ => 0, fun _ => 0⟩, Asn.mb 27 w.heap.size m] wr) (fun _ i _ => s - (intOf i).toNat)
    case atStart => exact ⟨0, Nat.zero_le _, rfl, by rw [ht0.out]; exact hS2.out⟩
    case round =>
      obtain ⟨k, hk', rfl, rS⟩ := hrel
      clear hS2
      have cS := rS.m4.cS
      rw [gS.out] at cS
      by_cases hlt : k < s
      · have dk : decide ((k : Int) < (s : Int)) = true := decide_eq_true (by omega)
        have k0 : (0 : Int) ≤ (k : Int) := Int.natCast_nonneg _
        have k1 : (k : Int) < 16 := by omega
        have c0 : wr.cell? ⟨b5 + 1, k, none⟩ = some (.int .i64 (f k : Nat)) := rS.v1.cell (i := k) (by omega)
        have hst := hid (hts.out k)
        have hfk := hid (hf.out k hlt)
        rw [hfk.out] at c0
        have hlen := hid (show (ints ((R k).map Int.ofNat)).length = (R k).length from by rw [ints_length, List.length_map])
        have hlm := hll.out k
        generalize G k = gk at *
        replace rS := hid rS
        go_wp2_with (
            ((with_reducible refine gate (N := 30) rfl ?_); refine St.app 29 2 (.int .i64 0) 8 Try.underlying29 info_i64 rfl (by omega) rfl _ _ rfl _ _ rfl rS.out _ rfl rfl (R k).length hlen.out (by omega) ?_; intro gn cn w5 rS'; replace rS := hid rS'; clear rS'))
        go_roundw
        case rel => exact ⟨k + 1, by omega, by go_num, by rw [hst.out]; simpa [ints, hlm] using rS.out⟩
        case measure => simp [intOf]; omega
      · obtain rfl : k = s := by omega
        have dk : decide ((k : Int) < (k : Int)) = false := decide_eq_false (by omega)
        replace rS := hid rS
        go_wp2_with (first
          | ((with_reducible refine gate (N := 31) rfl ?_); refine load_mach rfl _ rfl b5 rfl M rS.out.m2 ?_)
          | ((with_reducible refine gateOp (op := .store 27 (.tmp 2) (.tmp 31)) rfl ?_); refine store_mach rfl _ _ rfl (w.heap.size + 1) rfl M rfl 27 _ rS.out.m3 ?_; intro W3 p2 ho hsz hbl; replace rS := hid (rS.out.f3.setM (Nat.le_succ _) p2 ho hbl); clear p2 ho hsz hbl))
        exact ret_mvv rfl rfl rfl rfl rS.out.m0 rfl ⟨_, rfl, rS.out.o1, rS.out.bel⟩
  · rw [minAns_bad hm]
    have him := hid (fun W => l01Is_any W m hk false (iff_of_false (by decide) hm))
    replace hk := hid hk
    clear hm
    generalize hzs : mcells ⟨0, 0, fun _ => 0, fun _ => 0⟩ = zs at *
    replace hzs := hid hzs
    go_enter Try.func11, Try.ntmps11
    go_wp2_with (first
      | ((with_reducible refine gate (N := 9) rfl ?_); refine load_mach rfl _ rfl w.heap.size rfl m hS.out.m1 ?_)
      | (go_at_call 80; (with_reducible refine (him.out _).mono ?_); rintro e w1 ⟨rfl, hb⟩; replace hS := hid (hS.out.call hb); clear hb)
      | ((with_reducible refine gate (N := 12) rfl ?_); refine build_zero rfl rfl ?_)
      | ((with_reducible refine gateOp (op := .store 27 (.tmp 2) (.tmp 12)) rfl ?_); refine store_mach rfl _ _ rfl (w.heap.size + 1) rfl ⟨0, 0, fun _ => 0, fun _ => 0⟩ rfl 27 _ hS.out.m0 ?_; intro W3 p2 ho hsz hbl; replace hS := hid (hS.out.setM (Nat.le_succ _) p2 ho hbl); clear p2 ho hsz hbl))
    exact ret_mvv rfl rfl rfl rfl hS.out.m0 rfl ⟨_, by rw [hzs.out]; rfl, Own.nil _ _ _, hS.out.bel⟩
end Go.Proofs.Ytbmkkaecfogmoaa
