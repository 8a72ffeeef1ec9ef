/- The machine of a state of a machine: the program's side. -/
import Derived.Test.YtapbcfnlcnboeaaFrom2
namespace Go.Proofs.Ytapbcfnlcnboeaa
open Go.RowKit
set_option linter.unusedVariables false
set_option linter.unusedSimpArgs false

/-- A machine stored, at a step of a region that draws. -/
theorem step_store_mach {ops : Array Oper} {o : Oper} {a : Act} {w : World} {K : Act → World → Prop} {Q : Exit → Act → World → Prop} {E : Prop} (hgd : o.guard = none) (x y : Operand) (ho : o.op = .store 31 x y)
    (b : Nat) (hx : a.eval x = .pointer (some ⟨b, 0, none⟩)) (m : Mach) (hy : a.eval y = .agg (mcells m)) (t : Nat) (f : Nat → Value) (hrow : w.rowIs b t 98 f)
    (h : ∀ w', MB w' t b m → (∀ k, k ≠ b → w'.heap[k]? = w.heap[k]?) → (∀ (B : Nat) (a : World), B ≤ b → Below B a w → Below B a w') → K (a.put o.dst undef) w') :
    if Region.wanted o (yielded ops a.tmps) = true then Oper.wp Try.prog o a w K Q else E := by
  have hw : Region.wanted o (yielded ops a.tmps) = true := by simp [Region.wanted, hgd]
  rw [if_pos hw]
  refine wp_store_mid 31 x y ho b 0 (mcells m) hx hy (by rw [size_mcells]; exact rowIs_there hrow _ _ (by omega)) (by rw [size_mcells]; exact sz_mach) (one_mach m) ?_
  exact h _ (World.rowIs.congr (rowIs_setCells _ _ _ _ hrow) fun i hi => put_all _ _ _ _ hi) (fun k hk => block_setCells hk _ _ _) (fun B a hB hb => below_setCells hB _ _ hb)
theorem ot256 {m : Mach} {l s : Nat} (g : Good m l s) : ∀ q x, q < (tabOf m l s).n → x < (tabOf m l s).L → (tabOf m l s).ot q x < 256 := fun q x hq hx => by
  have h1 : (tabOf m l s).ot q x < l := g.ot q x hq hx
  have h2 := g.l3
  omega

set_option maxHeartbeats 4000000 in
set_option maxRecDepth 100000 in
theorem machineOf_any (b : Nat) (w : World) (m : Mach) (hm : MB w 31 b m) (l s : Nat) (g : Good m l s) (q : Nat) (hq : q < s) :
    Calls Try.prog 71 #[.pointer (some ⟨b, 0, none⟩), .int .i64 q] w fun e w' => e = .returned (.agg (mcells (fromM (tabOf m l s) q))) ∧ Below w.heap.size w w' := by
  have hz := zero_mach
  have hblt := hm.lt
  have hml := hid (fun W (hb : Below w.heap.size w W) => (show MB W 31 b m ∧ W.cell? ⟨b, 0, none⟩ = some (.int .i64 (l : Int)) from ⟨hm.below hb hblt, by have h := (hm.below hb hblt).cL; rw [g.L] at h; exact h⟩))
  have hta := hid (fun W hW => table_any b W m hW l s g)
  have hmf := hid (fun W G vN vO hW => machineFrom_any W G q vN vO (tabOf m l s) (tabOf_ok g) g.l3 (by show 0 < l; have := g.l2; omega) (by show s < 100000; have := g.s16; omega) hW (ot256 g) hq)
  have hS := hid ((St.start w).newMB ⟨0, 0, fun _ => 0, fun _ => 0⟩ 31)
  have hN := hid (fun L W (h : St w.heap.size w L W) => h.newMB ⟨0, 0, fun _ => 0, fun _ => 0⟩ 31)
  have hLe := hid (show (tabOf m l s).L = l from rfl)
  rw [hLe.out] at hmf
  clear hm g
  generalize fromC (tabOf m l s) q = fc at *
  generalize fromM (tabOf m l s) q = fm at *
  generalize tabOf m l s = T at *
  generalize mcells ⟨0, 0, fun _ => 0, fun _ => 0⟩ = zs at *
  go_enter Try.func71, Try.ntmps71
  go_upto_region 1 with (fail)
  replace hS := hid hS.out.drew
  have hT0 : (w.alloc (.cells zs 31)).drew.cell? ⟨b, 0, none⟩ = some (.int .i64 (l : Int)) := (hml.out _ hS.out.bel).2
  refine wp_region_heldL (L := [(12, (fun w' : World => w'.cell? ⟨b, 0, none⟩ = some (.int .i64 (l : Int))))]) (by kernel_rfl) (HeldL.cons (fun _ => hT0) HeldL.nil) (fun hHeld => ?_)
  clear hT0
  generalize (w.alloc (.cells zs 31)).drew = wa at *
  refine wpAnyL_take0 (i := 0) (v := ?_) rfl (by kernel_rfl) (by kernel_rfl) (by kernel_rfl) (by rfl) (fun _ _ _ h => h) (Or.inl ⟨by rfl, ?_⟩) (by assumption) ?_
  rotate_left
  · (intro W _; go_simp; (with_reducible rfl))
  intro hHeld'
  clear hHeld; have hHeld := hHeld'; clear hHeld'
  try simp only [Act.put, List.setIfInBounds_toArray, List.set_cons_zero, List.set_cons_succ]
  refine wpAnyL_take0 (i := 2) (v := ?_) rfl (by kernel_rfl) (by kernel_rfl) (by kernel_rfl) (by rfl) (fun _ _ _ h => h) (Or.inl ⟨by rfl, ?_⟩) (by assumption) ?_
  rotate_left
  · (intro W _; go_simp; (with_reducible rfl))
  intro hHeld'
  clear hHeld; have hHeld := hHeld'; clear hHeld'
  try simp only [Act.put, List.setIfInBounds_toArray, List.set_cons_zero, List.set_cons_succ]
  refine wpAnyL_take0 (i := 3) (v := ?_) rfl (by kernel_rfl) (by kernel_rfl) (by kernel_rfl) (by rfl) (fun _ _ _ h => h) (Or.inl ⟨by rfl, ?_⟩) (by assumption) ?_
  rotate_left
  · (intro W _; go_simp; (with_reducible rfl))
  intro hHeld'
  clear hHeld; have hHeld := hHeld'; clear hHeld'
  try simp only [Act.put, List.setIfInBounds_toArray, List.set_cons_zero, List.set_cons_succ]
  refine wpAnyL_take0 (i := 4) (v := ?_) rfl (by kernel_rfl) (by kernel_rfl) (by kernel_rfl) (by rfl) (fun _ _ _ h => h) (Or.inl ⟨by rfl, ?_⟩) (by assumption) ?_
  rotate_left
  · (intro W _; go_simp; (with_reducible rfl))
  intro hHeld'
  clear hHeld; have hHeld := hHeld'; clear hHeld'
  try simp only [Act.put, List.setIfInBounds_toArray, List.set_cons_zero, List.set_cons_succ]
  refine wpAnyL_takeP (i := 5) 12 [] (v := ?_) (fun w' : World => w'.cell? ⟨b, 0, none⟩ = some (.int .i64 (l : Int))) rfl (by kernel_rfl) (by kernel_rfl) (by kernel_rfl) (by rfl) (by kernel_rfl) (by simp) (fun _ _ _ h => h) (Or.inl ⟨by rfl, ?_⟩) (by assumption) ?_
  rotate_left
  · (intro W hW; go_simp; (with_reducible rfl))
  intro hHeld'
  clear hHeld; have hHeld := hHeld'; clear hHeld'
  try simp only [Act.put, List.setIfInBounds_toArray, List.set_cons_zero, List.set_cons_succ]
  refine wpAnyL_take0 (i := 6) (v := ?_) rfl (by kernel_rfl) (by kernel_rfl) (by kernel_rfl) (by rfl) (fun _ _ _ h => h) (Or.inl ⟨by rfl, ?_⟩) (by assumption) ?_
  rotate_left
  · (intro W _; go_simp; (with_reducible rfl))
  intro hHeld'
  clear hHeld; have hHeld := hHeld'; clear hHeld'
  try simp only [Act.put, List.setIfInBounds_toArray, List.set_cons_zero, List.set_cons_succ]
  refine wpAnyL_ready (rs := [1, 11]) (by kernel_rfl) (by simp) ?_
  refine AllReadyL.cons rfl (fun K hK => ?_) ?_
  · skip
    go_simp
    go_at_call 99
    (with_reducible refine (hta.out _ (hml.out _ hS.out.bel).1).mono ?_)
    rintro e w1 ⟨vN, vO, rfl, hTB, hb⟩
    replace hS := hid (hS.out.call hb)
    replace hTB := hid hTB
    clear hb
    generalize wa.heap.size = G at *
    go_simp
    refine hK.out _ _ (HeldL.cons (fun _ => (hml.out _ hS.out.bel).2) HeldL.nil) (fun hHeld' => ?_)
    clear hK K hHeld; have hHeld := hHeld'; clear hHeld'
    try simp only [Act.put, List.setIfInBounds_toArray, List.set_cons_zero, List.set_cons_succ]
    refine wpAnyL_ready (rs := [7, 11]) (by kernel_rfl) (by simp) ?_
    refine AllReadyL.cons rfl (fun K hK => ?_) ?_
    · skip
      go_simp
      go_at_call 100
      (with_reducible refine (hmf.out _ _ _ _ hTB.out).mono ?_)
      rintro e w2 ⟨rfl, hb⟩
      replace hS := hid (hS.out.call hb)
      clear hb hTB
      go_simp
      refine hK.out _ _ (HeldL.cons (fun _ => (hml.out _ hS.out.bel).2) HeldL.nil) (fun hHeld' => ?_)
      clear hK K hHeld; have hHeld := hHeld'; clear hHeld'
      try simp only [Act.put, List.setIfInBounds_toArray, List.set_cons_zero, List.set_cons_succ]
      refine wpAnyL_take0 (i := 8) (v := ?_) rfl (by kernel_rfl) (by kernel_rfl) (by kernel_rfl) (by rfl) (fun _ _ _ h => h) (Or.inl ⟨by rfl, ?_⟩) (by assumption) ?_
      rotate_left
      · (intro W _; go_simp; (with_reducible rfl))
      intro hHeld'
      clear hHeld; have hHeld := hHeld'; clear hHeld'
      try simp only [Act.put, List.setIfInBounds_toArray, List.set_cons_zero, List.set_cons_succ]
      refine wpAnyL_take0 (i := 9) (v := ?_) rfl (by kernel_rfl) (by kernel_rfl) (by kernel_rfl) (by rfl) (fun _ _ _ h => h) (Or.inl ⟨by rfl, ?_⟩) (by assumption) ?_
      rotate_left
      · (intro W _; go_simp; (with_reducible rfl))
      intro hHeld'
      clear hHeld; have hHeld := hHeld'; clear hHeld'
      try simp only [Act.put, List.setIfInBounds_toArray, List.set_cons_zero, List.set_cons_succ]
      refine wpAnyL_take0 (i := 10) (v := ?_) rfl (by kernel_rfl) (by kernel_rfl) (by kernel_rfl) (by rfl) (fun _ _ _ h => h) (Or.inl ⟨by rfl, ?_⟩) (by assumption) ?_
      rotate_left
      · (intro W _; go_simp; (with_reducible rfl))
      intro hHeld'
      clear hHeld; have hHeld := hHeld'; clear hHeld'
      try simp only [Act.put, List.setIfInBounds_toArray, List.set_cons_zero, List.set_cons_succ]
      refine wpAnyL_ready (rs := [11]) (by kernel_rfl) (by simp) ?_
      refine AllReadyL.cons rfl (fun K hK => ?_) AllReadyL.nil
      have hge := hid (show ¬ w2.heap.size < w.heap.size from Nat.not_lt.2 hS.out.le)
      go_simp
      replace hS := hid (hN.out _ _ hS.out)
      generalize w2.heap.size = b5 at *
      generalize w2.alloc (.cells zs 31) = w3 at *
      refine hK.out _ _ (HeldL.cons (fun _ => (hml.out _ hS.out.bel).2) HeldL.nil) (fun hHeld' => ?_)
      clear hK K hHeld; have hHeld := hHeld'; clear hHeld'
      try simp only [Act.put, List.setIfInBounds_toArray, List.set_cons_zero, List.set_cons_succ]
      refine wpAnyL_ready (rs := [12]) (by kernel_rfl) (by simp) ?_
      refine AllReadyL.cons rfl (fun K hK => ?_) AllReadyL.nil
      refine step_store_mach rfl _ _ rfl _ rfl fm rfl _ _ hS.out.m0 ?_
      intro w9 p2 ho hbl
      have hle5 := hid (hS.out.le)
      have hb5 := hid (Nat.le_of_not_lt (fun h => absurd h (hge.out)))
      replace hS := hid (hS.out.setM hb5.out p2 ho hbl); clear p2 ho hbl
      refine hK.out _ _ (HeldL.cons (fun h => absurd h (by decide +kernel)) HeldL.nil) (fun hHeld' => ?_)
      clear hK K hHeld; have hHeld := hHeld'; clear hHeld'
      try simp only [Act.put, List.setIfInBounds_toArray, List.set_cons_zero, List.set_cons_succ]
      refine wpAnyL_take0 (i := 13) (v := ?_) rfl (by kernel_rfl) (by kernel_rfl) (by kernel_rfl) (by rfl) (fun _ _ _ h => h) (Or.inl ⟨by rfl, ?_⟩) (by assumption) ?_
      rotate_left
      · (intro W _; go_simp; (with_reducible rfl))
      intro hHeld'
      clear hHeld; have hHeld := hHeld'; clear hHeld'
      try simp only [Act.put, List.setIfInBounds_toArray, List.set_cons_zero, List.set_cons_succ]
      refine wpAnyL_done (by kernel_rfl) ?_ _
      go_wp2_with (first
        | ((with_reducible refine gate (N := 18) rfl ?_); refine load_mach rfl _ rfl _ rfl fm hS.out.m0 ?_)
        | ((with_reducible refine gateOp (op := .store 31 (.tmp 4) (.tmp 18)) rfl ?_); refine store_mach rfl _ _ rfl w.heap.size rfl fm rfl 31 _ hS.out.m1 ?_; intro W3 p2 ho hsz hbl; have pB := hid (hbl _ _ (Nat.le_refl _) hS.out.bel); replace p2 := hid p2; clear ho hsz hbl))
      exact ret_mach rfl rfl p2.out rfl ⟨rfl, pB.out⟩
    refine AllReadyL.cons rfl (fun K hK => ?_) AllReadyL.nil
    have hge := hid (show ¬ w1.heap.size < w.heap.size from Nat.not_lt.2 hS.out.le)
    go_simp
    replace hS := hid (hN.out _ _ hS.out)
    replace hTB := hid (hTB.out.below (below_alloc (Below.refl w1.heap.size w1) (Nat.le_refl _) (.cells zs 31)))
    generalize w1.heap.size = b5 at *
    generalize w1.alloc (.cells zs 31) = w3 at *
    refine hK.out _ _ (HeldL.cons (fun _ => (hml.out _ hS.out.bel).2) HeldL.nil) (fun hHeld' => ?_)
    clear hK K hHeld; have hHeld := hHeld'; clear hHeld'
    try simp only [Act.put, List.setIfInBounds_toArray, List.set_cons_zero, List.set_cons_succ]
    refine wpAnyL_ready (rs := [7]) (by kernel_rfl) (by simp) ?_
    refine AllReadyL.cons rfl (fun K hK => ?_) AllReadyL.nil
    go_simp
    go_at_call 100
    (with_reducible refine (hmf.out _ _ _ _ hTB.out).mono ?_)
    rintro e w2 ⟨rfl, hb⟩
    replace hS := hid (hS.out.call hb)
    clear hb hTB
    go_simp
    refine hK.out _ _ (HeldL.cons (fun _ => (hml.out _ hS.out.bel).2) HeldL.nil) (fun hHeld' => ?_)
    clear hK K hHeld; have hHeld := hHeld'; clear hHeld'
    try simp only [Act.put, List.setIfInBounds_toArray, List.set_cons_zero, List.set_cons_succ]
    refine wpAnyL_take0 (i := 8) (v := ?_) rfl (by kernel_rfl) (by kernel_rfl) (by kernel_rfl) (by rfl) (fun _ _ _ h => h) (Or.inl ⟨by rfl, ?_⟩) (by assumption) ?_
    rotate_left
    · (intro W _; go_simp; (with_reducible rfl))
    intro hHeld'
    clear hHeld; have hHeld := hHeld'; clear hHeld'
    try simp only [Act.put, List.setIfInBounds_toArray, List.set_cons_zero, List.set_cons_succ]
    refine wpAnyL_take0 (i := 9) (v := ?_) rfl (by kernel_rfl) (by kernel_rfl) (by kernel_rfl) (by rfl) (fun _ _ _ h => h) (Or.inl ⟨by rfl, ?_⟩) (by assumption) ?_
    rotate_left
    · (intro W _; go_simp; (with_reducible rfl))
    intro hHeld'
    clear hHeld; have hHeld := hHeld'; clear hHeld'
    try simp only [Act.put, List.setIfInBounds_toArray, List.set_cons_zero, List.set_cons_succ]
    refine wpAnyL_take0 (i := 10) (v := ?_) rfl (by kernel_rfl) (by kernel_rfl) (by kernel_rfl) (by rfl) (fun _ _ _ h => h) (Or.inl ⟨by rfl, ?_⟩) (by assumption) ?_
    rotate_left
    · (intro W _; go_simp; (with_reducible rfl))
    intro hHeld'
    clear hHeld; have hHeld := hHeld'; clear hHeld'
    try simp only [Act.put, List.setIfInBounds_toArray, List.set_cons_zero, List.set_cons_succ]
    refine wpAnyL_ready (rs := [12]) (by kernel_rfl) (by simp) ?_
    refine AllReadyL.cons rfl (fun K hK => ?_) AllReadyL.nil
    refine step_store_mach rfl _ _ rfl _ rfl fm rfl _ _ hS.out.m0 ?_
    intro w9 p2 ho hbl
    have hle5 := hid (hS.out.le)
    have hb5 := hid (Nat.le_of_not_lt (fun h => absurd h (hge.out)))
    replace hS := hid (hS.out.setM hb5.out p2 ho hbl); clear p2 ho hbl
    refine hK.out _ _ (HeldL.cons (fun h => absurd h (by decide +kernel)) HeldL.nil) (fun hHeld' => ?_)
    clear hK K hHeld; have hHeld := hHeld'; clear hHeld'
    try simp only [Act.put, List.setIfInBounds_toArray, List.set_cons_zero, List.set_cons_succ]
    refine wpAnyL_take0 (i := 13) (v := ?_) rfl (by kernel_rfl) (by kernel_rfl) (by kernel_rfl) (by rfl) (fun _ _ _ h => h) (Or.inl ⟨by rfl, ?_⟩) (by assumption) ?_
    rotate_left
    · (intro W _; go_simp; (with_reducible rfl))
    intro hHeld'
    clear hHeld; have hHeld := hHeld'; clear hHeld'
    try simp only [Act.put, List.setIfInBounds_toArray, List.set_cons_zero, List.set_cons_succ]
    refine wpAnyL_done (by kernel_rfl) ?_ _
    go_wp2_with (first
      | ((with_reducible refine gate (N := 18) rfl ?_); refine load_mach rfl _ rfl _ rfl fm hS.out.m0 ?_)
      | ((with_reducible refine gateOp (op := .store 31 (.tmp 4) (.tmp 18)) rfl ?_); refine store_mach rfl _ _ rfl w.heap.size rfl fm rfl 31 _ hS.out.m1 ?_; intro W3 p2 ho hsz hbl; have pB := hid (hbl _ _ (Nat.le_refl _) hS.out.bel); replace p2 := hid p2; clear ho hsz hbl))
    exact ret_mach rfl rfl p2.out rfl ⟨rfl, pB.out⟩
  refine AllReadyL.cons rfl (fun K hK => ?_) AllReadyL.nil
  have hge := hid (show ¬ wa.heap.size < w.heap.size from Nat.not_lt.2 hS.out.le)
  go_simp
  replace hS := hid (hN.out _ _ hS.out)
  generalize wa.heap.size = b5 at *
  generalize wa.alloc (.cells zs 31) = wb at *
  refine hK.out _ _ (HeldL.cons (fun _ => (hml.out _ hS.out.bel).2) HeldL.nil) (fun hHeld' => ?_)
  clear hK K hHeld; have hHeld := hHeld'; clear hHeld'
  try simp only [Act.put, List.setIfInBounds_toArray, List.set_cons_zero, List.set_cons_succ]
  refine wpAnyL_ready (rs := [1]) (by kernel_rfl) (by simp) ?_
  refine AllReadyL.cons rfl (fun K hK => ?_) AllReadyL.nil
  go_simp
  go_at_call 99
  (with_reducible refine (hta.out _ (hml.out _ hS.out.bel).1).mono ?_)
  rintro e w1 ⟨vN, vO, rfl, hTB, hb⟩
  replace hS := hid (hS.out.call hb)
  replace hTB := hid hTB
  clear hb
  generalize wb.heap.size = G at *
  go_simp
  refine hK.out _ _ (HeldL.cons (fun _ => (hml.out _ hS.out.bel).2) HeldL.nil) (fun hHeld' => ?_)
  clear hK K hHeld; have hHeld := hHeld'; clear hHeld'
  try simp only [Act.put, List.setIfInBounds_toArray, List.set_cons_zero, List.set_cons_succ]
  refine wpAnyL_ready (rs := [7]) (by kernel_rfl) (by simp) ?_
  refine AllReadyL.cons rfl (fun K hK => ?_) AllReadyL.nil
  go_simp
  go_at_call 100
  (with_reducible refine (hmf.out _ _ _ _ hTB.out).mono ?_)
  rintro e w2 ⟨rfl, hb⟩
  replace hS := hid (hS.out.call hb)
  clear hb hTB
  go_simp
  refine hK.out _ _ (HeldL.cons (fun _ => (hml.out _ hS.out.bel).2) HeldL.nil) (fun hHeld' => ?_)
  clear hK K hHeld; have hHeld := hHeld'; clear hHeld'
  try simp only [Act.put, List.setIfInBounds_toArray, List.set_cons_zero, List.set_cons_succ]
  refine wpAnyL_take0 (i := 8) (v := ?_) rfl (by kernel_rfl) (by kernel_rfl) (by kernel_rfl) (by rfl) (fun _ _ _ h => h) (Or.inl ⟨by rfl, ?_⟩) (by assumption) ?_
  rotate_left
  · (intro W _; go_simp; (with_reducible rfl))
  intro hHeld'
  clear hHeld; have hHeld := hHeld'; clear hHeld'
  try simp only [Act.put, List.setIfInBounds_toArray, List.set_cons_zero, List.set_cons_succ]
  refine wpAnyL_take0 (i := 9) (v := ?_) rfl (by kernel_rfl) (by kernel_rfl) (by kernel_rfl) (by rfl) (fun _ _ _ h => h) (Or.inl ⟨by rfl, ?_⟩) (by assumption) ?_
  rotate_left
  · (intro W _; go_simp; (with_reducible rfl))
  intro hHeld'
  clear hHeld; have hHeld := hHeld'; clear hHeld'
  try simp only [Act.put, List.setIfInBounds_toArray, List.set_cons_zero, List.set_cons_succ]
  refine wpAnyL_take0 (i := 10) (v := ?_) rfl (by kernel_rfl) (by kernel_rfl) (by kernel_rfl) (by rfl) (fun _ _ _ h => h) (Or.inl ⟨by rfl, ?_⟩) (by assumption) ?_
  rotate_left
  · (intro W _; go_simp; (with_reducible rfl))
  intro hHeld'
  clear hHeld; have hHeld := hHeld'; clear hHeld'
  try simp only [Act.put, List.setIfInBounds_toArray, List.set_cons_zero, List.set_cons_succ]
  refine wpAnyL_ready (rs := [12]) (by kernel_rfl) (by simp) ?_
  refine AllReadyL.cons rfl (fun K hK => ?_) AllReadyL.nil
  refine step_store_mach rfl _ _ rfl _ rfl fm rfl _ _ hS.out.m0 ?_
  intro w9 p2 ho hbl
  have hle5 := hid (hS.out.le)
  have hb5 := hid (Nat.le_of_not_lt (fun h => absurd h (hge.out)))
  replace hS := hid (hS.out.setM hb5.out p2 ho hbl); clear p2 ho hbl
  refine hK.out _ _ (HeldL.cons (fun h => absurd h (by decide +kernel)) HeldL.nil) (fun hHeld' => ?_)
  clear hK K hHeld; have hHeld := hHeld'; clear hHeld'
  try simp only [Act.put, List.setIfInBounds_toArray, List.set_cons_zero, List.set_cons_succ]
  refine wpAnyL_take0 (i := 13) (v := ?_) rfl (by kernel_rfl) (by kernel_rfl) (by kernel_rfl) (by rfl) (fun _ _ _ h => h) (Or.inl ⟨by rfl, ?_⟩) (by assumption) ?_
  rotate_left
  · (intro W _; go_simp; (with_reducible rfl))
  intro hHeld'
  clear hHeld; have hHeld := hHeld'; clear hHeld'
  try simp only [Act.put, List.setIfInBounds_toArray, List.set_cons_zero, List.set_cons_succ]
  refine wpAnyL_done (by kernel_rfl) ?_ _
  go_wp2_with (first
    | ((with_reducible refine gate (N := 18) rfl ?_); refine load_mach rfl _ rfl _ rfl fm hS.out.m0 ?_)
    | ((with_reducible refine gateOp (op := .store 31 (.tmp 4) (.tmp 18)) rfl ?_); refine store_mach rfl _ _ rfl w.heap.size rfl fm rfl 31 _ hS.out.m1 ?_; intro W3 p2 ho hsz hbl; have pB := hid (hbl _ _ (Nat.le_refl _) hS.out.bel); replace p2 := hid p2; clear ho hsz hbl))
  exact ret_mach rfl rfl p2.out rfl ⟨rfl, pB.out⟩
end Go.Proofs.Ytapbcfnlcnboeaa