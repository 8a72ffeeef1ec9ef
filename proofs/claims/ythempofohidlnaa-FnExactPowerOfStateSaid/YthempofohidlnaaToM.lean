/- The statements' own copies of machines: toByteA3, toByteA3A16, toMachine hand back what they got. -/
import Derived.Test.YthempofohidlnaaCells
namespace Go.Proofs.Ythempofohidlnaa
open Go.RowKit
set_option linter.unusedVariables false
set_option linter.unusedSimpArgs false

theorem sz_b3 : (Try.prog.info? 29).map (·.size) = some 3 := by kernel_rfl
theorem sz_b48 : (Try.prog.info? 30).map (·.size) = some 48 := by kernel_rfl
theorem sz_mach : (Try.prog.info? 34).map (·.size) = some 98 := by kernel_rfl
theorem zero_b48 (w : World) : (zeroValue 30).run Try.prog w = .ok (.agg (rowL 48 (byt fun _ => 0)).toArray) w := by kernel_rfl
theorem zero_mach (w : World) : (zeroValue 34).run Try.prog w = .ok (.agg (mcells ⟨0, 0, fun _ => 0, fun _ => 0⟩)) w := by kernel_rfl

/-- Three bytes as a value: the walk sees their list. -/
theorem row3 (g : Nat → Nat) : (rowL 3 (byt g)).toArray = #[.int .u8 (g 0 : Nat), .int .u8 (g 1 : Nat), .int .u8 (g 2 : Nat)] := rfl

set_option maxHeartbeats 1000000 in
theorem toByteA3_any (g : Nat → Nat) (hg : ∀ i, g i < 256) (w : World) :
    Calls Try.prog 112 #[.agg (rowL 3 (byt g)).toArray] w fun e w' => e = .returned (.agg (rowL 3 (byt g)).toArray) ∧ Below w.heap.size w w' := by
  have h1 := hid (rowIs_new w 3 29 (byt g))
  generalize hcs : (rowL 3 (byt g)).toArray = cs at *
  replace hcs := hid hcs
  go_enter Try.func112, Try.ntmps112
  go_wp2
  have h0 : ∀ w' : World, (w'.alloc (.cells #[.int .u8 0, .int .u8 0, .int .u8 0] 29)).rowIs w'.heap.size 29 3 (byt fun _ => 0) := fun w' => rowIs_new w' 3 29 (byt fun _ => 0)
  have h2 := hid (h0 (w.alloc (.cells cs 29)))
  have h3 := hid (h0 ((w.alloc (.cells cs 29)).alloc (.cells #[.int .u8 0, .int .u8 0, .int .u8 0] 29)))
  clear h0
  go_loopw [4] (fun i wr => ∃ k : Nat, k ≤ 3 ∧ i = .int .i64 k ∧ wr.rowIs w.heap.size 29 3 (byt g) ∧ wr.rowIs (w.heap.size + 1) 29 3 (byt fun _ => 0) ∧ wr.rowIs (w.heap.size + 1 + 1) 29 3 (byt fun j => if j < k then g j else 0) ∧ Below w.heap.size w wr) (fun i _ => 3 - (intOf i).toNat)
  case atStart =>
    refine ⟨0, by omega, rfl, (h1.out.alloc _).alloc _, ?_, ?_, ?_⟩
    · have := h2.out.alloc (.cells #[.int .u8 0, .int .u8 0, .int .u8 0] 29); simpa using this
    · have := h3.out; simpa using this
    · exact below_alloc (below_alloc (below_alloc (Below.refl _ _) (Nat.le_refl _) _) (Nat.le_refl _) _) (Nat.le_refl _) _
  case round =>
    obtain ⟨k, hk, rfl, r1, r2, r3, hb⟩ := hrel
    clear h1 h2 h3
    replace r1 := hid r1; replace r2 := hid r2; replace r3 := hid r3; replace hb := hid hb
    by_cases hlt : k < 3
    · have c1 : wr.cell? ⟨w.heap.size, k, none⟩ = some (.int .u8 (g k : Nat)) := r1.out.cell hlt
      obtain ⟨u, c3⟩ : ∃ u, wr.cell? ⟨w.heap.size + 1 + 1, k, none⟩ = some u := ⟨_, r3.out.cell hlt⟩
      have f3 : wr.frozen? ⟨w.heap.size + 1 + 1, k, none⟩ = false := r3.out.frozen k
      have hgk := hg k
      go_wp2
      go_roundw
      case rel =>
        refine ⟨k + 1, by omega, by go_num, r1.out.setOther (by simp; omega) _, r2.out.setOther (by simp) _, ?_, hb.out.setCell (by simp; omega) _⟩
        refine World.rowIs.congr (World.rowIs.set (f := byt fun j => if j < k then g j else 0) r3.out k _) (fun i hi => ?_)
        unfold byt
        dsimp only
        by_cases e : i = k
        · subst e; rw [if_pos rfl, if_pos (by omega)]
        · rw [if_neg e]; by_cases e2 : i < k
          · rw [if_pos e2, if_pos (by omega)]
          · rw [if_neg e2, if_neg (by omega)]
      case measure => simp [intOf]; omega
    · obtain rfl : k = 3 := by omega
      have r3' := hid (World.rowIs.congr (g := byt g) r3.out (fun i hi => by unfold byt; dsimp only; rw [if_pos hi]))
      clear r3
      have rg := hid (rowIs_range r3'.out 0 3 (by omega))
      have th := hid (rowIs_there r2.out 0 3 (by omega))
      go_wp2_with (first
        | ((with_reducible refine gate (N := 14) rfl ?_); refine wpList_load_mid rfl 29 _ rfl (w.heap.size + 1 + 1) 0 rfl _ _ rg.out Try.underlying29 rfl (by rw [rowL_length]; exact sz_b3) ?_)
        | ((with_reducible refine gateOp (op := .store 29 (.tmp 2) (.tmp 14)) rfl ?_); refine wpList_store_mid rfl 29 _ _ rfl (w.heap.size + 1) 0 _ rfl rfl (by rw [rowL_size]; exact th.out) (by rw [rowL_size]; exact sz_b3) (all_oneCell_toArray fun v hv => by unfold rowL at hv; obtain ⟨i, _, rfl⟩ := List.mem_map.1 hv; rfl) ?_))
      refine ret_row (ty := 29) (p := 2) rfl (g := w.heap.size + 1) (t := 29) (n := 3) rfl (World.rowIs.congr (g := byt g) (rowIs_setCells _ _ _ _ r2.out) (fun i hi => ?_)) Try.underlying29 rfl sz_b3 rfl ⟨by rw [← hcs.out], below_setCells (by omega) _ _ hb.out⟩
      unfold put
      rw [if_pos (by simp [rowL_length]; omega)]
      have := rowL_get 3 (fun i => byt g (0 + i)) i hi
      simp only [List.getD_eq_getElem?_getD]
      simp [rowL, hi]

theorem byt_shift (g : Nat → Nat) (o : Nat) : (fun j => byt g (o + j)) = byt (fun j => g (o + j)) := rfl
theorem rowL_byt_all (k : Nat) (g : Nat → Nat) : (rowL k (byt g)).toArray.all (·.oneCell') = true := one_byt k g

set_option maxHeartbeats 1000000 in
theorem toByteA3A16_any (g : Nat → Nat) (hg : ∀ i, g i < 256) (w : World) :
    Calls Try.prog 60 #[.agg (rowL 48 (byt g)).toArray] w fun e w' => e = .returned (.agg (rowL 48 (byt g)).toArray) ∧ Below w.heap.size w w' := by
  have h1 := hid (rowIs_new w 48 30 (byt g))
  generalize hcs : (rowL 48 (byt g)).toArray = cs at *
  replace hcs := hid hcs
  have hz := zero_b48
  have h0 : ∀ w' : World, (w'.alloc (.cells (rowL 48 (byt fun _ => 0)).toArray 30)).rowIs w'.heap.size 30 48 (byt fun _ => 0) := fun w' => rowIs_new w' 48 30 (byt fun _ => 0)
  generalize (rowL 48 (byt fun _ => 0)).toArray = zs at *
  go_enter Try.func60, Try.ntmps60
  go_wp2
  clear hz
  have h2 := hid (h0 (w.alloc (.cells cs 30)))
  have h3 := hid (h0 ((w.alloc (.cells cs 30)).alloc (.cells zs 30)))
  clear h0
  go_loopw [4] (fun i wr => ∃ k : Nat, k ≤ 16 ∧ i = .int .i64 k ∧ wr.rowIs w.heap.size 30 48 (byt g) ∧ wr.rowIs (w.heap.size + 1) 30 48 (byt fun _ => 0) ∧ wr.rowIs (w.heap.size + 1 + 1) 30 48 (byt fun j => if j < k * 3 then g j else 0) ∧ Below w.heap.size w wr) (fun i _ => 16 - (intOf i).toNat)
  case atStart =>
    refine ⟨0, by omega, rfl, (h1.out.alloc _).alloc _, ?_, ?_, ?_⟩
    · have := h2.out.alloc (.cells zs 30); simpa using this
    · have := h3.out; simpa using this
    · exact below_alloc (below_alloc (below_alloc (Below.refl _ _) (Nat.le_refl _) _) (Nat.le_refl _) _) (Nat.le_refl _) _
  case round =>
    obtain ⟨k, hk, rfl, r1, r2, r3, hb⟩ := hrel
    clear h1 h2 h3
    replace r1 := hid r1; replace r2 := hid r2; replace r3 := hid r3; replace hb := hid hb
    by_cases hlt : k < 16
    · have dk : decide ((k : Int) < 16) = true := decide_eq_true (by omega)
      have rg := hid (show wr.rangeAt w.heap.size (k * 3) (rowL 3 (byt fun j => g (k * 3 + j))) from rowIs_range r1.out (k * 3) 3 (by omega))
      have sz := hid r3.out.lt
      go_wp2_with (first
        | ((with_reducible refine gate (N := 12) rfl ?_); refine wpList_load_mid rfl 29 _ rfl w.heap.size (k * 3) rfl _ _ rg.out Try.underlying29 rfl (by rw [rowL_length]; exact sz_b3) ?_)
        | (go_at_call 112; (with_reducible refine (toByteA3_any (fun j => g (k * 3 + j)) (fun i => hg _) _).mono ?_); rintro e w' ⟨rfl, hb2⟩; replace hb2 := hid hb2)
        | ((with_reducible refine gateOp (op := .store 29 (.tmp 14) (.tmp 13)) rfl ?_); refine wpList_store_mid rfl 29 _ _ rfl (w.heap.size + 1 + 1) (k * 3) _ rfl rfl (by rw [rowL_size]; exact rowIs_there (rowIs_below r3.out hb2.out sz.out) _ _ (by omega)) (by rw [rowL_size]; exact sz_b3) (one_byt _ _) ?_))
      go_roundw
      case rel =>
        have q1 := rowIs_below r1.out hb2.out r1.out.lt
        have q2 := rowIs_below r2.out hb2.out r2.out.lt
        have q3 := rowIs_below r3.out hb2.out r3.out.lt
        refine ⟨k + 1, by omega, by go_num, rowIs_setCells_other q1 (by omega) _ _, rowIs_setCells_other q2 (by omega) _ _, ?_, below_setCells (by omega) _ _ (hb.out.trans (hb2.out.mono hb.out.size))⟩
        refine World.rowIs.congr (rowIs_setCells _ _ _ _ q3) (fun i hi => ?_)
        unfold put byt
        dsimp only
        simp only [rowL_length]
        by_cases e : k * 3 ≤ i ∧ i < k * 3 + 3
        · rw [if_pos e, if_pos (by omega)]
          have := rowL_get 3 (byt fun j => g (k * 3 + j)) (i - k * 3) (by omega)
          rw [List.getD_eq_getElem?_getD]
          unfold byt at this
          rw [this]
          simp only [Option.getD_some]
          rw [show k * 3 + (i - k * 3) = i by omega]
        · rw [if_neg e]
          by_cases e2 : i < k * 3
          · rw [if_pos e2, if_pos (by omega)]
          · rw [if_neg e2, if_neg (by omega)]
      case measure => simp [intOf]; omega
    · obtain rfl : k = 16 := by omega
      have r3' := hid (World.rowIs.congr (g := byt g) r3.out (fun i hi => by unfold byt; dsimp only; rw [if_pos (by omega)]))
      clear r3
      have rg := hid (rowIs_range r3'.out 0 48 (by omega))
      have th := hid (rowIs_there r2.out 0 48 (by omega))
      go_wp2_with (first
        | ((with_reducible refine gate (N := 15) rfl ?_); refine wpList_load_mid rfl 30 _ rfl (w.heap.size + 1 + 1) 0 rfl _ _ rg.out Try.underlying30 rfl (by rw [rowL_length]; exact sz_b48) ?_)
        | ((with_reducible refine gateOp (op := .store 30 (.tmp 2) (.tmp 15)) rfl ?_); refine wpList_store_mid rfl 30 _ _ rfl (w.heap.size + 1) 0 _ rfl rfl (by rw [rowL_size]; exact th.out) (by rw [rowL_size]; exact sz_b48) (all_oneCell_toArray fun v hv => by unfold rowL at hv; obtain ⟨i, _, rfl⟩ := List.mem_map.1 hv; rfl) ?_))
      refine ret_row (ty := 30) (p := 2) rfl (g := w.heap.size + 1) (t := 30) (n := 48) rfl (World.rowIs.congr (g := byt g) (rowIs_setCells _ _ _ _ r2.out) (fun i hi => ?_)) Try.underlying30 rfl sz_b48 rfl ⟨by rw [← hcs.out], below_setCells (by omega) _ _ hb.out⟩
      unfold put
      rw [if_pos (by simp [rowL_length]; omega)]
      simp only [List.getD_eq_getElem?_getD]
      simp [rowL, hi]


theorem mf_nx_row (m : Mach) (i : Nat) (h : i < 48) : mf m (2 + i) = byt m.nx i := by
  unfold mf byt
  rw [if_neg (by omega), if_neg (by omega), if_pos (by omega), show 2 + i - 2 = i by omega]
theorem mf_ot_row (m : Mach) (i : Nat) : mf m (50 + i) = byt m.ot i := by
  unfold mf byt
  rw [if_neg (by omega), if_neg (by omega), if_neg (by omega), show 50 + i - 50 = i by omega]

theorem set_LS (m : Mach) : ((mcells ⟨0, 0, fun _ => 0, fun _ => 0⟩).setIfInBounds 0 (.int .i64 m.L)).setIfInBounds 1 (.int .i64 m.S) = mcells ⟨m.L, m.S, fun _ => 0, fun _ => 0⟩ := by
  apply Array.ext (by simp [size_mcells])
  intro i h1 h2
  have hi : i < 98 := by rw [size_mcells] at h2; exact h2
  have e2 := mcells_get ⟨m.L, m.S, fun _ => 0, fun _ => 0⟩ i hi
  have e0 := mcells_get ⟨0, 0, fun _ => 0, fun _ => 0⟩ i hi
  have : (((mcells ⟨0, 0, fun _ => 0, fun _ => 0⟩).setIfInBounds 0 (.int .i64 m.L)).setIfInBounds 1 (.int .i64 m.S))[i]? = (mcells ⟨m.L, m.S, fun _ => 0, fun _ => 0⟩)[i]? := by
    rw [e2, Array.getElem?_setIfInBounds, Array.getElem?_setIfInBounds, e0]
    simp only [Array.size_setIfInBounds, size_mcells]
    unfold mf
    by_cases a0 : i = 0
    · subst a0; rfl
    · by_cases a1 : i = 1
      · subst a1; rfl
      · rw [if_neg (fun h => a1 h.symm), if_neg (fun h => a0 h.symm), if_neg a0, if_neg a1, if_neg a0, if_neg a1]
  rw [Array.getElem?_eq_getElem h1, Array.getElem?_eq_getElem h2] at this
  exact Option.some.inj this

theorem getD_rowL (k : Nat) (g : Nat → Value) (i : Nat) (h : i < k) : (rowL k g).getD i undef = g i := by
  rw [List.getD_eq_getElem?_getD, rowL_get k g i h]; rfl
theorem put_mach (m : Mach) (i : Nat) (hi : i < 98) : put (put (mf ⟨m.L, m.S, fun _ => 0, fun _ => 0⟩) 2 (rowL 48 (byt m.nx))) 50 (rowL 48 (byt m.ot)) i = mf m i := by
  unfold put
  simp only [rowL_length]
  by_cases a : 50 ≤ i ∧ i < 50 + 48
  · rw [if_pos a, getD_rowL _ _ _ (by omega)]
    have := mf_ot_row m (i - 50)
    rw [show 50 + (i - 50) = i by omega] at this
    exact this.symm
  · rw [if_neg a]
    by_cases b : 2 ≤ i ∧ i < 2 + 48
    · rw [if_pos b, getD_rowL _ _ _ (by omega)]
      have := mf_nx_row m (i - 2) (by omega)
      rw [show 2 + (i - 2) = i by omega] at this
      exact this.symm
    · rw [if_neg b]
      have : i = 0 ∨ i = 1 := by omega
      rcases this with rfl | rfl <;> rfl
theorem put_all (f g : Nat → Value) (k i : Nat) (h : i < k) : put f 0 (rowL k g) i = g i := by
  unfold put
  rw [if_pos (by rw [rowL_length]; omega), getD_rowL _ _ _ (by omega)]; rfl

set_option maxHeartbeats 2000000 in
theorem toMachine_any (m : Mach) (hk : m.Ok) (w : World) :
    Calls Try.prog 22 #[.agg (mcells m)] w fun e w' => e = .returned (.agg (mcells m)) ∧ Below w.heap.size w w' := by
  have cL := mcells_L m
  have cS := mcells_S m
  have hz := zero_mach
  have zc0 := mcells_L ⟨0, 0, fun _ => 0, fun _ => 0⟩
  have zc1 := mcells_S ⟨0, 0, fun _ => 0, fun _ => 0⟩
  have h1 := hid (MB.new w m 32)
  have h2 := hid (MB.new (w.alloc (.cells (mcells m) 32)) ⟨0, 0, fun _ => 0, fun _ => 0⟩ 34)
  have h3 := hid (MB.new ((w.alloc (.cells (mcells m) 32)).alloc (.cells (mcells ⟨0, 0, fun _ => 0, fun _ => 0⟩) 34)) ⟨m.L, m.S, fun _ => 0, fun _ => 0⟩ 34)
  have hb0 := hid (below_alloc (below_alloc (below_alloc (Below.refl w.heap.size w) (Nat.le_refl _) (.cells (mcells m) 32)) (Nat.le_refl _) (.cells (mcells ⟨0, 0, fun _ => 0, fun _ => 0⟩) 34)) (Nat.le_refl _) (.cells (mcells ⟨m.L, m.S, fun _ => 0, fun _ => 0⟩) 34))
  have hset := set_LS m
  have m1 := hid ((h1.out.alloc (.cells (mcells ⟨0, 0, fun _ => 0, fun _ => 0⟩) 34)).alloc (.cells (mcells ⟨m.L, m.S, fun _ => 0, fun _ => 0⟩) 34))
  have m2 := hid (h2.out.alloc (.cells (mcells ⟨m.L, m.S, fun _ => 0, fun _ => 0⟩) 34))
  clear h1 h2
  have hk1 := hid (show ∀ i, m.nx i < 256 from fun i => (hk i).1)
  have hk2 := hid (show ∀ i, m.ot i < 256 from fun i => (hk i).2)
  clear hk
  generalize mcells ⟨m.L, m.S, fun _ => 0, fun _ => 0⟩ = ls at *
  generalize mcells ⟨0, 0, fun _ => 0, fun _ => 0⟩ = zs at *
  generalize hcs : mcells m = cs at *
  replace hcs := hid hcs
  replace hset := hid hset
  have e2 : (w.alloc (.cells cs 32)).heap.size = w.heap.size + 1 := by simp
  have e3 : ((w.alloc (.cells cs 32)).alloc (.cells zs 34)).heap.size = w.heap.size + 1 + 1 := by simp
  rw [e2] at m2
  rw [e3] at h3
  clear e2 e3
  go_enter Try.func22, Try.ntmps22
  go_wp2_with (first
    | ((with_reducible refine gate (N := 11) rfl ?_); rw [hset.out]; generalize ((w.alloc (.cells cs 32)).alloc (.cells zs 34)).alloc (.cells ls 34) = W0 at *; have rg1 := hid (show W0.rangeAt w.heap.size 2 (rowL 48 (byt m.nx)) from (rowL_congr (fun i hi => mf_nx_row m i hi)) ▸ rowIs_range m1.out 2 48 (by omega)); refine wpList_load_mid rfl 30 _ rfl w.heap.size 2 rfl _ _ rg1.out Try.underlying30 rfl (by rw [rowL_length]; exact sz_b48) ?_)
    | (go_at_call 60; (with_reducible refine (toByteA3A16_any m.nx hk1.out _).mono ?_); rintro e W1 ⟨rfl, hb1⟩; have s1 := hid h3.out.lt; have n1 := hid (m1.out.below hb1 m1.out.lt); have n2 := hid (m2.out.below hb1 m2.out.lt); have n3 := hid (rowIs_below h3.out hb1 h3.out.lt); have hb2 := hid (hb0.out.trans (hb1.mono hb0.out.size)); clear hb0 hb1 m1 m2 h3)
    | ((with_reducible refine gateOp (op := .store 30 (.tmp 13) (.tmp 12)) rfl ?_); refine wpList_store_mid rfl 30 _ _ rfl (w.heap.size + 1 + 1) 2 _ rfl rfl (by rw [rowL_size]; exact rowIs_there n3.out _ _ (by omega)) (by rw [rowL_size]; exact sz_b48) (one_byt _ _) ?_; have k1 := hid (rowIs_setCells_other n1.out (show w.heap.size ≠ w.heap.size + 1 + 1 by omega) (rowL 48 (byt m.nx)) 2); have k2 := hid (rowIs_setCells_other n2.out (show w.heap.size + 1 ≠ w.heap.size + 1 + 1 by omega) (rowL 48 (byt m.nx)) 2); have k3 := hid (rowIs_setCells (rowL 48 (byt m.nx)) 2 _ _ n3.out); have hb3 := hid (below_setCells (show w.heap.size ≤ w.heap.size + 1 + 1 by omega) (rowL 48 (byt m.nx)) 2 hb2.out); clear n1 n2 n3 hb2; generalize W1.setCells (w.heap.size + 1 + 1) 2 (rowL 48 (byt m.nx)) = W2 at *)
    | ((with_reducible refine gate (N := 15) rfl ?_); have rg1 := hid (show W2.rangeAt w.heap.size 50 (rowL 48 (byt m.ot)) from (rowL_congr (fun i _ => mf_ot_row m i)) ▸ rowIs_range k1.out 50 48 (by omega)); refine wpList_load_mid rfl 30 _ rfl w.heap.size 50 rfl _ _ rg1.out Try.underlying30 rfl (by rw [rowL_length]; exact sz_b48) ?_)
    | (go_at_call 60; (with_reducible refine (toByteA3A16_any m.ot hk2.out _).mono ?_); rintro e W3 ⟨rfl, hb1⟩; have n2 := hid (rowIs_below k2.out hb1 k2.out.lt); have n3 := hid (rowIs_below k3.out hb1 k3.out.lt); have hb4 := hid (hb3.out.trans (hb1.mono hb3.out.size)); clear hb3 hb1 k1 k2 k3)
    | ((with_reducible refine gateOp (op := .store 30 (.tmp 17) (.tmp 16)) rfl ?_); refine wpList_store_mid rfl 30 _ _ rfl (w.heap.size + 1 + 1) 50 _ rfl rfl (by rw [rowL_size]; exact rowIs_there n3.out _ _ (by omega)) (by rw [rowL_size]; exact sz_b48) (one_byt _ _) ?_; have k2 := hid (rowIs_setCells_other n2.out (show w.heap.size + 1 ≠ w.heap.size + 1 + 1 by omega) (rowL 48 (byt m.ot)) 50); have k3 := hid (rowIs_setCells (rowL 48 (byt m.ot)) 50 _ _ n3.out); have hb5 := hid (below_setCells (show w.heap.size ≤ w.heap.size + 1 + 1 by omega) (rowL 48 (byt m.ot)) 50 hb4.out); clear n2 n3 hb4; generalize W3.setCells (w.heap.size + 1 + 1) 50 (rowL 48 (byt m.ot)) = W4 at *)
    | ((with_reducible refine gate (N := 18) rfl ?_); have k4 := hid (World.rowIs.congr (g := mf m) k3.out (put_mach m)); have rg1 := hid (show W4.rangeAt (w.heap.size + 1 + 1) 0 (rowL 98 (mf m)) from (rowL_congr (g := fun i => mf m (0 + i)) (h := mf m) (fun i _ => by rw [Nat.zero_add])) ▸ rowIs_range k4.out 0 98 (by omega)); refine wpList_load_mid rfl 34 _ rfl (w.heap.size + 1 + 1) 0 rfl _ _ rg1.out Try.underlying34 rfl (by rw [rowL_length]; exact sz_mach) ?_)
    | ((with_reducible refine gateOp (op := .store 34 (.tmp 2) (.tmp 18)) rfl ?_); refine wpList_store_mid rfl 34 _ _ rfl (w.heap.size + 1) 0 _ rfl rfl (by rw [rowL_size]; exact rowIs_there k2.out _ _ (by omega)) (by rw [rowL_size]; exact sz_mach) (all_oneCell_toArray fun v hv => by unfold rowL at hv; obtain ⟨i, _, rfl⟩ := List.mem_map.1 hv; unfold mf; repeat (split <;> try rfl)) ?_))
  exact ret_row (ty := 34) (p := 2) rfl (g := w.heap.size + 1) (t := 34) (n := 98) rfl (World.rowIs.congr (g := mf m) (rowIs_setCells _ _ _ _ k2.out) (fun i hi => put_all _ _ _ _ hi)) Try.underlying34 rfl sz_mach rfl ⟨by rw [← hcs.out]; rfl, below_setCells (by omega) _ _ hb5.out⟩

theorem one_mach (m : Mach) : (mcells m).all (·.oneCell') = true := all_oneCell_toArray fun v hv => by
  obtain ⟨i, _, rfl⟩ := List.mem_map.1 hv
  unfold mf
  repeat (split <;> try rfl)
/-- A whole machine read out of its block, as the walk meets it. -/
theorem load_mach {ops : Array Oper} {rest : List Oper} {o : Oper} {a : Act} {w : World} {Q : Exit → Act → World → Prop} (hgd : o.guard = none) (x : Operand) (ho : o.op = .load 34 x)
    (b : Nat) (hx : a.eval x = .pointer (some ⟨b, 0, none⟩)) (m : Mach) (hm : MB w 34 b m) (h : wpList Try.prog ops Q rest (a.put o.dst (.agg (mcells m))) w) : wpList Try.prog ops Q (o :: rest) a w :=
  wpList_load_row hgd 34 x ho b hx 34 _ (0, 0) _ hm.heap Try.underlying34 rfl (by rw [size_mcells]; exact sz_mach) h
theorem load_lmach {ops : Array Oper} {rest : List Oper} {o : Oper} {a : Act} {w : World} {Q : Exit → Act → World → Prop} (hgd : o.guard = none) (x : Operand) (ho : o.op = .load 32 x)
    (b : Nat) (hx : a.eval x = .pointer (some ⟨b, 0, none⟩)) (m : Mach) (hm : MB w 32 b m) (h : wpList Try.prog ops Q rest (a.put o.dst (.agg (mcells m))) w) : wpList Try.prog ops Q (o :: rest) a w :=
  wpList_load_row hgd 32 x ho b hx 32 _ (0, 0) _ hm.heap Try.underlying32 rfl (by rw [size_mcells]; kernel_rfl) h

/-- A whole machine stored into a block of its size. -/
theorem store_mach {ops : Array Oper} {rest : List Oper} {o : Oper} {a : Act} {w : World} {Q : Exit → Act → World → Prop} (hgd : o.guard = none) (x y : Operand) (ho : o.op = .store 34 x y)
    (b : Nat) (hx : a.eval x = .pointer (some ⟨b, 0, none⟩)) (m : Mach) (hy : a.eval y = .agg (mcells m)) (t : Nat) (f : Nat → Value) (hrow : w.rowIs b t 98 f)
    (h : ∀ w', MB w' t b m → (∀ k, k ≠ b → w'.heap[k]? = w.heap[k]?) → w'.heap.size = w.heap.size → (∀ (B : Nat) (a : World), B ≤ b → Below B a w → Below B a w') → wpList Try.prog ops Q rest (a.put o.dst undef) w') :
    wpList Try.prog ops Q (o :: rest) a w := by
  refine wpList_store_mid hgd 34 x y ho b 0 (mcells m) hx hy (by rw [size_mcells]; exact rowIs_there hrow _ _ (by omega)) (by rw [size_mcells]; exact sz_mach) (one_mach m) ?_
  refine h _ (World.rowIs.congr (rowIs_setCells _ _ _ _ hrow) fun i hi => put_all _ _ _ _ hi) (fun k hk => block_setCells hk _ _ _) (heap_setCells _ _ _) (fun B a hB hb => below_setCells hB _ _ hb)

theorem built_mach (a b : Int) : Try.prog.built 34 [(0, .int .i64 a), (1, .int .i64 b)] = some (mcells ⟨a, b, fun _ => 0, fun _ => 0⟩) := by kernel_rfl
theorem build_mach {ops : Array Oper} {rest : List Oper} {o : Oper} {a : Act} {w : World} {Q : Exit → Act → World → Prop} (hgd : o.guard = none) (x y : Operand) (ho : o.op = .build 34 #[(0, x), (1, y)])
    (L S : Int) (hx : a.eval x = .int .i64 L) (hy : a.eval y = .int .i64 S) (h : wpList Try.prog ops Q rest (a.put o.dst (.agg (mcells ⟨L, S, fun _ => 0, fun _ => 0⟩))) w) : wpList Try.prog ops Q (o :: rest) a w := by
  have e : Try.prog.built 34 ((#[(0, x), (1, y)] : Array (Nat × Operand)).map fun (i, x) => (i, a.eval x)).toList = some (mcells ⟨L, S, fun _ => 0, fun _ => 0⟩) := by
    have : ((#[(0, x), (1, y)] : Array (Nat × Operand)).map fun (i, x) => (i, a.eval x)).toList = [(0, .int .i64 L), (1, .int .i64 S)] := by simp [hx, hy]
    rw [this]; exact built_mach L S
  refine wpList_build hgd 34 _ ho (by rw [e]; rfl) ?_
  rw [e]
  exact h

/-- A machine handed back out of its block. -/
theorem ret_mach {fn : Func} {R : Ending → World → Prop} {a : Act} {w : World} {p : Nat} (h : fn.results = #[.cell p 34]) {g t : Nat} {m : Mach}
    (hp : a.tmps.getD p undef = .pointer (some ⟨g, 0, none⟩)) (hm : MB w t g m) (hdf : a.defers = []) (hR : R (.returned (.agg (mcells m))) w) : bodyPost Try.prog fn R .ret a w :=
  ret_row (n := 98) (f := mf m) h hp hm Try.underlying34 rfl sz_mach hdf hR

/-- The same where the operation is guarded, and the guard lets it by. -/
theorem load_mach_g {ops : Array Oper} {rest : List Oper} {o : Oper} {a : Act} {w : World} {Q : Exit → Act → World → Prop} (hgd : Region.wanted o (yielded ops a.tmps) = true) (x : Operand) (ho : o.op = .load 34 x)
    (b : Nat) (hx : a.eval x = .pointer (some ⟨b, 0, none⟩)) (m : Mach) (hm : MB w 34 b m) (h : wpList Try.prog ops Q rest (a.put o.dst (.agg (mcells m))) w) : wpList Try.prog ops Q (o :: rest) a w :=
  wpList_step fun K hK => by
    rw [if_pos hgd]
    exact wp_load_row 34 x ho b hx 34 _ (0, 0) _ hm.heap Try.underlying34 rfl (by rw [size_mcells]; exact sz_mach) (hK _ _ h)
/-- The zero value. -/
def zeroM : Mach := ⟨0, 0, fun _ => 0, fun _ => 0⟩
theorem zeroM_run (w : World) : (zeroValue 34).run Try.prog w = .ok (.agg (mcells zeroM)) w := zero_mach w
theorem built_zero0 : Try.prog.built 34 [(0, .int .i64 0), (1, .int .i64 0)] = Try.prog.built 34 [] := by kernel_rfl
theorem built_zero : Try.prog.built 34 [] = some (mcells ⟨0, 0, fun _ => 0, fun _ => 0⟩) := by
  rw [← built_zero0]
  exact built_mach 0 0
theorem build_zero {ops : Array Oper} {rest : List Oper} {o : Oper} {a : Act} {w : World} {Q : Exit → Act → World → Prop} (hgd : o.guard = none) (ho : o.op = .build 34 #[])
    (h : wpList Try.prog ops Q rest (a.put o.dst (.agg (mcells zeroM))) w) : wpList Try.prog ops Q (o :: rest) a w := by
  have e : Try.prog.built 34 ((#[] : Array (Nat × Operand)).map fun (i, x) => (i, a.eval x)).toList = some (mcells ⟨0, 0, fun _ => 0, fun _ => 0⟩) := by
    have h0 : ((#[] : Array (Nat × Operand)).map fun (i, x) => (i, a.eval x)).toList = [] := by simp
    rw [h0]
    exact built_zero
  refine wpList_build hgd 34 _ ho (by rw [e]; rfl) ?_
  rw [e]
  exact h

end Go.Proofs.Ythempofohidlnaa
