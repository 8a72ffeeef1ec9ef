/- Equal machines are found equal by eqMachine; the dual machine; the two DualMachine answer alike. -/
import Derived.Test.YthempofohidlnaaInv
namespace Go.Proofs.Ythempofohidlnaa
open Go.RowKit
set_option linter.unusedVariables false
set_option linter.unusedSimpArgs false


theorem still_gate {P : Program} {ops : Array Oper} {o : Oper} {rest : List Oper} {a : Act} {w : World} {Q : Act → Prop} (N : Nat) (_ : o.dst = some N) (h : wpStill P ops w Q (o :: rest) a) : wpStill P ops w Q (o :: rest) a := h
/-- In a region that draws, all reads ahead of the rest: a row read whole. -/
theorem still_row {P : Program} {ops : Array Oper} {o : Oper} {rest : List Oper} {a : Act} {w : World} {Q : Act → Prop} (hgd : o.guard = none) (ty : TypeId) (x : Operand) (ho : o.op = .load ty x)
    (b off : Nat) (hx : a.eval x = .pointer (some ⟨b, off, none⟩)) (cs : List Value) (d : TypeDesc) (hc : w.rangeAt b off cs) (hu : P.underlying ty = some d) (hd : d.isRow = true) (hi : (P.info? ty).map (·.size) = some cs.length)
    (h : wpStill P ops w Q rest (a.put o.dst (.agg cs.toArray))) : wpStill P ops w Q (o :: rest) a := by
  refine wpStill_step fun K hK => ?_
  rw [if_pos (by simp [Region.wanted, hgd])]
  unfold Oper.still execOp
  simp only [ho, hx, Instr.loadAt, Instr.sureAddr, Sem.run_bind, Sem.run_pure, Result.andThen_ok, run_loadVar_mid w b off ty cs d hc hu hd hi]
  exact ⟨rfl, hK _ h⟩

set_option maxHeartbeats 1000000 in
theorem eqByteA3_same (g : Nat → Nat) (w : World) :
    Calls Try.prog 127 #[.agg (rowL 3 (byt g)).toArray, .agg (rowL 3 (byt g)).toArray] w fun e w' => e = .returned (.bool true) ∧ Below w.heap.size w w' := by
  have h1 := hid (rowIs_new w 3 29 (byt g))
  have h2 := hid (rowIs_new (w.alloc (.cells (rowL 3 (byt g)).toArray 29)) 3 29 (byt g))
  have h1b := hid (h1.out.alloc (.cells (rowL 3 (byt g)).toArray 29))
  have hB := hid (below_alloc (below_alloc (Below.refl w.heap.size w) (Nat.le_refl _) (.cells (rowL 3 (byt g)).toArray 29)) (Nat.le_refl _) (.cells (rowL 3 (byt g)).toArray 29))
  rw [heap_alloc_size] at h2
  generalize (rowL 3 (byt g)).toArray = cs at *
  go_enter Try.func127, Try.ntmps127
  go_wp2
  generalize (w.alloc (.cells cs 29)).alloc (.cells cs 29) = W at *
  clear h1
  go_loopw [5] (fun i wr => ∃ k n : Nat, k ≤ 3 ∧ i = .int .i64 k ∧ wr = W.drewN n) (fun i _ => 3 - (intOf i).toNat)
  case atStart => exact ⟨0, 0, by omega, rfl, rfl⟩
  case round =>
    obtain ⟨k, n, hk, rfl, rfl⟩ := hrel
    by_cases hlt : k < 3
    · have c1 : W.cell? ⟨w.heap.size, k, none⟩ = some (.int .u8 (g k : Nat)) := h1b.out.cell hlt
      have c2 : W.cell? ⟨w.heap.size + 1, k, none⟩ = some (.int .u8 (g k : Nat)) := h2.out.cell hlt
      have hne : (((g k : Nat) : Int) != (g k : Nat)) = false := by simp
      have hgk : ((g k : Nat) : Int) = (g k : Nat) := rfl
      clear hgk
      generalize g k = gk at *
      go_wp2
      go_quiet (fail)
      go_wp2
      go_roundw
      case rel => exact ⟨k + 1, _, by omega, by go_num, rfl⟩
      case measure => simp [intOf]; omega
    · obtain rfl : k = 3 := by omega
      go_wp2
      go_ret
      exact ⟨rfl, below_drewN hB.out _⟩

set_option maxHeartbeats 1000000 in
set_option maxRecDepth 100000 in
theorem eqByteA3A16_same (g : Nat → Nat) (w : World) :
    Calls Try.prog 75 #[.agg (rowL 48 (byt g)).toArray, .agg (rowL 48 (byt g)).toArray] w fun e w' => e = .returned (.bool true) ∧ Below w.heap.size w w' := by
  have h1 := hid (rowIs_new w 48 30 (byt g))
  have h2 := hid (rowIs_new (w.alloc (.cells (rowL 48 (byt g)).toArray 30)) 48 30 (byt g))
  have h1b := hid (h1.out.alloc (.cells (rowL 48 (byt g)).toArray 30))
  have hB := hid (below_alloc (below_alloc (Below.refl w.heap.size w) (Nat.le_refl _) (.cells (rowL 48 (byt g)).toArray 30)) (Nat.le_refl _) (.cells (rowL 48 (byt g)).toArray 30))
  rw [heap_alloc_size] at h2
  generalize (rowL 48 (byt g)).toArray = cs at *
  go_enter Try.func75, Try.ntmps75
  go_wp2
  generalize (w.alloc (.cells cs 30)).alloc (.cells cs 30) = W at *
  clear h1
  go_loopw [5] (fun i wr => ∃ k : Nat, k ≤ 16 ∧ i = .int .i64 k ∧ wr.rowIs w.heap.size 30 48 (byt g) ∧ wr.rowIs (w.heap.size + 1) 30 48 (byt g) ∧ Below w.heap.size w wr) (fun i _ => 16 - (intOf i).toNat)
  case atStart => exact ⟨0, by omega, rfl, h1b.out, h2.out, hB.out⟩
  case round =>
    obtain ⟨k, hk, rfl, r1, r2, rB⟩ := hrel
    clear h1b h2 hB
    replace r1 := hid r1; replace r2 := hid r2; replace rB := hid rB
    by_cases hlt : k < 16
    · have dk : decide ((k : Int) < 16) = true := decide_eq_true (by omega)
      have rg1 := hid (show wr.rangeAt w.heap.size (k * 3) (rowL 3 (byt fun j => g (k * 3 + j))) from rowIs_range r1.out (k * 3) 3 (by omega))
      have rg2 := hid (show wr.rangeAt (w.heap.size + 1) (k * 3) (rowL 3 (byt fun j => g (k * 3 + j))) from rowIs_range r2.out (k * 3) 3 (by omega))
      have hcall := hid (fun W => eqByteA3_same (fun j => g (k * 3 + j)) W)
      have hk0 : (0 : Int) ≤ (k : Int) := Int.natCast_nonneg _
      have hk1 : (k : Int) < 16 := by omega
      go_wp2_with fail
      refine wp_region_still_tail 6 (by kernel_rfl) (by kernel_rfl) ?_
      simp only [List.take_succ_cons, List.take_zero, List.drop_succ_cons, List.drop_zero]
      repeat (first
        | ((with_reducible refine still_gate 12 rfl ?_); refine still_row rfl 29 _ rfl w.heap.size (k * 3) rfl _ _ rg1.out Try.underlying29 rfl (by rw [rowL_length]; exact sz_b3) ?_)
        | ((with_reducible refine still_gate 15 rfl ?_); refine still_row rfl 29 _ rfl (w.heap.size + 1) (k * 3) rfl _ _ rg2.out Try.underlying29 rfl (by rw [rowL_length]; exact sz_b3) ?_)
        | still_step)
      try refine wpStill_nil ?_
      change wpList _ _ _ _ _ wr.drew
      have r1d := hid r1.out.drew
      have r2d := hid r2.out.drew
      have rBd := hid rB.out.drew
      clear r1 r2 rB rg1 rg2
      generalize wr.drew = wd at *
      go_wp2_with (go_at_call 127; refine (hcall.out _).mono ?_; rintro e w1 ⟨rfl, hb⟩; replace hb := hid hb)
      go_roundw
      case rel => exact ⟨k + 1, by omega, by go_num, rowIs_below r1d.out hb.out r1d.out.lt, rowIs_below r2d.out hb.out r2d.out.lt, rBd.out.trans (hb.out.mono rBd.out.size)⟩
      case measure => simp [intOf]; omega
    · obtain rfl : k = 16 := by omega
      go_wp2
      go_ret
      exact ⟨rfl, rB.out⟩

set_option maxHeartbeats 1000000 in
theorem eqMachine_same (m : Mach) (w : World) :
    Calls Try.prog 28 #[.agg (mcells m), .agg (mcells m)] w fun e w' => e = .returned (.bool true) ∧ Below w.heap.size w w' := by
  have h1 := hid (MB.new w m 34)
  have h2 := hid (MB.new (w.alloc (.cells (mcells m) 34)) m 34)
  have h1b := hid (h1.out.alloc (.cells (mcells m) 34))
  have hB := hid (below_alloc (below_alloc (Below.refl w.heap.size w) (Nat.le_refl _) (.cells (mcells m) 34)) (Nat.le_refl _) (.cells (mcells m) 34))
  rw [heap_alloc_size] at h2
  have cL := h1b.out.cL
  have cS := h1b.out.cS
  have dL := h2.out.cL
  have dS := h2.out.cS
  have nL : (m.L != m.L) = false := by simp
  have nS : (m.S != m.S) = false := by simp
  generalize mcells m = cs at *
  go_enter Try.func28, Try.ntmps28
  go_upto_region 1 with (fail)
  generalize (w.alloc (.cells cs 34)).alloc (.cells cs 34) = W at *
  clear h1
  have rgn : ∀ (W : World) (b : Nat), MB W 34 b m → W.rangeAt b 2 (rowL 48 (byt m.nx)) := fun W b h => (rowL_congr (fun i hi => mf_nx_row m i hi)) ▸ rowIs_range h 2 48 (by omega)
  have rgo : ∀ (W : World) (b : Nat), MB W 34 b m → W.rangeAt b 50 (rowL 48 (byt m.ot)) := fun W b h => (rowL_congr (fun i _ => mf_ot_row m i)) ▸ rowIs_range h 50 48 (by omega)
  replace rgn := hid rgn; replace rgo := hid rgo
  go_wp2_with (first
    | ((with_reducible refine gate (N := 16) rfl ?_); refine wpList_load_mid rfl 30 _ rfl w.heap.size 2 rfl _ _ (rgn.out _ _ h1b.out) Try.underlying30 rfl (by rw [rowL_length]; exact sz_b48) ?_)
    | ((with_reducible refine gate (N := 18) rfl ?_); refine wpList_load_mid rfl 30 _ rfl (w.heap.size + 1) 2 rfl _ _ (rgn.out _ _ h2.out) Try.underlying30 rfl (by rw [rowL_length]; exact sz_b48) ?_)
    | (go_at_call 75; (with_reducible refine (eqByteA3A16_same m.nx _).mono ?_); rintro e w1 ⟨rfl, hb⟩; have k1 := hid (h1b.out.below hb h1b.out.lt); have k2 := hid (h2.out.below hb h2.out.lt); have hB2 := hid (hB.out.trans (hb.mono hB.out.size)); clear hb h1b h2 hB)
    | ((with_reducible refine gate (N := 22) rfl ?_); refine wpList_load_mid rfl 30 _ rfl w.heap.size 50 rfl _ _ (rgo.out _ _ k1.out) Try.underlying30 rfl (by rw [rowL_length]; exact sz_b48) ?_)
    | ((with_reducible refine gate (N := 24) rfl ?_); refine wpList_load_mid rfl 30 _ rfl (w.heap.size + 1) 50 rfl _ _ (rgo.out _ _ k2.out) Try.underlying30 rfl (by rw [rowL_length]; exact sz_b48) ?_)
    | (go_at_call 75; (with_reducible refine (eqByteA3A16_same m.ot _).mono ?_); rintro e w2 ⟨rfl, hb⟩; have hB3 := hid (hB2.out.trans (hb.mono hB2.out.size)); clear hb))
  go_ret
  exact ⟨rfl, hB3.out⟩
end Go.Proofs.Ythempofohidlnaa
