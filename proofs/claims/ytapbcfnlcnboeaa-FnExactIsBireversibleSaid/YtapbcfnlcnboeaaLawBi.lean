/- The two IsBireversible answer alike; the statement's walk. -/
import Derived.Test.YtapbcfnlcnboeaaInv
namespace Go.Proofs.Ytapbcfnlcnboeaa
open Go.RowKit

open Classical in
/-- What IsBireversible answers. -/
noncomputable def biAns (m : Mach) : Bool × Int := if IsM m then (decide (∀ l s, Good m l s → RevP m l s ∧ RevP (inv m l s) l s), 0) else (false, 1)

open Classical in
theorem biAns_good {m : Mach} {l s : Nat} (g : Good m l s) (r1 r2 : Bool) (h1 : r1 = true ↔ RevP m l s) (h2 : r2 = true ↔ RevP (inv m l s) l s) : biAns m = (r1 && r2, 0) := by
  have u : ∀ l' s', Good m l' s' → l' = l ∧ s' = s := fun l' s' g' => by
    have := g.L; have := g.S; have := g'.L; have := g'.S; omega
  unfold biAns
  rw [if_pos g.isM]
  congr 1
  rw [Bool.eq_iff_iff, decide_eq_true_iff, Bool.and_eq_true, h1, h2]
  constructor
  · intro h; exact h l s g
  · intro h l' s' g'
    obtain ⟨rfl, rfl⟩ := u l' s' g'
    exact h

open Classical in
set_option maxHeartbeats 1000000 in
theorem implIsBi_any (w : World) (m : Mach) (hk : m.Ok) :
    Calls Try.prog 21 #[.agg (mcells m)] w fun e w' => e = .returned (.tuple #[.bool (biAns m).1, .int .i64 (biAns m).2]) ∧ Below w.heap.size w w' := by
  have hM := hid (MB.new w m 31)
  have hB := hid ((Below.refl w.heap.size w).alloc (Nat.le_refl _) (.cells (mcells m) 31))
  replace hk := hid hk
  by_cases hm : IsM m
  · obtain ⟨l, s, g⟩ := hm.good
    have hA := hid (biAns_good g (decide (RevP m l s)) (decide (RevP (inv m l s) l s)) decide_eq_true_iff decide_eq_true_iff)
    have hr : Tells (decide (RevP m l s)) (RevP m l s) := decide_eq_true_iff
    have hr2 : Tells (decide (RevP (inv m l s) l s)) (RevP (inv m l s) l s) := decide_eq_true_iff
    generalize decide (RevP m l s) = r at *
    generalize decide (RevP (inv m l s) l s) = r2 at *
    have hi := hid (show true = true ↔ IsM m from ⟨fun _ => hm, fun _ => rfl⟩)
    have gi := hid (inv_good g)
    replace g := hid g
    clear hm
    rw [hA.out]
    have hz := zero_mach
    have h0 := hid (fun w' : World => MB.new w' ⟨0, 0, fun _ => 0, fun _ => 0⟩ 31)
    generalize mcells ⟨0, 0, fun _ => 0, fun _ => 0⟩ = zs at *
    cases r
    all_goals
      go_enter Try.func21, Try.ntmps21
      go_wp2_with (first
        | ((with_reducible refine gate (N := 5) rfl ?_); refine load_mach rfl _ rfl w.heap.size rfl m hM.out ?_)
        | (go_at_call 56; (with_reducible refine (IsMachine_any _ m hk.out true hi.out).mono ?_); rintro e w1 ⟨rfl, hb⟩; have hM2 := hid (hM.out.below hb hM.out.lt); have hB2 := hid (hB.out.trans (hb.mono hB.out.size)); clear hb hM hB)
        | (go_at_call 59; (with_reducible refine (inverse_any _ _ m hM2.out l s g.out hk.out).mono ?_); rintro e w2 ⟨rfl, hb⟩; have hM3 := hid ((hM2.out.below hb hM2.out.lt).alloc (.cells zs 31)); have hB3 := hid (hB2.out.trans (hb.mono hB2.out.size)); have hB4 := hid (below_alloc hB3.out (Nat.le_refl _) (.cells zs 31)); have hne := hid (Nat.lt_of_lt_of_le hM2.out.lt hb.size); clear hb hM2 hB2)
        | ((with_reducible refine gateOp (op := .store 31 (.tmp 4) (.tmp 8)) rfl ?_); refine store_mach rfl _ _ rfl w2.heap.size rfl (inv m l s) rfl 31 _ (h0.out w2) ?_; intro w3 hV ho hsz hbl; have hM4 := hid (show MB w3 31 w.heap.size m from World.rowIs.of_block hM3.out (ho _ (by have := hne.out; omega))); have hB5 := hid (hbl _ _ hB3.out.size hB4.out); replace hV := hid hV; clear ho hsz hbl hM3 hB3 hB4 hne hz)
        | (go_at_call 57; (with_reducible refine (isReversible_any w.heap.size _ m hM4.out l s g.out _ hr.out).mono ?_); rintro e w4 ⟨rfl, rfl⟩)
        | (go_at_call 57; (with_reducible refine (isReversible_any _ _ (inv m l s) hV.out l s gi.out r2 hr2.out).mono ?_); rintro e w4 ⟨rfl, rfl⟩))
      go_ret2
      exact ⟨rfl, hB5.out⟩
  · have hi := hid (show false = true ↔ IsM m from ⟨fun h => (by cases h), fun h => absurd h hm⟩)
    have hA := hid (show biAns m = (false, 1) by unfold biAns; rw [if_neg hm])
    clear hm
    rw [hA.out]
    go_enter Try.func21, Try.ntmps21
    go_wp2_with (first
      | ((with_reducible refine gate (N := 5) rfl ?_); refine load_mach rfl _ rfl w.heap.size rfl m hM.out ?_)
      | (go_at_call 56; (with_reducible refine (IsMachine_any _ m hk.out false hi.out).mono ?_); rintro e w1 ⟨rfl, hb⟩; have hB2 := hid (hB.out.trans (hb.mono hB.out.size)); clear hb hM hB))
    go_ret2
    exact ⟨rfl, hB2.out⟩

open Classical in
set_option maxHeartbeats 1000000 in
theorem specIsBi_any (w : World) (m : Mach) (hk : m.Ok) :
    Calls Try.prog 20 #[.agg (mcells m)] w fun e w' => e = .returned (.tuple #[.bool (biAns m).1, .int .i64 (biAns m).2]) ∧ Below w.heap.size w w' := by
  have hM := hid (MB.new w m 31)
  have hB := hid ((Below.refl w.heap.size w).alloc (Nat.le_refl _) (.cells (mcells m) 31))
  replace hk := hid hk
  by_cases hm : IsM m
  · obtain ⟨l, s, g⟩ := hm.good
    have hA := hid (biAns_good g (decide (RevP m l s)) (decide (RevP (inv m l s) l s)) decide_eq_true_iff decide_eq_true_iff)
    have hr : Tells (decide (RevP m l s)) (RevP m l s) := decide_eq_true_iff
    have hr2 : Tells (decide (RevP (inv m l s) l s)) (RevP (inv m l s) l s) := decide_eq_true_iff
    generalize decide (RevP m l s) = r at *
    generalize decide (RevP (inv m l s) l s) = r2 at *
    have hi := hid (show true = true ↔ IsM m from ⟨fun _ => hm, fun _ => rfl⟩)
    have gi := hid (inv_good g)
    replace g := hid g
    clear hm
    rw [hA.out]
    cases r
    · go_enter Try.func20, Try.ntmps20
      go_wp2_with (first
        | ((with_reducible refine gate (N := 4) rfl ?_); refine load_mach rfl _ rfl w.heap.size rfl m hM.out ?_)
        | (go_at_call 53; (with_reducible refine (l01Is_any _ m hk.out true hi.out).mono ?_); rintro e w1 ⟨rfl, hb⟩; have hM2 := hid (hM.out.below hb hM.out.lt); have hB2 := hid (hB.out.trans (hb.mono hB.out.size)); clear hb hM hB)
        | ((with_reducible refine gate (N := 7) rfl ?_); refine load_mach rfl _ rfl w.heap.size rfl m hM2.out ?_)
        | (go_at_call 54; (with_reducible refine (l07Reversible_any _ m l s g.out false hr.out).mono ?_); rintro e w2 ⟨rfl, hb⟩; have hB3 := hid (hB2.out.trans (hb.mono hB2.out.size)); clear hb))
      go_ret2
      exact ⟨rfl, hB3.out⟩
    · go_enter Try.func20, Try.ntmps20
      go_wp2_with (first
        | ((with_reducible refine gate (N := 4) rfl ?_); refine load_mach rfl _ rfl w.heap.size rfl m hM.out ?_)
        | (go_at_call 53; (with_reducible refine (l01Is_any _ m hk.out true hi.out).mono ?_); rintro e w1 ⟨rfl, hb⟩; have hM2 := hid (hM.out.below hb hM.out.lt); have hB2 := hid (hB.out.trans (hb.mono hB.out.size)); clear hb hM hB)
        | ((with_reducible refine gate (N := 7) rfl ?_); refine load_mach rfl _ rfl w.heap.size rfl m hM2.out ?_)
        | (go_at_call 54; (with_reducible refine (l07Reversible_any _ m l s g.out true hr.out).mono ?_); rintro e w2 ⟨rfl, hb⟩; have hM3 := hid (hM2.out.below hb hM2.out.lt); have hB3 := hid (hB2.out.trans (hb.mono hB2.out.size)); clear hb hM2 hB2)
        | ((with_reducible refine gate (N := 10) rfl ?_); refine load_mach_g rfl _ rfl w.heap.size rfl m hM3.out ?_)
        | (go_at_call 58; (with_reducible refine (l01Inverse_any _ m l s g.out hk.out).mono ?_); rintro e w3 ⟨rfl, hb⟩; have hB4 := hid (hB3.out.trans (hb.mono hB3.out.size)); clear hb hB3)
        | (go_at_call 54; (with_reducible refine (l07Reversible_any _ (inv m l s) l s gi.out r2 hr2.out).mono ?_); rintro e w4 ⟨rfl, hb⟩; have hB5 := hid (hB4.out.trans (hb.mono hB4.out.size)); clear hb))
      go_ret2
      exact ⟨rfl, hB5.out⟩
  · have hi := hid (show false = true ↔ IsM m from ⟨fun h => (by cases h), fun h => absurd h hm⟩)
    have hA := hid (show biAns m = (false, 1) by unfold biAns; rw [if_neg hm])
    clear hm
    rw [hA.out]
    go_enter Try.func20, Try.ntmps20
    go_wp2_with (first
      | ((with_reducible refine gate (N := 4) rfl ?_); refine load_mach rfl _ rfl w.heap.size rfl m hM.out ?_)
      | (go_at_call 53; (with_reducible refine (l01Is_any _ m hk.out false hi.out).mono ?_); rintro e w1 ⟨rfl, hb⟩; have hB2 := hid (hB.out.trans (hb.mono hB.out.size)); clear hb hM hB))
    go_ret2
    exact ⟨rfl, hB2.out⟩

set_option maxHeartbeats 1000000 in
theorem lawIsBi_any (w : World) (m : Mach) (hk : m.Ok) :
    Calls Try.prog 5 #[.agg (mcells m)] w fun e w' => e = .returned (.bool true) ∧ Below w.heap.size w w' := by
  have hM := hid (MB.new w m 28)
  have hB := hid ((Below.refl w.heap.size w).alloc (Nat.le_refl _) (.cells (mcells m) 28))
  replace hk := hid hk
  have hs := hid (fun W => specIsBi_any W m hk.out)
  have hp := hid (fun W => implIsBi_any W m hk.out)
  generalize (biAns m).1 = r at *
  generalize (biAns m).2 = c at *
  go_enter Try.func5, Try.ntmps5
  go_wp2_with (first
    | ((with_reducible refine gate (N := 8) rfl ?_); refine load_lmach rfl _ rfl w.heap.size rfl m hM.out ?_)
    | (go_at_call 20; (with_reducible refine (hs.out _).mono ?_); rintro e w2 ⟨rfl, hb⟩; have hM3 := hid (hM2.out.below hb hM2.out.lt); have hB3 := hid (hB2.out.trans (hb.mono hB2.out.size)); clear hb hM2 hB2 hs)
    | ((with_reducible refine gate (N := 14) rfl ?_); refine load_lmach rfl _ rfl w.heap.size rfl m hM3.out ?_)
    | (go_at_call 18; (with_reducible refine (toMachine_any m hk.out _).mono ?_); rintro e w3 ⟨rfl, hb⟩; have hB4 := hid (hB3.out.trans (hb.mono hB3.out.size)); clear hb hB3)
    | (go_at_call 18; (with_reducible refine (toMachine_any m hk.out _).mono ?_); rintro e w1 ⟨rfl, hb⟩; have hM2 := hid (hM.out.below hb hM.out.lt); have hB2 := hid (hB.out.trans (hb.mono hB.out.size)); clear hb hM hB)
    | (go_at_call 21; (with_reducible refine (hp.out _).mono ?_); rintro e w4 ⟨rfl, hb⟩; have hB5 := hid (hB4.out.trans (hb.mono hB4.out.size)); clear hb hB4 hp))
  go_ret
  exact ⟨rfl, hB5.out⟩
end Go.Proofs.Ytapbcfnlcnboeaa
