/- The two IsReversible answer alike; the statement's walk. -/
import Derived.Test.YtapbcfnlcnboeaaRev
namespace Go.Proofs.Ytapbcfnlcnboeaa
open Go.RowKit

open Classical in
/-- What IsReversible answers. -/
noncomputable def revAns (m : Mach) : Bool × Int := if IsM m then (decide (∀ l s, Good m l s → RevP m l s), 0) else (false, 1)

theorem Good.uniq {m : Mach} {l s l' s' : Nat} (g : Good m l s) (g' : Good m l' s') : l' = l ∧ s' = s := by
  have := g.L; have := g.S; have := g'.L; have := g'.S; omega

open Classical in
theorem revAns_good {m : Mach} {l s : Nat} (g : Good m l s) (r : Bool) (hr : r = true ↔ RevP m l s) : revAns m = (r, 0) := by
  unfold revAns
  rw [if_pos g.isM]
  congr 1
  rw [Bool.eq_iff_iff, decide_eq_true_iff, hr]
  constructor
  · intro h; exact h l s g
  · intro h l' s' g'
    obtain ⟨rfl, rfl⟩ := g.uniq g'
    exact h

open Classical in
set_option maxHeartbeats 1000000 in
theorem implIsRev_any (w : World) (m : Mach) (hk : m.Ok) :
    Calls Try.prog 19 #[.agg (mcells m)] w fun e w' => e = .returned (.tuple #[.bool (revAns m).1, .int .i64 (revAns m).2]) ∧ Below w.heap.size w w' := by
  have hM := hid (MB.new w m 31)
  have hB := hid ((Below.refl w.heap.size w).alloc (Nat.le_refl _) (.cells (mcells m) 31))
  replace hk := hid hk
  by_cases hm : IsM m
  · obtain ⟨l, s, g⟩ := hm.good
    have hA := hid (revAns_good g (decide (RevP m l s)) decide_eq_true_iff)
    have hr := hid (show decide (RevP m l s) = true ↔ RevP m l s from decide_eq_true_iff)
    generalize decide (RevP m l s) = r at *
    have hi := hid (show true = true ↔ IsM m from ⟨fun _ => hm, fun _ => rfl⟩)
    replace g := hid g
    clear hm
    rw [hA.out]
    go_enter Try.func19, Try.ntmps19
    go_wp2_with (first
      | ((with_reducible refine gate (N := 4) rfl ?_); refine load_mach rfl _ rfl w.heap.size rfl m hM.out ?_)
      | (go_at_call 56; (with_reducible refine (IsMachine_any _ m hk.out true hi.out).mono ?_); rintro e w1 ⟨rfl, hb⟩; have hM2 := hid (hM.out.below hb hM.out.lt); have hB2 := hid (hB.out.trans (hb.mono hB.out.size)); clear hb hM hB)
      | (go_at_call 57; (with_reducible refine (isReversible_any _ _ m hM2.out l s g.out r hr.out).mono ?_); rintro e w2 ⟨rfl, rfl⟩))
    go_ret2
    exact ⟨rfl, hB2.out⟩
  · have hi := hid (show false = true ↔ IsM m from ⟨fun h => (by cases h), fun h => absurd h hm⟩)
    have hA := hid (show revAns m = (false, 1) by unfold revAns; rw [if_neg hm])
    clear hm
    rw [hA.out]
    go_enter Try.func19, Try.ntmps19
    go_wp2_with (first
      | ((with_reducible refine gate (N := 4) rfl ?_); refine load_mach rfl _ rfl w.heap.size rfl m hM.out ?_)
      | (go_at_call 56; (with_reducible refine (IsMachine_any _ m hk.out false hi.out).mono ?_); rintro e w1 ⟨rfl, hb⟩; have hB2 := hid (hB.out.trans (hb.mono hB.out.size)); clear hb hM hB))
    go_ret2
    exact ⟨rfl, hB2.out⟩

open Classical in
set_option maxHeartbeats 1000000 in
theorem specIsRev_any (w : World) (m : Mach) (hk : m.Ok) :
    Calls Try.prog 17 #[.agg (mcells m)] w fun e w' => e = .returned (.tuple #[.bool (revAns m).1, .int .i64 (revAns m).2]) ∧ Below w.heap.size w w' := by
  have hM := hid (MB.new w m 31)
  have hB := hid ((Below.refl w.heap.size w).alloc (Nat.le_refl _) (.cells (mcells m) 31))
  replace hk := hid hk
  by_cases hm : IsM m
  · obtain ⟨l, s, g⟩ := hm.good
    have hA := hid (revAns_good g (decide (RevP m l s)) decide_eq_true_iff)
    have hr := hid (show decide (RevP m l s) = true ↔ RevP m l s from decide_eq_true_iff)
    generalize decide (RevP m l s) = r at *
    have hi := hid (show true = true ↔ IsM m from ⟨fun _ => hm, fun _ => rfl⟩)
    replace g := hid g
    clear hm
    rw [hA.out]
    go_enter Try.func17, Try.ntmps17
    go_wp2_with (first
      | ((with_reducible refine gate (N := 4) rfl ?_); refine load_mach rfl _ rfl w.heap.size rfl m hM.out ?_)
      | (go_at_call 53; (with_reducible refine (l01Is_any _ m hk.out true hi.out).mono ?_); rintro e w1 ⟨rfl, hb⟩; have hM2 := hid (hM.out.below hb hM.out.lt); have hB2 := hid (hB.out.trans (hb.mono hB.out.size)); clear hb hM hB)
      | ((with_reducible refine gate (N := 7) rfl ?_); refine load_mach rfl _ rfl w.heap.size rfl m hM2.out ?_)
      | (go_at_call 54; (with_reducible refine (l07Reversible_any _ m l s g.out r hr.out).mono ?_); rintro e w2 ⟨rfl, hb⟩; have hB3 := hid (hB2.out.trans (hb.mono hB2.out.size)); clear hb))
    go_ret2
    exact ⟨rfl, hB3.out⟩
  · have hi := hid (show false = true ↔ IsM m from ⟨fun h => (by cases h), fun h => absurd h hm⟩)
    have hA := hid (show revAns m = (false, 1) by unfold revAns; rw [if_neg hm])
    clear hm
    rw [hA.out]
    go_enter Try.func17, Try.ntmps17
    go_wp2_with (first
      | ((with_reducible refine gate (N := 4) rfl ?_); refine load_mach rfl _ rfl w.heap.size rfl m hM.out ?_)
      | (go_at_call 53; (with_reducible refine (l01Is_any _ m hk.out false hi.out).mono ?_); rintro e w1 ⟨rfl, hb⟩; have hB2 := hid (hB.out.trans (hb.mono hB.out.size)); clear hb hM hB))
    go_ret2
    exact ⟨rfl, hB2.out⟩

set_option maxHeartbeats 1000000 in
theorem lawIsRev_any (w : World) (m : Mach) (hk : m.Ok) :
    Calls Try.prog 4 #[.agg (mcells m)] w fun e w' => e = .returned (.bool true) ∧ Below w.heap.size w w' := by
  have hM := hid (MB.new w m 28)
  have hB := hid ((Below.refl w.heap.size w).alloc (Nat.le_refl _) (.cells (mcells m) 28))
  replace hk := hid hk
  have hs := hid (fun W => specIsRev_any W m hk.out)
  have hp := hid (fun W => implIsRev_any W m hk.out)
  generalize (revAns m).1 = r at *
  generalize (revAns m).2 = c at *
  go_enter Try.func4, Try.ntmps4
  go_wp2_with (first
    | ((with_reducible refine gate (N := 8) rfl ?_); refine load_lmach rfl _ rfl w.heap.size rfl m hM.out ?_)
    | (go_at_call 17; (with_reducible refine (hs.out _).mono ?_); rintro e w2 ⟨rfl, hb⟩; have hM3 := hid (hM2.out.below hb hM2.out.lt); have hB3 := hid (hB2.out.trans (hb.mono hB2.out.size)); clear hb hM2 hB2 hs)
    | ((with_reducible refine gate (N := 14) rfl ?_); refine load_lmach rfl _ rfl w.heap.size rfl m hM3.out ?_)
    | (go_at_call 18; (with_reducible refine (toMachine_any m hk.out _).mono ?_); rintro e w3 ⟨rfl, hb⟩; have hB4 := hid (hB3.out.trans (hb.mono hB3.out.size)); clear hb hB3)
    | (go_at_call 18; (with_reducible refine (toMachine_any m hk.out _).mono ?_); rintro e w1 ⟨rfl, hb⟩; have hM2 := hid (hM.out.below hb hM.out.lt); have hB2 := hid (hB.out.trans (hb.mono hB.out.size)); clear hb hM hB)
    | (go_at_call 19; (with_reducible refine (hp.out _).mono ?_); rintro e w4 ⟨rfl, hb⟩; have hB5 := hid (hB4.out.trans (hb.mono hB4.out.size)); clear hb hB4 hp))
  go_ret
  exact ⟨rfl, hB5.out⟩
end Go.Proofs.Ytapbcfnlcnboeaa
