/- ClosedWalks: the law. -/
import Derived.Test.YtapbcfnlcnboeaaWalksI
import Derived.Test.YtapbcfnlcnboeaaWalksS
import Derived.Test.YtapbcfnlcnboeaaLawDual
namespace Go.Proofs.Ytapbcfnlcnboeaa
open Go.RowKit
set_option maxHeartbeats 2000000 in
set_option maxRecDepth 100000 in
theorem closedWalks_law (w : World) (m : Mach) (hkm : m.Ok) (x1 : Int) (x2 : Int) :
    Calls Try.prog 9 #[.agg (mcells m), .int .i64 x1, .int .i64 x2] w fun e w' => e = .returned (.bool true) ∧ Below w.heap.size w w' := by
  have hS := hid ((St.start w).newMB m 28)
  replace hkm := hid hkm
  have hs := hid (fun W => specWalks_any W m hkm.out x1 x2)
  have hp := hid (fun W => implWalks_any W m hkm.out x1 x2)
  generalize (walksAns m x1 x2).1 = a1 at *
  generalize (walksAns m x1 x2).2 = a2 at *
  have hz1 : (a1 != a1) = false := by simp
  have hz2 : (a2 != a2) = false := by simp
  try simp only [heap_alloc_size] at hS
  go_enter Try.func9, Try.ntmps9
  go_wp2_with (first
    | ((with_reducible refine gate (N := 12) rfl ?_); refine load_lmach rfl _ rfl w.heap.size rfl m hS.out.m0 ?_)
    | ((with_reducible refine gate (N := 20) rfl ?_); refine load_lmach rfl _ rfl w.heap.size rfl m hS.out.m0 ?_)
    | (go_at_call 18; (with_reducible refine (toMachine_any m hkm.out _).mono ?_); rintro e w1 ⟨rfl, hb⟩; replace hS := hid (hS.out.call hb); clear hb)
    | (go_at_call 32; (with_reducible refine (hs.out _).mono ?_); rintro e w1 ⟨rfl, hb⟩; replace hS := hid (hS.out.call hb); clear hb)
    | (go_at_call 33; (with_reducible refine (hp.out _).mono ?_); rintro e w1 ⟨rfl, hb⟩; replace hS := hid (hS.out.call hb); clear hb))
  go_ret
  exact ⟨rfl, hS.out.bel⟩
end Go.Proofs.Ytapbcfnlcnboeaa
