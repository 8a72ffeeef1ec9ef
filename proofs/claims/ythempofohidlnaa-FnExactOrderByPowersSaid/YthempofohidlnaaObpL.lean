/- OrderByPowers: the law. -/
import Derived.Test.YthempofohidlnaaObp
namespace Go.Proofs.Ythempofohidlnaa
open Go.RowKit
set_option linter.unusedVariables false
set_option linter.unusedSimpArgs false
set_option maxHeartbeats 2000000 in
set_option maxRecDepth 100000 in
theorem orderByPowers_law (w : World) (m : Mach) (hkm : m.Ok) (x1 : Int) (x2 : Int) :
    Calls Try.prog 5 #[.agg (mcells m), .int .i64 x1, .int .i64 x2] w fun e w' => e = .returned (.bool true) ∧ Below w.heap.size w w' := by
  have hS := hid ((St.start w).newMB m 32)
  replace hkm := hid hkm
  have hs := hid (fun W => specObp_any W m hkm.out x1 x2)
  have hp := hid (fun W => implObp_any W m hkm.out x1 x2)
  generalize (obpAns m x1 x2).1 = a1 at *
  generalize (obpAns m x1 x2).2 = a2 at *
  have hz1 : (a1 != a1) = false := by simp
  have hz2 : (a2 != a2) = false := by simp
  try simp only [heap_alloc_size] at hS
  go_enter Try.func5, Try.ntmps5
  go_wp2_with (first
    | ((with_reducible refine gate (N := 12) rfl ?_); refine load_lmach rfl _ rfl w.heap.size rfl m hS.out.m0 ?_)
    | ((with_reducible refine gate (N := 20) rfl ?_); refine load_lmach rfl _ rfl w.heap.size rfl m hS.out.m0 ?_)
    | (go_at_call 22; (with_reducible refine (toMachine_any m hkm.out _).mono ?_); rintro e w1 ⟨rfl, hb⟩; replace hS := hid (hS.out.call hb); clear hb)
    | (go_at_call 24; (with_reducible refine (hs.out _).mono ?_); rintro e w1 ⟨rfl, hb⟩; replace hS := hid (hS.out.call hb); clear hb)
    | (go_at_call 25; (with_reducible refine (hp.out _).mono ?_); rintro e w1 ⟨rfl, hb⟩; replace hS := hid (hS.out.call hb); clear hb))
  go_ret
  exact ⟨rfl, hS.out.bel⟩
end Go.Proofs.Ythempofohidlnaa
