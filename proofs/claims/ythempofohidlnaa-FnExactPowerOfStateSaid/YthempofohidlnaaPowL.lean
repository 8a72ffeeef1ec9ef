/- PowerOfState: the law. -/
import Derived.Test.YthempofohidlnaaPowI
import Derived.Test.YthempofohidlnaaMos
namespace Go.Proofs.Ythempofohidlnaa
open Go.RowKit
set_option linter.unusedVariables false
set_option linter.unusedSimpArgs false
set_option maxHeartbeats 4000000 in
set_option maxRecDepth 100000 in
theorem powerOfState_law (w : World) (m : Mach) (hkm : m.Ok) (x1 : Int) (x2 : Int) :
    Calls Try.prog 7 #[.agg (mcells m), .int .i64 x1, .int .i64 x2] w fun e w' => e = .returned (.bool true) ∧ Below w.heap.size w w' := by
  have hz := zero_mach
  have hS := hid ((St.start w).newMB m 32)
  replace hkm := hid hkm
  have hNew := hid (fun L W (h : St w.heap.size w L W) => h.newMB ⟨0, 0, fun _ => 0, fun _ => 0⟩ 34)
  have hs := hid (fun W => specPow_any W m hkm.out x1 x2)
  have hp := hid (fun W => implPow_any W m hkm.out x1 x2)
  generalize (powAns m x1 x2).1 = fm at *
  generalize (powAns m x1 x2).2 = fc at *
  have hcc : (fc != fc) = false := by simp
  try simp only [heap_alloc_size] at hS
  generalize mcells ⟨0, 0, fun _ => 0, fun _ => 0⟩ = zs at *
  go_enter Try.func7, Try.ntmps7
  go_wp2_with (first
    | ((with_reducible refine gate (N := 12) rfl ?_); refine load_lmach rfl _ rfl w.heap.size rfl m (by first | exact hS.out.m0 | exact hS.out.m1 | exact hS.out.m2) ?_)
    | ((with_reducible refine gate (N := 20) rfl ?_); refine load_lmach rfl _ rfl w.heap.size rfl m (by first | exact hS.out.m0 | exact hS.out.m1 | exact hS.out.m2) ?_)
    | ((with_reducible refine gate (N := 27) rfl ?_); refine load_mach rfl _ rfl w4.heap.size rfl fm hS.out.m0 ?_)
    | ((with_reducible refine gate (N := 28) rfl ?_); refine load_mach rfl _ rfl w2.heap.size rfl fm hS.out.m1 ?_)
    | (go_at_call 22; (with_reducible refine (toMachine_any m hkm.out _).mono ?_); rintro e w1 ⟨rfl, hb⟩; replace hS := hid (hS.out.call hb); clear hb)
    | (go_at_call 29; (with_reducible refine (hs.out _).mono ?_); rintro e w2 ⟨rfl, hb⟩; have hlew2 := hid (hS.out.call hb).le; replace hS := hid (hNew.out _ _ (hS.out.call hb)); clear hb)
    | (go_at_call 30; (with_reducible refine (hp.out _).mono ?_); rintro e w4 ⟨rfl, hb⟩; have hlew4 := hid (hS.out.call hb).le; replace hS := hid (hNew.out _ _ (hS.out.call hb)); clear hb)
    | ((with_reducible refine gateOp (op := .store 34 (.tmp 7) (.tmp 17)) rfl ?_); refine store_mach rfl _ _ rfl w2.heap.size rfl fm rfl 34 _ hS.out.m0 ?_; intro W1 p3 ho hsz hbl; replace hS := hid (hS.out.setM hlew2.out p3 ho hbl); clear p3 ho hsz hbl)
    | ((with_reducible refine gateOp (op := .store 34 (.tmp 9) (.tmp 25)) rfl ?_); refine store_mach rfl _ _ rfl w4.heap.size rfl fm rfl 34 _ hS.out.m0 ?_; intro W1 p3 ho hsz hbl; replace hS := hid (hS.out.setM hlew4.out p3 ho hbl); clear p3 ho hsz hbl)
    | (go_at_call 28; (with_reducible refine (eqMachine_same fm _).mono ?_); rintro e w6 ⟨rfl, hb⟩; replace hS := hid (hS.out.call hb); clear hb))
  go_ret
  exact ⟨rfl, hS.out.bel⟩
end Go.Proofs.Ythempofohidlnaa
