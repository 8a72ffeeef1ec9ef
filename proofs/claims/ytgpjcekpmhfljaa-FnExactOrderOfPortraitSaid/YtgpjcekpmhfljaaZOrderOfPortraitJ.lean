/- What the proof of OrderOfPortrait leans on, part 10 of 10. -/
import Derived.Test.YtgpjcekpmhfljaaZOrderOfPortraitI
/- OrderOfPortrait: the law. -/
namespace Go.Proofs.Ytgpjcekpmhfljaa
open Go.RowKit
set_option linter.unusedVariables false
set_option linter.unusedSimpArgs false

set_option maxHeartbeats 8000000 in
set_option maxRecDepth 100000 in
theorem oop_law (w : World) (d n : Int) (v : Value) (l : List Int) (hl : ArgI w v l) :
    Calls Try.prog 4 #[.int .i64 d, .int .i64 n, v] w fun e w' => e = .returned (.bool true) ∧ Below w.heap.size w w' := by
  have hS := hid (St.start w)
  have hl' := hid hl
  obtain ⟨A, c, rfl, _⟩ := hl
  by_cases h1 : l.length ≤ 1048576
  · have d1 : decide ((1048576 : Int) < (l.length : Int)) = false := decide_eq_false (by omega)
    have hti := hid (fun W (hW : Below w.heap.size w W) => toInt64S_any W _ l (hl'.out.below hW) (by omega))
    have hs := hid (fun W b vq (hO : Own W b 2 vq (ints l)) => specOop_any W d n b vq l hO (by omega))
    have hp := hid (fun W b vq (hO : Own W b 2 vq (ints l)) => implOop_any W d n b vq l hO (by omega))
    have heq := hid (fun W b1 b2 v1 v2 (hO1 : Own W b1 2 v1 (ints l)) (hO2 : Own W b2 2 v2 (ints l)) => eqInt64SL_any W b1 b2 v1 v2 l hO1 hO2 (by omega))
    have hcc : ((oopAns d n l).2 != (oopAns d n l).2) = false := by simp
    have hcc2 : ((oopAns d n l).1 != (oopAns d n l).1) = false := by simp
    generalize (oopAns d n l).1 = r at *
    generalize (oopAns d n l).2 = cd at *
    generalize l.length = nl at *
    go_enter Try.func4, Try.ntmps4
    go_wp2_with (first
      | (go_at_call 17; (with_reducible refine (hti.out _ hS.out.bel).mono ?_); rintro e w2 ⟨vq, rfl, hO, hb⟩; replace hS := hid (hS.out.callOwn hb hO); clear hb hO)
      | (go_at_call 16; (with_reducible refine (hs.out _ _ _ hS.out.o0).mono ?_); rintro e w3 ⟨rfl, hb⟩; replace hS := hid (hS.out.call hb); clear hb)
      | (go_at_call 18; (with_reducible refine (hp.out _ _ _ hS.out.o0).mono ?_); rintro e w4 ⟨rfl, hb⟩; replace hS := hid (hS.out.call hb); clear hb)
      | (go_at_call 19; (with_reducible refine (heq.out _ _ _ _ _ hS.out.o1 hS.out.o0).mono ?_); rintro e w5 ⟨rfl, hb⟩; replace hS := hid (hS.out.call hb); clear hb))
    go_ret
    exact ⟨rfl, hS.out.bel⟩
  · have d1 : decide ((1048576 : Int) < (l.length : Int)) = true := decide_eq_true (by omega)
    generalize l.length = nl at *
    go_enter Try.func4, Try.ntmps4
    go_wp2
    go_ret
    exact ⟨rfl, hS.out.bel⟩
end Go.Proofs.Ytgpjcekpmhfljaa
