/- LevelEdges: the law. -/
import Derived.Test.YtapbcfnlcnboeaaEdges
namespace Go.Proofs.Ytapbcfnlcnboeaa
open Go.RowKit
set_option linter.unusedVariables false
set_option linter.unusedSimpArgs false
set_option maxHeartbeats 4000000 in
set_option maxRecDepth 100000 in
theorem levelEdges_law (w : World) (m : Mach) (hkm : m.Ok) (x1 : Int) :
    Calls Try.prog 11 #[.agg (mcells m), .int .i64 x1] w fun e w' => e = .returned (.bool true) ∧ Below w.heap.size w w' := by
  have hS := hid ((St.start w).newMB m 28)
  replace hkm := hid hkm
  have hs := hid (fun W => specEdges_any W m hkm.out x1)
  have hp := hid (fun W => implEdges_any W m hkm.out x1)
  have hcc : ((edgesAns m x1).2 != (edgesAns m x1).2) = false := by simp
  have hlen := hid (edgesAns_len m x1)
  generalize (edgesAns m x1) = A at *
  have hz : (((A.1.length * 3 : Nat) : Int) + 1 != ((A.1.length * 3 : Nat) : Int) + 1) = false := by simp
  have hz0 : decide (((A.1.length * 3 : Nat) : Int) + 1 < 0) = false := decide_eq_false (by omega)
  generalize hc : A.2 = c at *
  replace hc := hid hc
  try simp only [heap_alloc_size] at hS
  go_enter Try.func11, Try.ntmps11
  go_wp2_with (first
    | ((with_reducible refine gate (N := 14) rfl ?_); refine load_lmach rfl _ rfl w.heap.size rfl m (by first | exact hS.out.m0 | exact hS.out.m1 | exact (hS.out.call hT.out.bel).m1) ?_)
    | ((with_reducible refine gate (N := 21) rfl ?_); refine load_lmach rfl _ rfl w.heap.size rfl m (by first | exact hS.out.m0 | exact hS.out.m1 | exact (hS.out.call hT.out.bel).m1) ?_)
    | ((with_reducible refine gate (N := 48) rfl ?_); refine load_lmach rfl _ rfl w.heap.size rfl m (by first | exact hS.out.m0 | exact hS.out.m1 | exact (hS.out.call hT.out.bel).m1) ?_)
    | (go_at_call 18; (with_reducible refine (toMachine_any m hkm.out _).mono ?_); rintro e w1 ⟨rfl, hb⟩; first | (replace hT := hid (hT.out.call hb); clear hb) | (replace hS := hid (hS.out.call hb); clear hb))
    | (go_at_call 36; (with_reducible refine (hs.out _).mono ?_); rintro e w1 ⟨v0, rfl, hO, hb⟩; rw [hc.out]; replace hS := hid (hS.out.callN hb hO); clear hb hO hs)
    | (go_at_call 37; (with_reducible refine (hp.out _).mono ?_); rintro e w1 ⟨g0, rfl, hO, hb⟩; rw [hc.out]; first | (replace hT := hid (hT.out.callN hb hO); clear hb hO hp) | (have hT := hid ((St.start _).callN hb hO); clear hb hO))
    | (go_at_call 38; (first | (with_reducible refine (eqEdgeS_any _ _ _ _ _ A.1 hT.out.n0 (hS.out.call hT.out.bel).n0 (by have := hlen.out; omega)).mono ?_) | (with_reducible refine (eqEdgeS_any _ _ _ _ _ A.1 hT.out.n0 (hS.out.call hT.out.bel).n0 (by have := hlen.out; omega)).mono ?_)); rintro e w1 ⟨rfl, hb⟩; replace hT := hid (hT.out.call hb); clear hb)
    | (go_at_call 39; (with_reducible refine (markEdge1 _ _ _ _ A.1.length hT.out.n0 (by have := hlen.out; omega)).mono ?_); rintro e w1 ⟨rfl, hO, hb⟩; replace hT := hid (hT.out.only (a' := Asn.ownN _ 81 3 _ A.1.length (marks 1 (A.1.length * 3))) hO hb); clear hO hb)
    | (go_at_call 40; (first | (with_reducible refine (heldEdge1 _ _ _ A.1.length hT.out.n0 (by have := hlen.out; omega)).mono ?_) | (with_reducible refine (heldEdge1 _ _ _ A.1.length hT.out.n1 (by have := hlen.out; omega)).mono ?_)); rintro e w1 ⟨rfl, rfl⟩))
  go_ret
  exact ⟨rfl, (hS.out.call hT.out.bel).bel⟩
end Go.Proofs.Ytapbcfnlcnboeaa
