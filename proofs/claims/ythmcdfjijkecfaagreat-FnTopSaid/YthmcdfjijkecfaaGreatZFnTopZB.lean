/- What the proof of FnTop leans on, part 28 of 28. -/
import Derived.Test.YthmcdfjijkecfaaGreatZFnTopZA
import Derived.Deep.CutBlock
/- FnTop: the walk. -/
namespace Go.Proofs.YthmcdfjijkecfaaGreat
open Go.RowKit
set_option linter.unusedVariables false
set_option linter.unusedSimpArgs false
-- @LONG

theorem mul_good {d : Nat} {A B : List Int} (hd : d = 2 ∨ d = 3) (hA : IsP d 3 A) (hB : IsP d 3 B) : mulAns (d : Int) 3 A B = (prtF d (fun u => actP d B (actP d A u)) 3, 0) := by
  have h : pcode (d : Int) 3 [A, B] = 0 := pcode_0 (n := 3) hd (by omega) (by omega) (by intro g hg; simp at hg; rcases hg with rfl | rfl <;> assumption)
  unfold mulAns
  rw [if_pos h]; rfl
set_option maxHeartbeats 20000000 in
set_option maxRecDepth 100000 in
theorem top_walk (w : World) (v : Value) (l : List Nat) (hv : ArgB w v l) :
    Calls Tryz.prog 3 #[v] w fun e w' => e = .returned (.bool true) ∧ Below w.heap.size w w' := by
  have hbg := hid (big_any w v l hv)
  by_cases hl : l.length ≤ 4096
  · have dl : decide (4096 < l.length) = false := decide_eq_false (by omega)
    rw [dl] at hbg
    have hdr := hid (fun W (hW : Below w.heap.size w W) => drPos_any W v l (hv.below hW) hl)
    have hip := hid implPos_any
    have hsp := hid specPos_any
    have hpo := hid implPof_any
    have hmu := hid implMul_any
    have him := hid implInm_any
    have hiv := hid implIvp_any
    have hoo := hid implOop_any
    have hcy := hid implCyt_any
    have hlk := hid likeInts_any
    have hmg := hid (fun d A B hd hA hB => mul_good (d := d) (A := A) (B := B) hd hA hB)
    have hs0 := hid (St.start w)
    have hz := zeroM_run
    have hz1 := hid (fun L W (h : St w.heap.size w L W) => h.newMB zeroM 27)
    have hz2 := hid (fun L W (h : St w.heap.size w L W) => (h.newMB zeroM 27).newMB zeroM 27)
    have hne := hid (fun (x : Int) => (show (x != x) = false by simp))
    have hgd := guard_mach
    replace hv := hid hv
    obtain ⟨A0, c, rfl, _⟩ := hv.out
    go_enter Tryz.func3, Tryz.ntmps3
    go_upto_region 6 with (first
      | (go_at_call 8; (with_reducible refine (hbg.out).mono ?_); rintro e w1 ⟨rfl, rfl⟩)
      | (go_at_call 9; (with_reducible refine (hdr.out _ (Below.refl _ _)).mono ?_); rintro e w1 ⟨m, q, k, r, rfl, hF, hb⟩; have hle := hid hb.size; replace hS := hid (hz2.out _ _ (hs0.out.call hb)); rw [heap_alloc_size] at hS; clear hb)
      | ((with_reducible refine gateOp (op := .store 27 (.tmp 3) (.tmp 40)) rfl ?_); refine store_mach rfl _ _ rfl w1.heap.size rfl m rfl 27 _ hS.out.f1.m0 ?_; intro w2 p3 ho hsz hbl; replace hS := hid (hS.out.f1.setM hle.out p3 ho hbl); clear p3 ho hsz hbl)
      | ((with_reducible refine gateOp (op := .store 27 (.tmp 5) (.tmp 42)) rfl ?_); refine store_mach rfl _ _ rfl (w1.heap.size + 1) rfl k rfl 27 _ hS.out.f1.m0 ?_; intro w3 p3 ho hsz hbl; replace hS := hid (hS.out.f1.setM (Nat.le_succ_of_le hle.out) p3 ho hbl); clear p3 ho hsz hbl)
      | ((with_reducible refine gate (N := 45) rfl ?_); refine load_mach rfl _ rfl w1.heap.size rfl m hS.out.m1 ?_)
      | ((with_reducible refine gate (N := 47) rfl ?_); refine load_mach rfl _ rfl (w1.heap.size + 1) rfl k hS.out.m0 ?_)
      | (go_at_call 10; (with_reducible refine (hip.out _ m hF.out.1 q k hF.out.2.1 r).mono ?_); rintro e w4 ⟨rfl, hb⟩; have hle7 := hid (hS.out.call hb).le; replace hS := hid (hz1.out _ _ (hS.out.call hb)); clear hb)
      | ((with_reducible refine gateOp (op := .store 27 (.tmp 7) (.tmp 50)) rfl ?_); refine store_mach rfl _ _ rfl w4.heap.size rfl (posAns m q k r).1 rfl 27 _ hS.out.m0 ?_; intro w5 p3 ho hsz hbl; replace hS := hid (hS.out.setM hle7.out p3 ho hbl); clear p3 ho hsz hbl)
      | ((with_reducible refine gate (N := 53) rfl ?_); refine load_mach rfl _ rfl w1.heap.size rfl m hS.out.m2 ?_)
      | ((with_reducible refine gate (N := 55) rfl ?_); refine load_mach rfl _ rfl (w1.heap.size + 1) rfl k hS.out.m1 ?_)
      | (go_at_call 11; (with_reducible refine (hsp.out _ m hF.out.1 q k hF.out.2.1 r).mono ?_); rintro e w6 ⟨rfl, hb⟩; have hle9 := hid (hS.out.call hb).le; replace hS := hid (hz1.out _ _ (hS.out.call hb)); clear hb)
      | ((with_reducible refine gateOp (op := .store 27 (.tmp 9) (.tmp 58)) rfl ?_); refine store_mach rfl _ _ rfl w6.heap.size rfl (posAns m q k r).1 rfl 27 _ hS.out.m0 ?_; intro w7 p3 ho hsz hbl; replace hS := hid (hS.out.setM hle9.out p3 ho hbl); clear p3 ho hsz hbl))
    generalize w1.heap.size = b3 at *
    generalize w4.heap.size = b7 at *
    generalize w6.heap.size = b9 at *
    have hP := hid (fun h => top_law (m := m) (k := k) (q := q) (r := r) h)
    have hPk := hid (posAns_sm m q k r).1
    have hsm := (posAns_sm m q k r).same
    have q1 := hne.out (posAns m q k r).2
    generalize (posAns m q k r).1 = P at *
    generalize (posAns m q k r).2 = pc at *
    go_upto_if 69 with (first
      | ((with_reducible refine gate (N := 64) rfl ?_); refine load_mach_g (by rfl) _ rfl b7 rfl P hS.out.m1 ?_)
      | ((with_reducible refine gate (N := 65) rfl ?_); refine load_mach_g (by rfl) _ rfl b9 rfl P hS.out.m0 ?_))
    clear hsm q1
    by_cases h0 : pc = 0
    · subst h0
      obtain ⟨d, V, A, B, C, E, G, K, cy, hL, hd, eA, eB, eC, eV, hVk, eE, hA, hB, hC, hG, hG1, hG2, hE, eO, eY, hcl, hcp, hK0, hK, hcd⟩ := hP.out rfl
      have cL := hS.out.m3.cL
      rw [hL] at cL
      have pA := hid (fun W => (by have h := hpo.out W m hF.out.1 q 3; rw [eA] at h; exact h : Calls Tryz.prog 12 #[.agg (mcells m), .int .i64 q, .int .i64 3] W fun e w' => ∃ v', e = .returned (.tuple #[v', .int .i64 0]) ∧ Own w' W.heap.size 2 v' (ints A) ∧ Below W.heap.size W w'))
      have pB := hid (fun W => (by have h := hpo.out W k hF.out.2.1 r 3; rw [eB] at h; exact h : Calls Tryz.prog 12 #[.agg (mcells k), .int .i64 r, .int .i64 3] W fun e w' => ∃ v', e = .returned (.tuple #[v', .int .i64 0]) ∧ Own w' W.heap.size 2 v' (ints B) ∧ Below W.heap.size W w'))
      have pC := hid (fun W => (by have h := hpo.out W P hPk.out 0 3; rw [eC] at h; exact h : Calls Tryz.prog 12 #[.agg (mcells P), .int .i64 0, .int .i64 3] W fun e w' => ∃ v', e = .returned (.tuple #[v', .int .i64 0]) ∧ Own w' W.heap.size 2 v' (ints C) ∧ Below W.heap.size W w'))
      have pE := hid (fun W => (by have h := hpo.out W V hVk q 3; rw [eE] at h; exact h : Calls Tryz.prog 12 #[.agg (mcells V), .int .i64 q, .int .i64 3] W fun e w' => ∃ v', e = .returned (.tuple #[v', .int .i64 0]) ∧ Own w' W.heap.size 2 v' (ints E) ∧ Below W.heap.size W w'))
      have pV := hid (fun W => (by have h := him.out W m hF.out.1; rw [eV] at h; exact h : Calls Tryz.prog 14 #[.agg (mcells m)] W fun e w' => e = .returned (.tuple #[.agg (mcells V), .int .i64 0]) ∧ Below W.heap.size W w'))
      have hgA : A.length ≤ 40 := by rw [hA.1]; exact (start_le hd (by omega)).1
      have hgB : B.length ≤ 40 := by rw [hB.1]; exact (start_le hd (by omega)).1
      have hgC : C.length ≤ 40 := by rw [hC]; exact (by rw [show (prtF d (fun u => actP d B (actP d A u)) 3).length = start d 3 from byL_length _ _ _]; exact (start_le hd (by omega)).1)
      have hgE : E.length ≤ 40 := by rw [hE]; exact (by rw [show (prtF d G 3).length = start d 3 from byL_length _ _ _]; exact (start_le hd (by omega)).1)
      have pM := hid (fun W v1 v2 (h1 : Own W 0 2 v1 (ints A)) (h2 : Own W 0 2 v2 (ints B)) => (by have h := hmu.out W (d : Int) 3 v1 v2 A B h1 h2 (by omega) (by omega); rw [hmg.out d A B hd hA hB, ← hC] at h; exact h : Calls Tryz.prog 13 #[.int .i64 d, .int .i64 3, v1, v2] W fun e w' => ∃ v', e = .returned (.tuple #[v', .int .i64 0]) ∧ Own w' W.heap.size 2 v' (ints C) ∧ Below W.heap.size W w'))
      have pI := hid (fun W v1 (h1 : Own W 0 2 v1 (ints A)) => (by have h := hiv.out W d 3 hd (by omega) (by omega) 0 v1 A h1 hA G hG hG1 hG2; rw [← hE] at h; exact h : Calls Tryz.prog 15 #[.int .i64 d, .int .i64 3, v1] W fun e w' => ∃ v', e = .returned (.tuple #[v', .int .i64 0]) ∧ Own w' W.heap.size 2 v' (ints E) ∧ Below W.heap.size W w'))
      have pO := hid (fun W v1 (h1 : Own W 0 2 v1 (ints A)) => (by have h := hoo.out W (d : Int) 3 0 v1 A h1 (by omega); rw [eO] at h; exact h : Calls Tryz.prog 16 #[.int .i64 d, .int .i64 3, v1] W fun e w' => e = .returned (.tuple #[.int .i64 ((ordL cy : Nat) : Int), .int .i64 0]) ∧ Below W.heap.size W w'))
      have pY := hid (fun W => (by have h := hcy.out W m hF.out.1 q 3; rw [eY, ← nats_ints] at h; exact h : Calls Tryz.prog 17 #[.agg (mcells m), .int .i64 q, .int .i64 3] W fun e w' => ∃ v', e = .returned (.tuple #[v', .int .i64 0]) ∧ Own w' W.heap.size 2 v' (nats cy) ∧ Below W.heap.size W w'))
      have hord := hid (show ordL cy = ordL (cy.take cy.length) by rw [List.take_length])
      have hst := hid (fun k c (hc : cy[k]? = some c) => ordL_take hc)
      have hqd := hid (fun k => (show ordL (cy.take k) ∣ K from ordL_dvd fun c hc => hcd c (List.mem_of_mem_take hc)))
      have hle2 := hid (fun k => Nat.le_of_dvd hK0 (hqd.out k))
      have hps := hid (fun k => Nat.pos_of_dvd_of_pos (hqd.out k) hK0)
      have hgc := hid (fun (k c : Nat) (hc : cy[k]? = some c) => (show (nats cy)[k]? = some (.int .i64 (c : Nat)) from by simp [nats, hc]))
      have hcp2 := hid (fun k c (hc : cy[k]? = some c) => hcp c (List.mem_of_getElem? hc))
      have hnl := hid (nats_length cy)
      have h00 := hid (show ordL (cy.take 0) = 1 from rfl)
      rw [hord.out] at pO
      obtain ⟨F, hFd⟩ : ∃ F : Nat → Nat, F = fun k => ordL (cy.take k) := ⟨_, rfl⟩
      have hFe := hid (fun k => (show ordL (cy.take k) = F k by rw [hFd]))
      simp only [hFe.out] at hst hle2 hps h00 pO
      clear hP hPk hL eA eB eC eV hVk eE hA hB hC hG hG1 hG2 hE eO eY hcp hcd hord hqd hFd hFe hK0
      go_upto_region 20 with (first
        | (go_at_call 14; (with_reducible refine (pV.out _).mono ?_); rintro e w8 ⟨rfl, hb⟩; have hle20 := hid (hS.out.call hb).le; replace hS := hid (hz1.out _ _ (hS.out.call hb)); clear hb)
        | ((with_reducible refine gate (N := 73) rfl ?_); refine load_mach rfl _ rfl b3 rfl m hS.out.m3 ?_)
        | (go_at_call 12; (with_reducible refine (pA.out _).mono ?_); rintro e w8 ⟨vA, rfl, hO, hb⟩; replace hS := hid (hS.out.callOwn hb hO); clear hb hO cL)
        | ((with_reducible refine gate (N := 79) rfl ?_); refine load_mach rfl _ rfl (b3 + 1) rfl k hS.out.m3 ?_)
        | (go_at_call 12; (with_reducible refine (pB.out _).mono ?_); rintro e w8 ⟨vB, rfl, hO, hb⟩; replace hS := hid (hS.out.callOwn hb hO); clear hb hO)
        | ((with_reducible refine gate (N := 85) rfl ?_); refine load_mach rfl _ rfl b7 rfl P hS.out.m3 ?_)
        | (go_at_call 12; (with_reducible refine (pC.out _).mono ?_); rintro e w8 ⟨vC, rfl, hO, hb⟩; replace hS := hid (hS.out.callOwn hb hO); clear hb hO)
        | (go_at_call 13; (with_reducible refine (pM.out _ _ _ (hS.out.o2.mono (Nat.zero_le _)) (hS.out.o1.mono (Nat.zero_le _))).mono ?_); rintro e w8 ⟨vM, rfl, hO, hb⟩; replace hS := hid (hS.out.callOwn hb hO); clear hb hO)
        | ((with_reducible refine gate (N := 97) rfl ?_); refine load_mach rfl _ rfl b3 rfl m hS.out.drop.drop.drop.m4 ?_)
        | ((with_reducible refine gateOp (op := .store 27 (.tmp 20) (.tmp 99)) rfl ?_); refine store_mach rfl _ _ rfl w8.heap.size rfl V rfl 27 _ hS.out.m0 ?_; intro w9 p3 ho hsz hbl; replace hS := hid (hS.out.setM hle20.out p3 ho hbl); clear p3 ho hsz hbl)
        | ((with_reducible refine gate (N := 102) rfl ?_); refine load_mach rfl _ rfl w8.heap.size rfl V hS.out.m0 ?_)
        | (go_at_call 12; (with_reducible refine (pE.out _).mono ?_); rintro e w10 ⟨vE, rfl, hO, hb⟩; replace hS := hid (hS.out.callOwn hb hO); clear hb hO)
        | (go_at_call 15; (with_reducible refine (pI.out _ _ (hS.out.drop.drop.o3.mono (Nat.zero_le _))).mono ?_); rintro e w11 ⟨vI, rfl, hO, hb⟩; replace hS := hid (hS.out.callOwn hb hO); clear hb hO)
        | (go_at_call 16; (with_reducible refine (pO.out _ _ (hS.out.drop.drop.drop.o3.mono (Nat.zero_le _))).mono ?_); rintro e w12 ⟨rfl, hb⟩; replace hS := hid (hS.out.call hb); clear hb)
        | ((with_reducible refine gate (N := 120) rfl ?_); refine load_mach rfl _ rfl b3 rfl m hS.out.drop.drop.drop.drop.drop.drop.m4 ?_)
        | (go_at_call 17; (with_reducible refine (pY.out _).mono ?_); rintro e w13 ⟨vY, rfl, hO, hb⟩; replace hS := hid (hS.out.callOwn hb hO); clear hb hO))
      obtain ⟨A1, p1, rfl, _, hA1⟩ := hS.out.o0.form
      have hA2 := hid (fun (h : 0 < cy.length) => (show ∃ ga, A1 = some ⟨ga, 0, none⟩ from by
        rcases hA1 with ⟨_, h1, _⟩ | ⟨ga, h1, _⟩
        · have := congrArg List.length h1; rw [hnl.out, List.length_nil] at this; omega
        · exact ⟨ga, h1⟩))
      clear hA1
      rw [hnl.out] at hS ⊢
      go_upto_region 22 with (
        (go_at_call 18; (first | (with_reducible refine (hlk.out _ _ _ _ _ C hS.out.drop.drop.o3 hS.out.o4 (by omega)).mono ?_) | (with_reducible refine (hlk.out _ _ _ _ _ E hS.out.o2 hS.out.o1 (by omega)).mono ?_)); rintro e w14 ⟨rfl, hb⟩; replace hS := hid (hS.out.call hb); clear hb))
      have hO := hid hS.out.o0
      have hBel := hid hS.out.bel
      clear hS pA pB pC pE pV pM pI pO pY
      go_wp2
      go_loopw [30, 31] (fun ls i wr => ∃ j : Nat, j ≤ cy.length ∧ i = .int .i64 j ∧ ls = .int .i64 (F j : Nat) ∧ Hid (Own wr w.heap.size 2 (.slice A1 cy.length p1) (nats cy)) ∧ Hid (Below w.heap.size w wr)) (fun _ i _ => cy.length - (intOf i).toNat)
      case atStart => exact ⟨0, Nat.zero_le _, rfl, by rw [h00.out]; rfl, hO, hBel⟩
      case round =>
        obtain ⟨j, hj, rfl, rfl, rO, rB⟩ := hrel
        clear hO hBel
        by_cases hlt : j < cy.length
        · have dj : decide ((j : Int) < (cy.length : Int)) = true := decide_eq_true (by omega)
          have j0 : (0 : Int) ≤ (j : Int) := Int.natCast_nonneg _
          have j1 : (j : Int) < (cy.length : Int) := by omega
          obtain ⟨ga, rfl⟩ := hA2.out (by omega)
          obtain ⟨x, hx⟩ : ∃ x, cy[j]? = some x := ⟨_, List.getElem?_eq_getElem hlt⟩
          have hcx := hid (hgc.out j x hx)
          have hx0 := hcp2.out j x hx
          have hsj := hid (hst.out j x hx)
          have hF0 := hps.out j
          have hF1 := hle2.out j
          have hF2 := hle2.out (j + 1)
          have hxl : x ≤ F (j + 1) := by
            rw [hsj.out]
            exact Nat.le_of_dvd (Nat.lcm_pos hF0 hx0) (Nat.dvd_lcm_right _ _)
          have dx : decide ((x : Int) < 1) = false := decide_eq_false (by omega)
          have ck := rO.out.cellAt j _ hcx.out
          clear hx
          go_upto_region 28 with (fail)
          go_quiet (fail)
          replace rO := hid (rO.out.below (below_drewN (Below.refl _ _) nq))
          replace rB := hid (below_drewN rB.out nq)
          clear ck
          generalize World.drewN wr nq = wq at *
          go_wp2
          go_loopw [32, 33] (fun a b wi => ∃ y z : Nat, a = .int .i64 y ∧ b = .int .i64 z ∧ y < 9223372036854775807 ∧ z < 9223372036854775807 ∧ Hid (Nat.gcd y z = Nat.gcd (F j) x) ∧ wi = wq) (fun _ b _ => (intOf b).toNat)
          case atStart => exact ⟨F j, x, rfl, rfl, by omega, by omega, hid rfl, rfl⟩
          case round =>
            obtain ⟨y, z, rfl, rfl, hy, hz, hg, rfl⟩ := hrel
            by_cases h0 : z = 0
            · have d1 : decide ((0 : Int) < (z : Int)) = false := decide_eq_false (by omega)
              have hye : y = Nat.gcd (F j) x := by have h := hg.out; rw [h0, Nat.gcd_zero_right] at h; exact h
              have hy0 : 0 < y := by rw [hye]; exact Nat.gcd_pos_of_pos_right _ hx0
              have hq : F j / y * x = F (j + 1) := by rw [hsj.out, hye]; exact lcm_step (F j) x
              obtain ⟨qv, hqv⟩ : ∃ qv, qv = F j / y := ⟨_, rfl⟩
              rw [← hqv] at hq
              have hql : qv ≤ F j := by rw [hqv]; exact Nat.div_le_self _ _
              have m2 : Int.tdiv (F j : Nat) (y : Int) = (qv : Int) := by rw [hqv, Int.tdiv_eq_ediv_of_nonneg (Int.natCast_nonneg _)]; rfl
              have dz : ¬ (y : Int) = 0 := by omega
              have dz3 : ¬ y = 0 := by omega
              clear hqv hye hg
              have e1 : IntKind.i64.wrap (qv : Int) = (qv : Int) := IntWalk.i64_in _ (by omega)
              have e2 : IntKind.i64.wrap ((qv : Int) * (x : Int)) = ((F (j + 1) : Nat) : Int) := by rw [← Int.natCast_mul, hq]; exact IntWalk.i64_in _ (by omega)
              have ck := rO.out.cellAt j _ hcx.out
              go_upto_region 33 with (fail)
              go_quiet (fail)
              go_wp2
              go_roundw
              case rel => exact ⟨j + 1, by omega, by go_num, rfl, hid (rO.out.below (below_drewN (Below.refl _ _) _)), hid (below_drewN rB.out _)⟩
              case measure => simp [intOf]; omega
            · have d1 : decide ((0 : Int) < (z : Int)) = true := decide_eq_true (by omega)
              have dz : ¬ (z : Int) = 0 := by omega
              have dz3 : ¬ z = 0 := h0
              have m1 : Int.tmod (y : Int) (z : Int) = ((y % z : Nat) : Int) := by rw [Int.tmod_eq_emod_of_nonneg (by omega)]; omega
              have hml := Nat.mod_lt y (show 0 < z by omega)
              have hg2 := hid ((gcd_step y z).trans hg.out)
              generalize hr : y % z = rv at *
              have m2 : (y : Int) % (z : Int) = (rv : Int) := by omega
              replace hr := hid hr
              go_wp2
              go_roundw
              case rel => exact ⟨z, rv, rfl, rfl, hz, by omega, hg2, by first | rfl | trivial⟩
              case measure => simp [intOf]; omega
        · obtain rfl : j = cy.length := by omega
          have dj : decide ((cy.length : Int) < (cy.length : Int)) = false := decide_eq_false (by omega)
          have qf : (((F cy.length : Nat) : Int) == ((F cy.length : Nat) : Int)) = true := by simp
          go_wp2
          go_ret
          exact ⟨rfl, rB.out⟩
    · have d0 : ((pc : Int) != 0) = true := by simpa using h0
      clear hP hPk
      go_wp2
      go_ret
      exact ⟨rfl, hS.out.bel⟩
  · have dl : decide (4096 < l.length) = true := decide_eq_true (by omega)
    rw [dl] at hbg
    go_enter Tryz.func3, Tryz.ntmps3
    go_wp2_with (
      (go_at_call 8; (with_reducible refine (hbg.out).mono ?_); rintro e w1 ⟨rfl, rfl⟩))
    go_ret
    exact ⟨rfl, Below.refl _ _⟩
end Go.Proofs.YthmcdfjijkecfaaGreat
