/- ClosedWalks: the program's walk. -/
import Derived.Test.YtapbcfnlcnboeaaWalksM
import Derived.Test.YtapbcfnlcnboeaaSt
namespace Go.Proofs.Ytapbcfnlcnboeaa
open Go.RowKit

set_option maxHeartbeats 8000000 in
set_option maxRecDepth 100000 in
theorem implWalks_any (w : World) (m : Mach) (hk : m.Ok) (n k : Int) :
    Calls Try.prog 33 #[.agg (mcells m), .int .i64 n, .int .i64 k] w fun e w' => e = .returned (.tuple #[.int .i64 (walksAns m n k).1, .int .i64 (walksAns m n k).2]) ∧ Below w.heap.size w w' := by
  have hS := hid ((St.start w).newMB m 31)
  have hcode := hid (fun W => levelCode_any W m hk n)
  by_cases h0 : levelI m n = 0
  · obtain ⟨l, s, n, g, rfl, hn5, hnl, hpw⟩ := levelI_good h0
    rw [h0] at hcode
    have gL := hid g.L
    have l2 := g.l2
    have l3 := g.l3
    have s16 := g.s16
    have s1 := g.s1
    by_cases hnk : ((n : Int) ≤ 6 - (l : Int) ∧ 0 ≤ k ∧ k ≤ 10)
    · obtain ⟨k, rfl⟩ := Int.eq_ofNat_of_zero_le hnk.2.1
      have hk10 : k ≤ 10 := by omega
      have hn6 : (n : Int) ≤ 6 - (l : Int) := hnk.1
      rw [walksAns_0 g h0 ⟨hn6, hk10⟩]
      have hin := hid (fun W => within_any (k : Int) 0 10 true (decide_eq_true (by omega)).symm W)
      have d6 : decide ((n : Int) > 6 - (l : Int)) = false := decide_eq_false (by omega)
      have hgr := hid (fun W hW => graph_any w.heap.size W m hW l s g n (by omega) (by omega))
      have hpl := hid (fun m q => permZ_length m l q n)
      have hgetF := hid (fun q i (hi : i < pw l n) => permZ_get m l q n i hi)
      have hgetB := hid (fun q i (hi : i < pw l n) => permZ_get (inv m l s) l q n i hi)
      have hltF := hid (fun q i (hq : q < s) => pf_lt g q n i hq)
      have hltB := hid (fun q i (hq : q < s) => pf_lt (inv_good g) q n i hq)
      have hpos := pw_pos l (by omega) n
      generalize hI : inv m l s = I at *
      generalize hFe : (fun q i => pf m l q n i) = F at *
      generalize hBe : (fun q i => pf I l q n i) = B at *
      have hgF := hid (fun q i (hi : i < pw l n) => (show (permZ m l q n)[i]? = some ((F q i : Nat) : Int) by rw [← hFe]; exact hgetF.out q i hi))
      have hgB := hid (fun q i (hi : i < pw l n) => (show (permZ I l q n)[i]? = some ((B q i : Nat) : Int) by rw [← hBe]; exact hgetB.out q i hi))
      have hlF := hid (fun q i (hq : q < s) => (show F q i < pw l n by rw [← hFe]; exact hltF.out q i hq))
      have hlB := hid (fun q i (hq : q < s) => (show B q i < pw l n by rw [← hBe]; exact hltB.out q i hq))
      clear hgetF hgetB hltF hltB hFe hBe hnk h0
      replace hI := hid hI
      replace hk := hid hk; replace g := hid g
      generalize hMn : pw l n = M at *
      replace hMn := hid hMn
      have hmk := fun W : World => run_make_row' (P := Try.prog) 37 2 (.int .i64 0) 8 Try.underlying37 info_i64 rfl .i64 .i64 M (by omega) (by omega) W
      have hmc := hid (toList_madeCells_one (.int .i64 0) M)
      generalize madeCells #[.int .i64 0] M = mc at *
      have hmcs := hid (show mc.size = M by rw [← Array.length_toList, hmc.out, List.length_replicate])
      go_enter Try.func33, Try.ntmps33
      go_wp2_with (first
        | ((with_reducible refine gate (N := 17) rfl ?_); refine load_mach rfl _ rfl w.heap.size rfl m hS.out.m0 ?_)
        | (go_at_call 65; (with_reducible refine (hcode.out _).mono ?_); rintro e w1 ⟨rfl, hb⟩; replace hS := hid (hS.out.call hb); have cL := MB.cL hS.out.g0; rw [gL.out] at cL; clear hb hcode)
        | (go_at_call 50; (with_reducible refine (hin.out _).mono ?_); rintro e w3 ⟨rfl, rfl⟩)
        | (go_at_call 66; (with_reducible refine (hgr.out _ hS.out.m0).mono ?_); rintro e w2 ⟨vA, vB, rfl, hG, hb⟩; replace hS := hid (hS.out.call hb); obtain ⟨gA, cA, rfl, _, _⟩ := hG.2.1.blk (fun e => by have h1 := congrArg List.length e; rw [tabA_length] at h1; simp at h1; omega); obtain ⟨gB, cB, rfl, _, _⟩ := hG.2.2.blk (fun e => by have h1 := congrArg List.length e; rw [tabA_length] at h1; simp at h1; omega); rw [tabA_length, tabA_length] at hG; replace hG := hid hG; have hgc0 := hG.out.c0; clear hb hgr cL))
      generalize w1.heap.size = G at *
      go_loopw [10, 39] (fun o i wr => ∃ j : Nat, j ≤ M ∧ i = .int .i64 j ∧ o = .int .i64 (wrap64 (totW F B s M k j)) ∧ St w2.heap.size w2 [] wr) (fun _ i _ => M - (intOf i).toNat)
      case atStart => exact ⟨0, Nat.zero_le _, rfl, by simp [totW, wrap64], St.start _⟩
      case round =>
        obtain ⟨j, hj, rfl, rfl, rS⟩ := hrel
        clear hgc0
        have hgc0 := (hG.out.below rS.bel).c0
        replace rS := hid rS
        by_cases hjM : j < M
        · have rS1 := hid (rS.out.newArr mc M hmcs.out 2 (by omega))
          rw [hmc.out] at rS1
          have rS2 := hid (rS.out.newArr (mc.setIfInBounds j (.int .i64 1)) M (by rw [Array.size_setIfInBounds, hmcs.out]) 2 (by omega))
          rw [Array.toList_setIfInBounds, hmc.out, wv_one] at rS2
          have co := Own.cellAt rS1.out.g0 j _ (List.getElem?_eq_getElem (by rw [List.length_replicate]; exact hjM))
          rw [List.getElem_replicate] at co
          have fo := Own.frozenAt rS1.out.g0 (by rw [List.length_replicate]) j
          have hgc1 := (hG.out.below rS1.out.bel).c0
          go_wp2
          clear co fo rS1 hgc0 hgc1
          generalize wr.heap.size = ga at *
          generalize wr.alloc (.cells (mc.setIfInBounds j (.int .i64 1)) 2) = wa at *
          go_loopw [12, 51] (fun v i wb => ∃ t : Nat, t ≤ k ∧ i = .int .i64 t ∧ ∃ g1 c1, v = .slice (some ⟨g1, 0, none⟩) M c1 ∧ St w2.heap.size w2 [Asn.own w2.heap.size 2 (.slice (some ⟨g1, 0, none⟩) M c1) (wv (walkW F B s M j t) M)] wb) (fun _ i _ => k - (intOf i).toNat)
          case atStart => exact ⟨0, Nat.zero_le _, rfl, _, _, rfl, rS2.out⟩
          case round =>
            obtain ⟨t, ht, rfl, g1, c1, rfl, yS⟩ := hrel
            clear rS2
            have hgc0 := (hG.out.below yS.bel).c0
            replace yS := hid yS
            by_cases htk : t < k
            · have yS2 := hid (yS.out.newArr mc M hmcs.out 2 (by omega))
              rw [hmc.out, wv_zero] at yS2
              go_wp2
              clear yS hgc0
              generalize wr.heap.size = gN at *
              generalize wr.alloc (.cells mc 2) = wn at *
              have hnxt := hid (show walkW F B s M j (t + 1) = (fun p => acc F B s (walkW F B s M j t) p M) from rfl)
              generalize hWf : walkW F B s M j t = Wf at *
              replace hWf := hid hWf
              go_loopw [60] (fun i wc => ∃ x : Nat, x ≤ M ∧ i = .int .i64 x ∧ St w2.heap.size w2 [Asn.own w2.heap.size 2 (.slice (some ⟨gN, 0, none⟩) M M) (wv (fun p => acc F B s Wf p x) M), Asn.own w2.heap.size 2 (.slice (some ⟨g1, 0, none⟩) M c1) (wv Wf M)] wc) (fun i _ => M - (intOf i).toNat)
              case atStart => exact ⟨0, Nat.zero_le _, rfl, yS2.out⟩
              case round =>
                obtain ⟨x, hx, rfl, zS⟩ := hrel
                clear yS2
                have hgc1 := (hG.out.below zS.bel).c1
                replace zS := hid zS
                by_cases hxM : x < M
                · have cx := Own.cellAt zS.out.g1 x _ (wv_get Wf M x hxM)
                  generalize hx2 : wrap64 (Wf x) = x2 at *
                  replace hx2 := hid hx2
                  have zS0 := hid (show St w2.heap.size w2 [Asn.own w2.heap.size 2 (.slice (some ⟨gN, 0, none⟩) M M) (wv (part F B s Wf x 0 0) M), Asn.own w2.heap.size 2 (.slice (some ⟨g1, 0, none⟩) M c1) (wv Wf M)] wr from by
                    have h := zS.out
                    rw [show (fun p => acc F B s Wf p x) = part F B s Wf x 0 0 from funext fun p => (part_zero F B s Wf x p).symm] at h
                    exact h)
                  clear zS
                  go_wp2
                  clear cx hgc1
                  go_loopw [70] (fun i wd => ∃ q : Nat, q ≤ s ∧ i = .int .i64 q ∧ St w2.heap.size w2 [Asn.own w2.heap.size 2 (.slice (some ⟨gN, 0, none⟩) M M) (wv (part F B s Wf x q q) M), Asn.own w2.heap.size 2 (.slice (some ⟨g1, 0, none⟩) M c1) (wv Wf M)] wd) (fun i _ => s - (intOf i).toNat)
                  case atStart => exact ⟨0, Nat.zero_le _, rfl, zS0.out⟩
                  case round =>
                    obtain ⟨q, hq, rfl, zS⟩ := hrel
                    clear zS0
                    replace zS := hid zS
                    by_cases hqs : q < s
                    · have hp := hid (part_setF F B s M Wf x q q _ rfl)
                      have hp2 := hid (part_setB F B s M Wf x (q + 1) q _ rfl)
                      rw [hx2.out] at hp hp2
                      have hFl := hlF.out q x hqs
                      have hBl := hlB.out q x hqs
                      have hG1 := hid (hG.out.below zS.out.bel)
                      have hgc1 := hG1.out.c1
                      obtain ⟨rA, cA1, hrA⟩ := hG1.out.2.1.row q _ (tabA_get m l n s q hqs)
                      obtain ⟨g3, c3, rfl, _, _⟩ := hrA.blk (fun e => by have h1 := congrArg List.length e; have h2 := hpl.out m q; rw [ints_length, h2] at h1; simp at h1; omega)
                      rw [ints_length, hpl.out m q] at hrA cA1
                      have cA2 := hrA.cellAt x (.int .i64 ((F q x : Nat) : Int)) (by simp [ints, hgF.out q x hxM])
                      have cN := Own.cellAt zS.out.g0 (F q x) _ (wv_get _ M _ hFl)
                      have fN := Own.frozenAt zS.out.g0 (wv_length _ M) (F q x)
                      have z1 := hid (zS.out.setOwn (wv_length _ _) (F q x) (.int .i64 (wrap64 (wrap64 (part F B s Wf x q q (F q x)) + x2))) hFl)
                      rw [hp.out] at z1
                      have dq : decide ((q : Int) < (s : Int)) = true := decide_eq_true (by omega)
                      clear hG1 hrA zS hp
                      generalize wrap64 (part F B s Wf x q q (F q x)) = x1 at *
                      generalize F q x = fq at *
                      go_upto_region 23 with (fail)
                      clear cN fN cA1 cA2 hgc1
                      generalize wr.setCell ⟨gN, fq, none⟩ (.int .i64 (wrap64 (x1 + x2))) = wd at *
                      have hG2 := hid (hG.out.below z1.out.bel)
                      have hgc2 := hG2.out.c2
                      obtain ⟨rB', cB1, hrB⟩ := hG2.out.2.2.row q _ (tabA_get I l n s q hqs)
                      obtain ⟨g4, c4, rfl, _, _⟩ := hrB.blk (fun e => by have h1 := congrArg List.length e; have h2 := hpl.out I q; rw [ints_length, h2] at h1; simp at h1; omega)
                      rw [ints_length, hpl.out I q] at hrB cB1
                      have cB2 := hrB.cellAt x (.int .i64 ((B q x : Nat) : Int)) (by simp [ints, hgB.out q x hxM])
                      have cN2 := Own.cellAt z1.out.g0 (B q x) _ (wv_get _ M _ hBl)
                      have fN2 := Own.frozenAt z1.out.g0 (wv_length _ M) (B q x)
                      have z2 := hid (z1.out.setOwn (wv_length _ _) (B q x) (.int .i64 (wrap64 (wrap64 (part F B s Wf x (q + 1) q (B q x)) + x2))) hBl)
                      rw [hp2.out] at z2
                      clear hG2 hrB z1 hp2
                      generalize wrap64 (part F B s Wf x (q + 1) q (B q x)) = x3 at *
                      generalize B q x = bq at *
                      go_wp2
                      go_roundw
                      case rel => exact ⟨q + 1, by omega, by go_num, z2.out⟩
                      case measure => simp [intOf]; omega
                    · obtain rfl : s = q := by omega
                      go_wp2
                      go_roundw
                      case rel => exact ⟨x + 1, by omega, by go_num, zS.out⟩
                      case measure => simp [intOf]; omega
                · obtain rfl : M = x := by omega
                  go_wp2
                  go_roundw
                  case rel => exact ⟨t + 1, by omega, by go_num, _, _, rfl, by rw [hnxt.out]; exact zS.out.f1.drop⟩
                  case measure => simp [intOf]; omega
            · obtain rfl : k = t := by omega
              have hcj := Own.cellAt yS.out.g0 j _ (wv_get (walkW F B s M j k) M j hjM)
              have hw64 := hid (wrap64_add (totW F B s M k j) (walkW F B s M j k j))
              have htot := hid (show totW F B s M k (j + 1) = totW F B s M k j + walkW F B s M j k j from rfl)
              generalize walkW F B s M j k j = x1 at *
              generalize hx2 : wrap64 (totW F B s M k j) = x2 at *
              generalize hx3 : wrap64 x1 = x3 at *
              go_wp2
              go_roundw
              case rel => exact ⟨j + 1, by omega, by go_num, by rw [htot.out, ← hw64.out], yS.out.drop⟩
              case measure => simp [intOf]; omega
        · obtain rfl : M = j := by omega
          go_wp2
          go_ret2
          exact ⟨rfl, (hS.out.call rS.out.bel).bel⟩
    · rw [walksAns_2 g h0 hnk]
      replace hk := hid hk; replace g := hid g
      by_cases hn6 : (n : Int) ≤ 6 - (l : Int)
      · have hin := hid (fun W => within_any k 0 10 false (decide_eq_false (fun h => hnk ⟨hn6, h⟩)).symm W)
        have d6 : decide ((n : Int) > 6 - (l : Int)) = false := decide_eq_false (by omega)
        clear hnk h0
        go_enter Try.func33, Try.ntmps33
        go_wp2_with (first
          | ((with_reducible refine gate (N := 17) rfl ?_); refine load_mach rfl _ rfl w.heap.size rfl m hS.out.m0 ?_)
          | (go_at_call 65; (with_reducible refine (hcode.out _).mono ?_); rintro e w1 ⟨rfl, hb⟩; replace hS := hid (hS.out.call hb); have cL := MB.cL hS.out.g0; rw [gL.out] at cL; clear hb hcode)
          | (go_at_call 50; (with_reducible refine (hin.out _).mono ?_); rintro e w3 ⟨rfl, rfl⟩))
        go_ret2
        exact ⟨rfl, hS.out.bel⟩
      · have d6 : decide ((n : Int) > 6 - (l : Int)) = true := decide_eq_true (by omega)
        clear hnk h0
        go_enter Try.func33, Try.ntmps33
        go_wp2_with (first
          | ((with_reducible refine gate (N := 17) rfl ?_); refine load_mach rfl _ rfl w.heap.size rfl m hS.out.m0 ?_)
          | (go_at_call 65; (with_reducible refine (hcode.out _).mono ?_); rintro e w1 ⟨rfl, hb⟩; replace hS := hid (hS.out.call hb); have cL := MB.cL hS.out.g0; rw [gL.out] at cL; clear hb hcode))
        go_ret2
        exact ⟨rfl, hS.out.bel⟩
  · rw [walksAns_c h0]
    have hc : levelI m n = 1 ∨ levelI m n = 2 := by rcases levelI_cases m n with h | h; exact absurd h h0; exact h
    generalize levelI m n = c at *
    clear h0
    rcases hc with rfl | rfl
    all_goals
      go_enter Try.func33, Try.ntmps33
      go_wp2_with (first
        | ((with_reducible refine gate (N := 17) rfl ?_); refine load_mach rfl _ rfl w.heap.size rfl m hS.out.m0 ?_)
        | (go_at_call 65; (with_reducible refine (hcode.out _).mono ?_); rintro e w1 ⟨rfl, hb⟩; replace hS := hid (hS.out.call hb); clear hb hcode))
      go_ret2
      exact ⟨rfl, hS.out.bel⟩
end Go.Proofs.Ytapbcfnlcnboeaa
