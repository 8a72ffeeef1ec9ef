/- ClosedWalks: the reference's walk. -/
import Derived.Test.YtapbcfnlcnboeaaWalksM
import Derived.Test.YtapbcfnlcnboeaaSt
import Derived.StillTailTactics
namespace Go.Proofs.Ytapbcfnlcnboeaa
open Go.RowKit
set_option linter.unusedVariables false
set_option linter.unusedSimpArgs false

theorem tabs_get (m : Mach) (l n s q : Nat) (h : q < s) : (tabA m l n s ++ tabA (inv m l s) l n s)[q]? = some (permZ m l q n) := by
  rw [List.getElem?_append_left (by rw [tabA_length]; exact h), tabA_get m l n s q h]
theorem tabs_get2 (m : Mach) (l n s q : Nat) (h : q < s) : (tabA m l n s ++ tabA (inv m l s) l n s)[s + q]? = some (permZ (inv m l s) l q n) := by
  rw [List.getElem?_append_right (by rw [tabA_length]; omega), tabA_length, show s + q - s = q by omega, tabA_get _ l n s q h]
/-- The map of number q, forward and then backward. -/
def both (F B : Nat → Nat → Nat) (s q : Nat) : Nat → Nat := if q < s then F q else B (q - s)
theorem part_both (F B : Nat → Nat → Nat) (s M : Nat) (W : Nat → Int) (i q : Nat) (x : Int) (hq : q < 2 * s) (hx : x = wrap64 (wrap64 (part F B s W i (min q s) (q - s) (both F B s q i)) + wrap64 (W i))) :
    (wv (part F B s W i (min q s) (q - s)) M).set (both F B s q i) (.int .i64 x) = wv (part F B s W i (min (q + 1) s) (q + 1 - s)) M := by
  by_cases h : q < s
  · have e1 : both F B s q i = F q i := by simp [both, h]
    rw [e1] at hx ⊢
    rw [show min q s = q by omega, show q - s = 0 by omega] at hx ⊢
    rw [show min (q + 1) s = q + 1 by omega, show q + 1 - s = 0 by omega]
    exact part_setF F B s M W i q 0 x hx
  · have e1 : both F B s q i = B (q - s) i := by simp [both, h]
    rw [e1] at hx ⊢
    rw [show min q s = s by omega] at hx ⊢
    rw [show min (q + 1) s = s by omega, show q + 1 - s = (q - s) + 1 by omega]
    exact part_setB F B s M W i s (q - s) x hx

set_option maxHeartbeats 8000000 in
set_option maxRecDepth 100000 in
theorem specWalks_any (w : World) (m : Mach) (hk : m.Ok) (n k : Int) :
    Calls Try.prog 32 #[.agg (mcells m), .int .i64 n, .int .i64 k] w fun e w' => e = .returned (.tuple #[.int .i64 (walksAns m n k).1, .int .i64 (walksAns m n k).2]) ∧ Below w.heap.size w w' := by
  have hS := hid ((St.start w).newMB m 31)
  have hcode := hid (fun W => l05Code_any W m hk n)
  by_cases h0 : levelI m n = 0
  · obtain ⟨l, s, n, g, rfl, hn5, hnl, hpw⟩ := levelI_good h0
    rw [h0] at hcode
    have gL := hid g.L
    have l2 := g.l2
    have l3 := g.l3
    have s16 := g.s16
    have s1 := g.s1
    by_cases hnk : ((n : Int) ≤ 6 - (l : Int) ∧ 0 ≤ k ∧ k ≤ 10)
    · obtain ⟨k, rfl⟩ := Int.eq_ofNat_of_zero_le hnk.2.1
      have hk10 : k ≤ 10 := by omega
      have hn6 : (n : Int) ≤ 6 - (l : Int) := hnk.1
      rw [walksAns_0 g h0 ⟨hn6, hk10⟩]
      have hin := hid (fun W => l01In_any (k : Int) 0 10 true (decide_eq_true (by omega)).symm W)
      have d6 : decide ((n : Int) > 6 - (l : Int)) = false := decide_eq_false (by omega)
      have hgr := hid (fun W => l05Tables_any W m l s g hk n (by omega) (by omega))
      have hpl := hid (fun m q => permZ_length m l q n)
      have htl := hid (show (tabA m l n s ++ tabA (inv m l s) l n s).length = 2 * s by rw [List.length_append, tabA_length, tabA_length]; omega)
      have hrow := hid (fun q (hq : q < 2 * s) => (show ∃ L, (tabA m l n s ++ tabA (inv m l s) l n s)[q]? = some L ∧ L.length = pw l n ∧ ∀ i, i < pw l n → L[i]? = some ((both (fun q i => pf m l q n i) (fun q i => pf (inv m l s) l q n i) s q i : Nat) : Int) ∧ both (fun q i => pf m l q n i) (fun q i => pf (inv m l s) l q n i) s q i < pw l n from by
        by_cases h : q < s
        · refine ⟨_, tabs_get m l n s q h, permZ_length _ _ _ _, fun i hi => ?_⟩
          unfold both
          rw [if_pos h]
          exact ⟨permZ_get m l q n i hi, pf_lt g q n i h⟩
        · obtain ⟨p, rfl⟩ : ∃ p, q = s + p := ⟨q - s, by omega⟩
          refine ⟨_, tabs_get2 m l n s p (by omega), permZ_length _ _ _ _, fun i hi => ?_⟩
          unfold both
          rw [if_neg h, show s + p - s = p by omega]
          exact ⟨permZ_get _ l p n i hi, pf_lt (inv_good g) p n i (by omega)⟩))
      have hpos := pw_pos l (by omega) n
      generalize hT : tabA m l n s ++ tabA (inv m l s) l n s = T at *
      replace hT := hid hT
      generalize hFe : (fun q i => pf m l q n i) = F at *
      generalize hBe : (fun q i => pf (inv m l s) l q n i) = B at *
      clear hFe hBe hnk h0 hpl
      replace hk := hid hk; replace g := hid g
      generalize hMn : pw l n = M at *
      replace hMn := hid hMn
      have hmk := fun W : World => run_make_row' (P := Try.prog) 37 2 (.int .i64 0) 8 Try.underlying37 info_i64 rfl .i64 .i64 M (by omega) (by omega) W
      have hmc := hid (toList_madeCells_one (.int .i64 0) M)
      generalize madeCells #[.int .i64 0] M = mc at *
      have hmcs := hid (show mc.size = M by rw [← Array.length_toList, hmc.out, List.length_replicate])
      go_enter Try.func32, Try.ntmps32
      go_wp2_with (first
        | ((with_reducible refine gate (N := 17) rfl ?_); refine load_mach rfl _ rfl w.heap.size rfl m hS.out.g0 ?_)
        | ((with_reducible refine gate (N := 37) rfl ?_); refine load_mach rfl _ rfl w.heap.size rfl m hS.out.g0 ?_)
        | (go_at_call 64; (with_reducible refine (hcode.out _).mono ?_); rintro e w1 ⟨rfl, hb⟩; replace hS := hid (hS.out.call hb); have cL := MB.cL hS.out.g0; rw [gL.out] at cL; clear hb hcode)
        | (go_at_call 47; (with_reducible refine (hin.out _).mono ?_); rintro e w3 ⟨rfl, rfl⟩)
        | (go_at_call 67; (with_reducible refine (hgr.out _).mono ?_); rintro e w2 ⟨vT, rfl, hG, hb⟩; obtain ⟨rows, hS'⟩ := hS.out.callMat hb hG; obtain ⟨gT, cT, rfl, _, _⟩ := hG.blk (fun e => by have h1 := congrArg List.length e; rw [htl.out] at h1; simp at h1; omega); rw [htl.out] at hS' ⊢; replace hS := hid hS'; clear hb hgr cL hG hS'))
      obtain ⟨L0, hL0, hL0l, _⟩ := hrow.out 0 (by omega)
      replace hL0 := hid hL0; replace hL0l := hid hL0l
      have hS2 := hid hS.out.nothing
      have hlt2 := hid hS.out.le
      obtain ⟨r0, c00, hr0⟩ := Asn.row hS.out.g0 0 L0 hL0.out
      obtain ⟨g0, c0, rfl, _, hg0⟩ := hr0.blk (fun e => by have h1 := congrArg List.length e; rw [ints_length, hL0l.out] at h1; simp at h1; omega)
      rw [ints_length, hL0l.out] at c00
      have hT0 := hid (show gT < w2.heap.size from ((show Own w2 _ _ _ rows from hS.out.g0.1).lt gT rfl).2)
      replace c00 := hid c00
      clear hr0
      go_loopw [10, 11] (fun o i wr => ∃ j : Nat, j ≤ M ∧ i = .int .i64 j ∧ o = .int .i64 (wrap64 (totW F B s M k j)) ∧ St w2.heap.size w2 [] wr) (fun _ i _ => M - (intOf i).toNat)
      case atStart => exact ⟨0, Nat.zero_le _, rfl, by simp [totW, wrap64], St.start _⟩
      case round =>
        obtain ⟨j, hj, rfl, rfl, rS⟩ := hrel
        replace rS := hid rS
        have e00 : wr.cell? ⟨gT, 0, none⟩ = some (.slice (some ⟨g0, 0, none⟩) M c0) := (rS.out.bel.cell (p := ⟨gT, 0, none⟩) hT0.out).trans c00.out
        by_cases hjM : j < M
        · have dj : decide ((j : Int) < (M : Int)) = true := decide_eq_true (by omega)
          have rS1 := hid (rS.out.newArr mc M hmcs.out 2 (by omega))
          rw [hmc.out] at rS1
          have rS2 := hid (rS.out.newArr (mc.setIfInBounds j (.int .i64 1)) M (by rw [Array.size_setIfInBounds, hmcs.out]) 2 (by omega))
          rw [Array.toList_setIfInBounds, hmc.out, wv_one] at rS2
          have co := Own.cellAt rS1.out.g0 j _ (List.getElem?_eq_getElem (by rw [List.length_replicate]; exact hjM))
          rw [List.getElem_replicate] at co
          have fo := Own.frozenAt rS1.out.g0 (by rw [List.length_replicate]) j
          go_wp2
          clear co fo e00 rS1
          generalize wr.heap.size = ga at *
          generalize wr.alloc (.cells (mc.setIfInBounds j (.int .i64 1)) 2) = wa at *
          go_loopw [12, 13] (fun v i wb => ∃ t : Nat, t ≤ k ∧ i = .int .i64 t ∧ ∃ g1 c1, v = .slice (some ⟨g1, 0, none⟩) M c1 ∧ St w2.heap.size w2 [Asn.own w2.heap.size 2 (.slice (some ⟨g1, 0, none⟩) M c1) (wv (walkW F B s M j t) M)] wb) (fun _ i _ => k - (intOf i).toNat)
          case atStart => exact ⟨0, Nat.zero_le _, rfl, _, _, rfl, rS2.out⟩
          case round =>
            obtain ⟨t, ht, rfl, g1, c1, rfl, yS⟩ := hrel
            clear rS2
            replace yS := hid yS
            by_cases htk : t < k
            · have dt : decide ((t : Int) < (k : Int)) = true := decide_eq_true (by omega)
              have yS2 := hid (yS.out.newArr mc M hmcs.out 2 (by omega))
              rw [hmc.out, wv_zero] at yS2
              go_wp2
              clear yS
              generalize wr.heap.size = gN at *
              generalize wr.alloc (.cells mc 2) = wn at *
              have hnxt := hid (show walkW F B s M j (t + 1) = (fun p => acc F B s (walkW F B s M j t) p M) from rfl)
              generalize hWf : walkW F B s M j t = Wf at *
              replace hWf := hid hWf
              go_loopw [15] (fun i wc => ∃ x : Nat, x ≤ M ∧ i = .int .i64 x ∧ St w2.heap.size w2 [Asn.own w2.heap.size 2 (.slice (some ⟨gN, 0, none⟩) M M) (wv (fun p => acc F B s Wf p x) M), Asn.own w2.heap.size 2 (.slice (some ⟨g1, 0, none⟩) M c1) (wv Wf M)] wc) (fun i _ => M - (intOf i).toNat)
              case atStart => exact ⟨0, Nat.zero_le _, rfl, yS2.out⟩
              case round =>
                obtain ⟨x, hx, rfl, zS⟩ := hrel
                clear yS2
                replace zS := hid zS
                by_cases hxM : x < M
                · have dx : decide ((x : Int) < (M : Int)) = true := decide_eq_true (by omega)
                  have h2s : (((2 * s : Nat) : Int)) = 2 * (s : Int) := by omega
                  replace h2s := hid h2s
                  generalize hx2 : wrap64 (Wf x) = x2 at *
                  replace hx2 := hid hx2
                  have zS0 := hid (show St w2.heap.size w2 [Asn.own w2.heap.size 2 (.slice (some ⟨gN, 0, none⟩) M M) (wv (part F B s Wf x (min 0 s) (0 - s)) M), Asn.own w2.heap.size 2 (.slice (some ⟨g1, 0, none⟩) M c1) (wv Wf M)] wr from by
                    have h := zS.out
                    rw [show (fun p => acc F B s Wf p x) = part F B s Wf x (min 0 s) (0 - s) from funext fun p => by rw [Nat.zero_min, Nat.zero_sub]; exact (part_zero F B s Wf x p).symm] at h
                    exact h)
                  clear zS
                  go_wp2
                  go_loopw [16] (fun i wd => ∃ q : Nat, q ≤ 2 * s ∧ (x2 = 0 → q = 0) ∧ i = .int .i64 q ∧ St w2.heap.size w2 [Asn.own w2.heap.size 2 (.slice (some ⟨gN, 0, none⟩) M M) (wv (part F B s Wf x (min q s) (q - s)) M), Asn.own w2.heap.size 2 (.slice (some ⟨g1, 0, none⟩) M c1) (wv Wf M)] wd) (fun i _ => 2 * s - (intOf i).toNat)
                  case atStart => exact ⟨0, Nat.zero_le _, fun _ => rfl, rfl, zS0.out⟩
                  case round =>
                    obtain ⟨q, hq, hq0, rfl, zS⟩ := hrel
                    clear zS0
                    replace hq0 := hid hq0
                    replace zS := hid zS
                    have cx := Own.cellAt zS.out.g1 x _ (wv_get Wf M x hxM)
                    rw [hx2.out] at cx
                    by_cases hz : x2 = 0
                    · obtain rfl := hq0.out hz
                      subst hz
                      have hsk := hid (part_skip F B s M Wf x (by rw [hx2.out]))
                      have dq : decide ((0 : Nat) < 2 * s) = true := decide_eq_true (by omega)
                      have dq2 : (0 : Int) < ((2 * s : Nat) : Int) := by omega
                      go_wp2
                      go_roundw
                      case rel => exact ⟨x + 1, by omega, by go_num, by have h := zS.out; rw [Nat.zero_min, Nat.zero_sub, hsk.out] at h; exact h⟩
                      case measure => simp [intOf]; omega
                    · have hzb : (x2 != 0) = true := by rw [bne_iff_ne]; exact hz
                      by_cases hqs : q < 2 * s
                      · obtain ⟨L, hL, hLl, hLg⟩ := hrow.out q hqs
                        obtain ⟨hLx, hLlt⟩ := hLg x hxM
                        have hp := hid (part_both F B s M Wf x q _ hqs rfl)
                        have hm2 := hid ((hS.out.call zS.out.bel).g0)
                        obtain ⟨r, cr, hr⟩ := Asn.row hm2.out q L hL
                        obtain ⟨gr, cc, rfl, _, _⟩ := hr.blk (fun e => by have h1 := congrArg List.length e; rw [ints_length, hLl] at h1; simp at h1; omega)
                        rw [ints_length, hLl] at cr hr
                        have cR := hr.cellAt x (.int .i64 ((both F B s q x : Nat) : Int)) (by simp [ints, hLx])
                        have cN := Own.cellAt zS.out.g0 (both F B s q x) _ (wv_get _ M _ hLlt)
                        have fN := Own.frozenAt zS.out.g0 (wv_length _ M) (both F B s q x)
                        have dq : decide ((q : Int) < ((2 * s : Nat) : Int)) = true := decide_eq_true (by omega)
                        rw [hx2.out] at hp
                        clear hL hLl hLg hLx hm2 hr
                        generalize wrap64 (part F B s Wf x (min q s) (q - s) (both F B s q x)) = x1 at *
                        generalize both F B s q x = fq at *
                        go_upto_region 22 with (fail)
                        refine wp_region_still_tail 24 (by kernel_rfl) (by kernel_rfl) ?_
                        simp only [List.take_succ_cons, List.take_zero, List.drop_succ_cons, List.drop_zero]
                        repeat still_step
                        try refine wpStill_nil ?_
                        change wpList _ _ _ _ _ wr.drew
                        have cN2 : wr.drew.cell? ⟨gN, fq, none⟩ = some (.int .i64 x1) := cN
                        have fN2 : wr.drew.frozen? ⟨gN, fq, none⟩ = false := fN
                        have zD := hid (zS.out.drew.setOwn (wv_length _ _) fq (.int .i64 (wrap64 (x1 + x2))) hLlt)
                        rw [hp.out] at zD
                        clear cN fN cR cr cx zS hp
                        generalize wr.drew = wd at *
                        go_wp2
                        go_roundw
                        case rel => exact ⟨q + 1, by omega, fun h => absurd h hz, by go_num, zD.out⟩
                        case measure => simp [intOf]; omega
                      · obtain rfl : q = 2 * s := by omega
                        go_wp2
                        go_roundw
                        case rel => exact ⟨x + 1, by omega, by go_num, by have h := zS.out; rw [show min (2 * s) s = s by omega, show 2 * s - s = s by omega] at h; exact h⟩
                        case measure => simp [intOf]; omega
                · obtain rfl : M = x := by omega
                  go_wp2
                  go_roundw
                  case rel => exact ⟨t + 1, by omega, by go_num, _, _, rfl, by rw [hnxt.out]; exact zS.out.f1.drop⟩
                  case measure => simp [intOf]; omega
            · obtain rfl : k = t := by omega
              have hcj := Own.cellAt yS.out.g0 j _ (wv_get (walkW F B s M j k) M j hjM)
              have hw64 := hid (wrap64_add (totW F B s M k j) (walkW F B s M j k j))
              have htot := hid (show totW F B s M k (j + 1) = totW F B s M k j + walkW F B s M j k j from rfl)
              generalize walkW F B s M j k j = x1 at *
              generalize hx2 : wrap64 (totW F B s M k j) = x2 at *
              generalize hx3 : wrap64 x1 = x3 at *
              go_wp2
              go_roundw
              case rel => exact ⟨j + 1, by omega, by go_num, by rw [htot.out, ← hw64.out], yS.out.drop⟩
              case measure => simp [intOf]; omega
        · obtain rfl : M = j := by omega
          go_wp2
          go_ret2
          exact ⟨rfl, (hS.out.call rS.out.bel).bel⟩
    · rw [walksAns_2 g h0 hnk]
      replace hk := hid hk; replace g := hid g
      by_cases hn6 : (n : Int) ≤ 6 - (l : Int)
      · have hin := hid (fun W => l01In_any k 0 10 false (decide_eq_false (fun h => hnk ⟨hn6, h⟩)).symm W)
        have d6 : decide ((n : Int) > 6 - (l : Int)) = false := decide_eq_false (by omega)
        clear hnk h0
        go_enter Try.func32, Try.ntmps32
        go_wp2_with (first
          | ((with_reducible refine gate (N := 17) rfl ?_); refine load_mach rfl _ rfl w.heap.size rfl m hS.out.g0 ?_)
          | (go_at_call 64; (with_reducible refine (hcode.out _).mono ?_); rintro e w1 ⟨rfl, hb⟩; replace hS := hid (hS.out.call hb); have cL := MB.cL hS.out.g0; rw [gL.out] at cL; clear hb hcode)
          | (go_at_call 47; (with_reducible refine (hin.out _).mono ?_); rintro e w3 ⟨rfl, rfl⟩))
        go_ret2
        exact ⟨rfl, hS.out.bel⟩
      · have d6 : decide ((n : Int) > 6 - (l : Int)) = true := decide_eq_true (by omega)
        clear hnk h0
        go_enter Try.func32, Try.ntmps32
        go_wp2_with (first
          | ((with_reducible refine gate (N := 17) rfl ?_); refine load_mach rfl _ rfl w.heap.size rfl m hS.out.g0 ?_)
          | (go_at_call 64; (with_reducible refine (hcode.out _).mono ?_); rintro e w1 ⟨rfl, hb⟩; replace hS := hid (hS.out.call hb); have cL := MB.cL hS.out.g0; rw [gL.out] at cL; clear hb hcode))
        go_ret2
        exact ⟨rfl, hS.out.bel⟩
  · rw [walksAns_c h0]
    have hc : levelI m n = 1 ∨ levelI m n = 2 := by rcases levelI_cases m n with h | h; exact absurd h h0; exact h
    generalize levelI m n = c at *
    clear h0
    rcases hc with rfl | rfl
    all_goals
      go_enter Try.func32, Try.ntmps32
      go_wp2_with (first
        | ((with_reducible refine gate (N := 17) rfl ?_); refine load_mach rfl _ rfl w.heap.size rfl m hS.out.g0 ?_)
        | (go_at_call 64; (with_reducible refine (hcode.out _).mono ?_); rintro e w1 ⟨rfl, hb⟩; replace hS := hid (hS.out.call hb); clear hb hcode))
      go_ret2
      exact ⟨rfl, hS.out.bel⟩
end Go.Proofs.Ytapbcfnlcnboeaa
