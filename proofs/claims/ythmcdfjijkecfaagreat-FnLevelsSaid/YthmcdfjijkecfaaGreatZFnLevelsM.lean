/- What the proof of FnLevels leans on, part 13 of 19. -/
import Derived.Test.YthmcdfjijkecfaaGreatZFnLevelsL
import Derived.StillTailTactics
import Derived.Shelf.SortM.Plain
import Derived.Shelf.SortM.SortNone
import Derived.Sort.OwnSortedInts
/- ClosedWalks: the reference's walk. -/
namespace Go.Proofs.YthmcdfjijkecfaaGreat
open Go.RowKit
set_option linter.unusedVariables false
set_option linter.unusedSimpArgs false

theorem tabs_get (m : Mach) (l n s q : Nat) (h : q < s) : (tabA m l n s ++ tabA (inv m l s) l n s)[q]? = some (permZ m l q n) := by
  rw [List.getElem?_append_left (by rw [tabA_length]; exact h), tabA_get m l n s q h]
theorem tabs_get2 (m : Mach) (l n s q : Nat) (h : q < s) : (tabA m l n s ++ tabA (inv m l s) l n s)[s + q]? = some (permZ (inv m l s) l q n) := by
  rw [List.getElem?_append_right (by rw [tabA_length]; omega), tabA_length, show s + q - s = q by omega, tabA_get _ l n s q h]
/-- The map of number q, forward and then backward. -/
def both (F B : Nat → Nat → Nat) (s q : Nat) : Nat → Nat := if q < s then F q else B (q - s)
theorem part_both (F B : Nat → Nat → Nat) (s M : Nat) (W : Nat → Int) (i q : Nat) (x : Int) (hq : q < 2 * s) (hx : x = wrap64 (wrap64 (part F B s W i (min q s) (q - s) (both F B s q i)) + wrap64 (W i))) :
    (wv (part F B s W i (min q s) (q - s)) M).set (both F B s q i) (.int .i64 x) = wv (part F B s W i (min (q + 1) s) (q + 1 - s)) M := by
  by_cases h : q < s
  · have e1 : both F B s q i = F q i := by simp [both, h]
    rw [e1] at hx ⊢
    rw [show min q s = q by omega, show q - s = 0 by omega] at hx ⊢
    rw [show min (q + 1) s = q + 1 by omega, show q + 1 - s = 0 by omega]
    exact part_setF F B s M W i q 0 x hx
  · have e1 : both F B s q i = B (q - s) i := by simp [both, h]
    rw [e1] at hx ⊢
    rw [show min q s = s by omega] at hx ⊢
    rw [show min (q + 1) s = s by omega, show q + 1 - s = (q - s) + 1 by omega]
    exact part_setB F B s M W i s (q - s) x hx

set_option maxHeartbeats 8000000 in
set_option maxRecDepth 100000 in
theorem specWalks_any (w : World) (m : Mach) (hk : m.Ok) (n k : Int) :
    Calls Tryz.prog 70 #[.agg (mcells m), .int .i64 n, .int .i64 k] w fun e w' => e = .returned (.tuple #[.int .i64 (walksAns m n k).1, .int .i64 (walksAns m n k).2]) ∧ Below w.heap.size w w' := by
  have hS := hid ((St.start w).newMB m 27)
  have hcode := hid (fun W => l05Code_any W m hk n)
  by_cases h0 : levelI m n = 0
  · obtain ⟨l, s, n, g, rfl, hn5, hnl, hpw⟩ := levelI_good h0
    rw [h0] at hcode
    have gL := hid g.L
    have l2 := g.l2
    have l3 := g.l3
    have s16 := g.s16
    have s1 := g.s1
    by_cases hnk : ((n : Int) ≤ 6 - (l : Int) ∧ 0 ≤ k ∧ k ≤ 10)
    · obtain ⟨k, rfl⟩ := Int.eq_ofNat_of_zero_le hnk.2.1
      have hk10 : k ≤ 10 := by omega
      have hn6 : (n : Int) ≤ 6 - (l : Int) := hnk.1
      rw [walksAns_0 g h0 ⟨hn6, hk10⟩]
      have hin := hid (fun W => l01In_any (k : Int) 0 10 true (decide_eq_true (by omega)).symm W)
      have d6 : decide ((n : Int) > 6 - (l : Int)) = false := decide_eq_false (by omega)
      have hgr := hid (fun W => l05Tables_any W m l s g hk n (by omega) (by omega))
      have hpl := hid (fun m q => permZ_length m l q n)
      have htl := hid (show (tabA m l n s ++ tabA (inv m l s) l n s).length = 2 * s by rw [List.length_append, tabA_length, tabA_length]; omega)
      have hrow := hid (fun q (hq : q < 2 * s) => (show ∃ L, (tabA m l n s ++ tabA (inv m l s) l n s)[q]? = some L ∧ L.length = pw l n ∧ ∀ i, i < pw l n → L[i]? = some ((both (fun q i => pf m l q n i) (fun q i => pf (inv m l s) l q n i) s q i : Nat) : Int) ∧ both (fun q i => pf m l q n i) (fun q i => pf (inv m l s) l q n i) s q i < pw l n from by
        by_cases h : q < s
        · refine ⟨_, tabs_get m l n s q h, permZ_length _ _ _ _, fun i hi => ?_⟩
          unfold both
          rw [if_pos h]
          exact ⟨permZ_get m l q n i hi, pf_lt g q n i h⟩
        · obtain ⟨p, rfl⟩ : ∃ p, q = s + p := ⟨q - s, by omega⟩
          refine ⟨_, tabs_get2 m l n s p (by omega), permZ_length _ _ _ _, fun i hi => ?_⟩
          unfold both
          rw [if_neg h, show s + p - s = p by omega]
          exact ⟨permZ_get _ l p n i hi, pf_lt (inv_good g) p n i (by omega)⟩))
      have hpos := pw_pos l (by omega) n
      generalize hT : tabA m l n s ++ tabA (inv m l s) l n s = T at *
      replace hT := hid hT
      generalize hFe : (fun q i => pf m l q n i) = F at *
      generalize hBe : (fun q i => pf (inv m l s) l q n i) = B at *
      clear hFe hBe hnk h0 hpl
      replace hk := hid hk; replace g := hid g
      generalize hMn : pw l n = M at *
      replace hMn := hid hMn
      have hmk := fun W : World => run_make_row' (P := Tryz.prog) 32 2 (.int .i64 0) 8 Tryz.underlying32 info_i64 rfl .i64 .i64 M (by omega) (by omega) W
      have hmc := hid (toList_madeCells_one (.int .i64 0) M)
      generalize madeCells #[.int .i64 0] M = mc at *
      have hmcs := hid (show mc.size = M by rw [← Array.length_toList, hmc.out, List.length_replicate])
      go_enter Tryz.func70, Tryz.ntmps70
      go_wp2_with (first
        | ((with_reducible refine gate (N := 17) rfl ?_); refine load_mach rfl _ rfl w.heap.size rfl m hS.out.g0 ?_)
        | ((with_reducible refine gate (N := 37) rfl ?_); refine load_mach rfl _ rfl w.heap.size rfl m hS.out.g0 ?_)
        | (go_at_call 119; (with_reducible refine (hcode.out _).mono ?_); rintro e w1 ⟨rfl, hb⟩; replace hS := hid (hS.out.call hb); have cL := MB.cL hS.out.g0; rw [gL.out] at cL; clear hb hcode)
        | (go_at_call 142; (with_reducible refine (hin.out _).mono ?_); rintro e w3 ⟨rfl, rfl⟩)
        | (go_at_call 114; (with_reducible refine (hgr.out _).mono ?_); rintro e w2 ⟨vT, rfl, hG, hb⟩; obtain ⟨rows, hS'⟩ := hS.out.callMat hb hG; obtain ⟨gT, cT, rfl, _, _⟩ := hG.blk (fun e => by have h1 := congrArg List.length e; rw [htl.out] at h1; simp at h1; omega); rw [htl.out] at hS' ⊢; replace hS := hid hS'; clear hb hgr cL hG hS'))
      obtain ⟨L0, hL0, hL0l, _⟩ := hrow.out 0 (by omega)
      replace hL0 := hid hL0; replace hL0l := hid hL0l
      have hS2 := hid hS.out.nothing
      have hlt2 := hid hS.out.le
      obtain ⟨r0, c00, hr0⟩ := Asn.row hS.out.g0 0 L0 hL0.out
      obtain ⟨g0, c0, rfl, _, hg0⟩ := hr0.blk (fun e => by have h1 := congrArg List.length e; rw [ints_length, hL0l.out] at h1; simp at h1; omega)
      rw [ints_length, hL0l.out] at c00
      have hT0 := hid (show gT < w2.heap.size from ((show Own w2 _ _ _ rows from hS.out.g0.1).lt gT rfl).2)
      replace c00 := hid c00
      clear hr0
      go_loopw [10, 11] (fun o i wr => ∃ j : Nat, j ≤ M ∧ i = .int .i64 j ∧ o = .int .i64 (wrap64 (totW F B s M k j)) ∧ St w2.heap.size w2 [] wr) (fun _ i _ => M - (intOf i).toNat)
      case atStart => exact ⟨0, Nat.zero_le _, rfl, by simp [totW, wrap64], St.start _⟩
      case round =>
        obtain ⟨j, hj, rfl, rfl, rS⟩ := hrel
        replace rS := hid rS
        have e00 : wr.cell? ⟨gT, 0, none⟩ = some (.slice (some ⟨g0, 0, none⟩) M c0) := (rS.out.bel.cell (p := ⟨gT, 0, none⟩) hT0.out).trans c00.out
        by_cases hjM : j < M
        · have dj : decide ((j : Int) < (M : Int)) = true := decide_eq_true (by omega)
          have rS1 := hid (rS.out.newArr mc M hmcs.out 2 (by omega))
          rw [hmc.out] at rS1
          have rS2 := hid (rS.out.newArr (mc.setIfInBounds j (.int .i64 1)) M (by rw [Array.size_setIfInBounds, hmcs.out]) 2 (by omega))
          rw [Array.toList_setIfInBounds, hmc.out, wv_one] at rS2
          have co := Own.cellAt rS1.out.g0 j _ (List.getElem?_eq_getElem (by rw [List.length_replicate]; exact hjM))
          rw [List.getElem_replicate] at co
          have fo := Own.frozenAt rS1.out.g0 (by rw [List.length_replicate]) j
          go_wp2
          clear co fo e00 rS1
          generalize wr.heap.size = ga at *
          generalize wr.alloc (.cells (mc.setIfInBounds j (.int .i64 1)) 2) = wa at *
          go_loopw [12, 13] (fun v i wb => ∃ t : Nat, t ≤ k ∧ i = .int .i64 t ∧ ∃ g1 c1, v = .slice (some ⟨g1, 0, none⟩) M c1 ∧ St w2.heap.size w2 [Asn.own w2.heap.size 2 (.slice (some ⟨g1, 0, none⟩) M c1) (wv (walkW F B s M j t) M)] wb) (fun _ i _ => k - (intOf i).toNat)
          case atStart => exact ⟨0, Nat.zero_le _, rfl, _, _, rfl, rS2.out⟩
          case round =>
            obtain ⟨t, ht, rfl, g1, c1, rfl, yS⟩ := hrel
            clear rS2
            replace yS := hid yS
            by_cases htk : t < k
            · have dt : decide ((t : Int) < (k : Int)) = true := decide_eq_true (by omega)
              have yS2 := hid (yS.out.newArr mc M hmcs.out 2 (by omega))
              rw [hmc.out, wv_zero] at yS2
              go_wp2
              clear yS
              generalize wr.heap.size = gN at *
              generalize wr.alloc (.cells mc 2) = wn at *
              have hnxt := hid (show walkW F B s M j (t + 1) = (fun p => acc F B s (walkW F B s M j t) p M) from rfl)
              generalize hWf : walkW F B s M j t = Wf at *
              replace hWf := hid hWf
              go_loopw [15] (fun i wc => ∃ x : Nat, x ≤ M ∧ i = .int .i64 x ∧ St w2.heap.size w2 [Asn.own w2.heap.size 2 (.slice (some ⟨gN, 0, none⟩) M M) (wv (fun p => acc F B s Wf p x) M), Asn.own w2.heap.size 2 (.slice (some ⟨g1, 0, none⟩) M c1) (wv Wf M)] wc) (fun i _ => M - (intOf i).toNat)
              case atStart => exact ⟨0, Nat.zero_le _, rfl, yS2.out⟩
              case round =>
                obtain ⟨x, hx, rfl, zS⟩ := hrel
                clear yS2
                replace zS := hid zS
                by_cases hxM : x < M
                · have dx : decide ((x : Int) < (M : Int)) = true := decide_eq_true (by omega)
                  have h2s : (((2 * s : Nat) : Int)) = 2 * (s : Int) := by omega
                  replace h2s := hid h2s
                  generalize hx2 : wrap64 (Wf x) = x2 at *
                  replace hx2 := hid hx2
                  have zS0 := hid (show St w2.heap.size w2 [Asn.own w2.heap.size 2 (.slice (some ⟨gN, 0, none⟩) M M) (wv (part F B s Wf x (min 0 s) (0 - s)) M), Asn.own w2.heap.size 2 (.slice (some ⟨g1, 0, none⟩) M c1) (wv Wf M)] wr from by
                    have h := zS.out
                    rw [show (fun p => acc F B s Wf p x) = part F B s Wf x (min 0 s) (0 - s) from funext fun p => by rw [Nat.zero_min, Nat.zero_sub]; exact (part_zero F B s Wf x p).symm] at h
                    exact h)
                  clear zS
                  go_wp2
                  go_loopw [16] (fun i wd => ∃ q : Nat, q ≤ 2 * s ∧ (x2 = 0 → q = 0) ∧ i = .int .i64 q ∧ St w2.heap.size w2 [Asn.own w2.heap.size 2 (.slice (some ⟨gN, 0, none⟩) M M) (wv (part F B s Wf x (min q s) (q - s)) M), Asn.own w2.heap.size 2 (.slice (some ⟨g1, 0, none⟩) M c1) (wv Wf M)] wd) (fun i _ => 2 * s - (intOf i).toNat)
                  case atStart => exact ⟨0, Nat.zero_le _, fun _ => rfl, rfl, zS0.out⟩
                  case round =>
                    obtain ⟨q, hq, hq0, rfl, zS⟩ := hrel
                    clear zS0
                    replace hq0 := hid hq0
                    replace zS := hid zS
                    have cx := Own.cellAt zS.out.g1 x _ (wv_get Wf M x hxM)
                    rw [hx2.out] at cx
                    by_cases hz : x2 = 0
                    · obtain rfl := hq0.out hz
                      subst hz
                      have hsk := hid (part_skip F B s M Wf x (by rw [hx2.out]))
                      have dq : decide ((0 : Nat) < 2 * s) = true := decide_eq_true (by omega)
                      have dq2 : (0 : Int) < ((2 * s : Nat) : Int) := by omega
                      go_wp2
                      go_roundw
                      case rel => exact ⟨x + 1, by omega, by go_num, by have h := zS.out; rw [Nat.zero_min, Nat.zero_sub, hsk.out] at h; exact h⟩
                      case measure => simp [intOf]; omega
                    · have hzb : (x2 != 0) = true := by rw [bne_iff_ne]; exact hz
                      by_cases hqs : q < 2 * s
                      · obtain ⟨L, hL, hLl, hLg⟩ := hrow.out q hqs
                        obtain ⟨hLx, hLlt⟩ := hLg x hxM
                        have hp := hid (part_both F B s M Wf x q _ hqs rfl)
                        have hm2 := hid ((hS.out.call zS.out.bel).g0)
                        obtain ⟨r, cr, hr⟩ := Asn.row hm2.out q L hL
                        obtain ⟨gr, cc, rfl, _, _⟩ := hr.blk (fun e => by have h1 := congrArg List.length e; rw [ints_length, hLl] at h1; simp at h1; omega)
                        rw [ints_length, hLl] at cr hr
                        have cR := hr.cellAt x (.int .i64 ((both F B s q x : Nat) : Int)) (by simp [ints, hLx])
                        have cN := Own.cellAt zS.out.g0 (both F B s q x) _ (wv_get _ M _ hLlt)
                        have fN := Own.frozenAt zS.out.g0 (wv_length _ M) (both F B s q x)
                        have dq : decide ((q : Int) < ((2 * s : Nat) : Int)) = true := decide_eq_true (by omega)
                        rw [hx2.out] at hp
                        clear hL hLl hLg hLx hm2 hr
                        generalize wrap64 (part F B s Wf x (min q s) (q - s) (both F B s q x)) = x1 at *
                        generalize both F B s q x = fq at *
                        go_upto_region 22 with (fail)
                        refine wp_region_still_tail 24 (by kernel_rfl) (by kernel_rfl) ?_
                        simp only [List.take_succ_cons, List.take_zero, List.drop_succ_cons, List.drop_zero]
                        repeat still_step
                        try refine wpStill_nil ?_
                        change wpList _ _ _ _ _ wr.drew
                        have cN2 : wr.drew.cell? ⟨gN, fq, none⟩ = some (.int .i64 x1) := cN
                        have fN2 : wr.drew.frozen? ⟨gN, fq, none⟩ = false := fN
                        have zD := hid (zS.out.drew.setOwn (wv_length _ _) fq (.int .i64 (wrap64 (x1 + x2))) hLlt)
                        rw [hp.out] at zD
                        clear cN fN cR cr cx zS hp
                        generalize wr.drew = wd at *
                        go_wp2
                        go_roundw
                        case rel => exact ⟨q + 1, by omega, fun h => absurd h hz, by go_num, zD.out⟩
                        case measure => simp [intOf]; omega
                      · obtain rfl : q = 2 * s := by omega
                        go_wp2
                        go_roundw
                        case rel => exact ⟨x + 1, by omega, by go_num, by have h := zS.out; rw [show min (2 * s) s = s by omega, show 2 * s - s = s by omega] at h; exact h⟩
                        case measure => simp [intOf]; omega
                · obtain rfl : M = x := by omega
                  go_wp2
                  go_roundw
                  case rel => exact ⟨t + 1, by omega, by go_num, _, _, rfl, by rw [hnxt.out]; exact zS.out.f1.drop⟩
                  case measure => simp [intOf]; omega
            · obtain rfl : k = t := by omega
              have hcj := Own.cellAt yS.out.g0 j _ (wv_get (walkW F B s M j k) M j hjM)
              have hw64 := hid (wrap64_add (totW F B s M k j) (walkW F B s M j k j))
              have htot := hid (show totW F B s M k (j + 1) = totW F B s M k j + walkW F B s M j k j from rfl)
              generalize walkW F B s M j k j = x1 at *
              generalize hx2 : wrap64 (totW F B s M k j) = x2 at *
              generalize hx3 : wrap64 x1 = x3 at *
              go_wp2
              go_roundw
              case rel => exact ⟨j + 1, by omega, by go_num, by rw [htot.out, ← hw64.out], yS.out.drop⟩
              case measure => simp [intOf]; omega
        · obtain rfl : M = j := by omega
          go_wp2
          go_ret2
          exact ⟨rfl, (hS.out.call rS.out.bel).bel⟩
    · rw [walksAns_2 g h0 hnk]
      replace hk := hid hk; replace g := hid g
      by_cases hn6 : (n : Int) ≤ 6 - (l : Int)
      · have hin := hid (fun W => l01In_any k 0 10 false (decide_eq_false (fun h => hnk ⟨hn6, h⟩)).symm W)
        have d6 : decide ((n : Int) > 6 - (l : Int)) = false := decide_eq_false (by omega)
        clear hnk h0
        go_enter Tryz.func70, Tryz.ntmps70
        go_wp2_with (first
          | ((with_reducible refine gate (N := 17) rfl ?_); refine load_mach rfl _ rfl w.heap.size rfl m hS.out.g0 ?_)
          | (go_at_call 119; (with_reducible refine (hcode.out _).mono ?_); rintro e w1 ⟨rfl, hb⟩; replace hS := hid (hS.out.call hb); have cL := MB.cL hS.out.g0; rw [gL.out] at cL; clear hb hcode)
          | (go_at_call 142; (with_reducible refine (hin.out _).mono ?_); rintro e w3 ⟨rfl, rfl⟩))
        go_ret2
        exact ⟨rfl, hS.out.bel⟩
      · have d6 : decide ((n : Int) > 6 - (l : Int)) = true := decide_eq_true (by omega)
        clear hnk h0
        go_enter Tryz.func70, Tryz.ntmps70
        go_wp2_with (first
          | ((with_reducible refine gate (N := 17) rfl ?_); refine load_mach rfl _ rfl w.heap.size rfl m hS.out.g0 ?_)
          | (go_at_call 119; (with_reducible refine (hcode.out _).mono ?_); rintro e w1 ⟨rfl, hb⟩; replace hS := hid (hS.out.call hb); have cL := MB.cL hS.out.g0; rw [gL.out] at cL; clear hb hcode))
        go_ret2
        exact ⟨rfl, hS.out.bel⟩
  · rw [walksAns_c h0]
    have hc : levelI m n = 1 ∨ levelI m n = 2 := by rcases levelI_cases m n with h | h; exact absurd h h0; exact h
    generalize levelI m n = c at *
    clear h0
    rcases hc with rfl | rfl
    all_goals
      go_enter Tryz.func70, Tryz.ntmps70
      go_wp2_with (first
        | ((with_reducible refine gate (N := 17) rfl ?_); refine load_mach rfl _ rfl w.heap.size rfl m hS.out.g0 ?_)
        | (go_at_call 119; (with_reducible refine (hcode.out _).mono ?_); rintro e w1 ⟨rfl, hb⟩; replace hS := hid (hS.out.call hb); clear hb hcode))
      go_ret2
      exact ⟨rfl, hS.out.bel⟩
end Go.Proofs.YthmcdfjijkecfaaGreat

/- DistancesFrom: what the program answers. -/
namespace Go.Proofs.YthmcdfjijkecfaaGreat
open Go.RowKit
set_option linter.unusedVariables false
set_option linter.unusedSimpArgs false
-- @LONG

theorem pw_few {l n : Nat} (h2 : 2 ≤ l) (h3 : l ≤ 3) (h : n + l ≤ 7) : Few (pw l n) := by
  have hl : l = 2 ∨ l = 3 := by omega
  rcases hl with rfl | rfl
  · have : n = 0 ∨ n = 1 ∨ n = 2 ∨ n = 3 ∨ n = 4 ∨ n = 5 := by omega
    rcases this with rfl | rfl | rfl | rfl | rfl | rfl <;> simp [Few, pw]
  · have : n = 0 ∨ n = 1 ∨ n = 2 ∨ n = 3 ∨ n = 4 := by omega
    rcases this with rfl | rfl | rfl | rfl | rfl <;> simp [Few, pw]
/-- The maps of a level, forward and then backward. -/
def lvT (m : Mach) (l s n : Nat) : Nat → Nat → Nat := both (fun q i => pf m l q n i) (fun q i => pf (inv m l s) l q n i) s
theorem lvT_lt {m : Mach} {l s n : Nat} (g : Good m l s) (j fr : Nat) (hj : j < 2 * s) (hfr : fr < pw l n) : lvT m l s n j fr < pw l n := by
  unfold lvT both
  split
  · rename_i h; exact pf_lt g j n fr h
  · exact pf_lt (inv_good g) (j - s) n fr (by omega)
theorem lvT_A {m : Mach} {l s n : Nat} (p : Nat) (hp : p < s) : ∃ row, (tabA m l n s)[p]? = some row ∧ row.length = pw l n ∧ ∀ i, i < pw l n → row[i]? = some ((lvT m l s n p i : Nat) : Int) := by
  refine ⟨_, tabA_get m l n s p hp, permZ_length _ _ _ _, fun i hi => ?_⟩
  unfold lvT both
  rw [if_pos hp]
  exact permZ_get m l p n i hi
theorem lvT_B {m : Mach} {l s n : Nat} (p : Nat) (hp : p < s) : ∃ row, (tabA (inv m l s) l n s)[p]? = some row ∧ row.length = pw l n ∧ ∀ i, i < pw l n → row[i]? = some ((lvT m l s n (s + p) i : Nat) : Int) := by
  refine ⟨_, tabA_get (inv m l s) l n s p hp, permZ_length _ _ _ _, fun i hi => ?_⟩
  unfold lvT both
  rw [if_neg (by omega), show s + p - s = p by omega]
  exact permZ_get (inv m l s) l p n i hi
theorem lvT_M {m : Mach} {l s n : Nat} (p : Nat) (hp : p < 2 * s) : ∃ row, (tabA m l n s ++ tabA (inv m l s) l n s)[p]? = some row ∧ row.length = pw l n ∧ ∀ i, i < pw l n → row[i]? = some ((lvT m l s n p i : Nat) : Int) := by
  by_cases h : p < s
  · obtain ⟨row, h1, h2⟩ := lvT_A (m := m) (l := l) (s := s) (n := n) p h
    exact ⟨row, by rw [List.getElem?_append_left (by rw [tabA_length]; exact h)]; exact h1, h2⟩
  · obtain ⟨q, rfl⟩ : ∃ q, p = s + q := ⟨p - s, by omega⟩
    obtain ⟨row, h1, h2⟩ := lvT_B (m := m) (l := l) (s := s) (n := n) q (by omega)
    exact ⟨row, by rw [List.getElem?_append_right (by rw [tabA_length]; omega), tabA_length, show s + q - s = q by omega]; exact h1, h2⟩
/-- Is x the number of a word of the level? -/
def inLv (m : Mach) (n : Int) (x : Int) : Prop := 0 ≤ x ∧ x < ((pw m.L.toNat n.toNat : Nat) : Int)
open Classical in
/-- What DistancesFrom answers. -/
noncomputable def disAns (m : Mach) (n k : Int) : List Int × Int :=
  if levelI m n = 0 then (if inLv m n k then ((treeT (lvT m m.L.toNat m.S.toNat n.toNat) m.S.toNat (pw m.L.toNat n.toNat) k.toNat).far, 0) else ([], 2)) else ([], levelI m n)
theorem disAns_c {m : Mach} {n k : Int} (h : levelI m n ≠ 0) : disAns m n k = ([], levelI m n) := by unfold disAns; rw [if_neg h]
theorem disAns_2 {m : Mach} {n k : Int} (h : levelI m n = 0) (hk : ¬ inLv m n k) : disAns m n k = ([], 2) := by unfold disAns; rw [if_pos h, if_neg hk]
theorem disAns_0 {m : Mach} {l s n k : Nat} (g : Good m l s) (h : levelI m n = 0) (hk : k < pw l n) : disAns m n k = ((treeT (lvT m l s n) s (pw l n) k).far, 0) := by
  unfold disAns inLv
  rw [if_pos h, g.L, g.S, if_pos ⟨by omega, by simp only [Int.toNat_natCast]; omega⟩]
  rfl
theorem disAns_len (m : Mach) (n k : Int) : (disAns m n k).1.length ≤ 243 := by
  by_cases h : levelI m n = 0
  · by_cases hk : inLv m n k
    · obtain ⟨l, s, n', gd, rfl, hn5, hnl, hpw⟩ := levelI_good h
      obtain ⟨k', rfl⟩ := Int.eq_ofNat_of_zero_le hk.1
      have hk' : k' < pw l n' := by have := hk.2; rw [gd.L] at this; simp only [Int.toNat_natCast] at this; omega
      rw [disAns_0 gd h hk']
      have ok : TrOk (pw l n') (treeT (lvT m l s n') s (pw l n') k') := growT_ok hk' (fun j fr hj hf => lvT_lt gd j fr hj hf) _
      show (treeT _ _ _ _).far.length ≤ 243
      rw [ok.fl]; exact hpw
    · rw [disAns_2 h hk]; exact Nat.zero_le _
  · rw [disAns_c h]; exact Nat.zero_le _
set_option maxHeartbeats 1000000 in
set_option maxRecDepth 100000 in
theorem gIsWord_any (w : World) (G n : Nat) (hG : w.cell? ⟨G, 0, none⟩ = some (.int .i64 (n : Nat))) (hn : n ≤ 243) (k : Int) (r : Bool) (hr : r = decide (0 ≤ k ∧ k < (n : Int))) :
    Calls Tryz.prog 110 #[.pointer (some ⟨G, 0, none⟩), .int .i64 k] w fun e w' => e = .returned (.bool r) ∧ w = w' := by
  have ew : IntKind.i64.wrap ((n : Int) - 1) = (n : Int) - 1 := IntWalk.i64_in _ (by omega)
  have hin := hid (fun W => within_any k 0 ((n : Int) - 1) r (by rw [hr]; exact decide_eq_decide.2 (by omega)) W)
  clear hr
  go_enter Tryz.func110, Tryz.ntmps110
  go_wp2_with (
    (go_at_call 86; (with_reducible refine (hin.out _).mono ?_); rintro e w3 ⟨rfl, rfl⟩))
  go_ret
  exact ⟨rfl, rfl⟩
set_option maxHeartbeats 4000000 in
set_option maxRecDepth 100000 in
theorem implDis_any (w : World) (m : Mach) (hk : m.Ok) (n k : Int) :
    Calls Tryz.prog 20 #[.agg (mcells m), .int .i64 n, .int .i64 k] w fun e w' => ∃ v, e = .returned (.tuple #[v, .int .i64 (disAns m n k).2]) ∧ Own w' w.heap.size 2 v (ints (disAns m n k).1) ∧ Below w.heap.size w w' := by
  have hS := hid ((St.start w).newMB m 27)
  have hcode := hid (fun W => levelCode_any W m hk n)
  by_cases h0 : levelI m n = 0
  · obtain ⟨l, s, n, gd, rfl, hn5, hnl, hpw⟩ := levelI_good h0
    rw [h0] at hcode
    have hgr := hid (fun W hW => graph_any w.heap.size W m hW l s gd n (by omega) (by omega))
    by_cases hkk : inLv m n k
    · obtain ⟨k, rfl⟩ := Int.eq_ofNat_of_zero_le hkk.1
      have hk' : k < pw l n := by have := hkk.2; rw [gd.L] at this; simp only [Int.toNat_natCast] at this; omega
      rw [disAns_0 gd h0 hk']
      have hiw := hid (fun W G (hG : W.cell? ⟨G, 0, none⟩ = some (.int .i64 (pw l n : Nat))) => gIsWord_any W G (pw l n) hG hpw (k : Int) true (decide_eq_true (by omega)).symm)
      have htr := hid (fun W G vA vB (hG : GB W G (pw l n) vA vB (tabA m l n s) (tabA (inv m l s) l n s)) => tree_any W G (pw l n) s k vA vB _ _ hG (pw_few gd.l2 gd.l3 hnl) hk' (tabA_length _ _ _ _) (tabA_length _ _ _ _) gd.s1 gd.s16 (lvT m l s n) (fun p hp => lvT_A p hp) (fun p hp => lvT_B p hp) (fun j fr hj hf => lvT_lt gd j fr hj hf))
      replace hk := hid hk; replace gd := hid gd
      clear hkk h0
      generalize treeT (lvT m l s n) s (pw l n) k = t at *
      go_enter Tryz.func20, Tryz.ntmps20
      go_wp2_with (first
        | ((with_reducible refine gate (N := 10) rfl ?_); refine load_mach rfl _ rfl w.heap.size rfl m hS.out.m0 ?_)
        | (go_at_call 108; (with_reducible refine (hcode.out _).mono ?_); rintro e w1 ⟨rfl, hb⟩; replace hS := hid (hS.out.call hb); clear hb hcode)
        | (go_at_call 109; (with_reducible refine (hgr.out _ hS.out.m0).mono ?_); rintro e w2 ⟨vA, vB, rfl, hG, hb⟩; replace hS := hid (hS.out.call hb); replace hG := hid hG; clear hb hgr)
        | (go_at_call 110; (with_reducible refine (hiw.out _ _ hG.out.c0).mono ?_); rintro e w3 ⟨rfl, rfl⟩)
        | (go_at_call 111; (with_reducible refine (htr.out _ _ _ _ hG.out).mono ?_); rintro e w4 ⟨bt, gf, gw, vq, rows, rfl, hT⟩; (have hle := hid hS.out.le); replace hS := hid (hS.out.outer hT); (have q1 := (show w4.cell? ⟨bt, 1, none⟩ = some (Value.slice (some ⟨gf, 0, none⟩) (pw l n) (pw l n)) from cell_of_row _ _ 1 _ _ _ hT.k0)); (have hO := hid hT.o2); replace hT := hid hT))
      go_ret2
      exact ⟨_, rfl, hO.out.mono hle.out, hS.out.bel⟩
    · rw [disAns_2 h0 hkk]
      have hkk' : ¬ (0 ≤ k ∧ k < ((pw l n : Nat) : Int)) := fun h => hkk ⟨h.1, by rw [gd.L]; exact h.2⟩
      have hiw := hid (fun W G (hG : W.cell? ⟨G, 0, none⟩ = some (.int .i64 (pw l n : Nat))) => gIsWord_any W G (pw l n) hG hpw k false (decide_eq_false hkk').symm)
      replace hk := hid hk; replace gd := hid gd
      clear hkk h0 hkk'
      go_enter Tryz.func20, Tryz.ntmps20
      go_wp2_with (first
        | ((with_reducible refine gate (N := 10) rfl ?_); refine load_mach rfl _ rfl w.heap.size rfl m hS.out.m0 ?_)
        | (go_at_call 108; (with_reducible refine (hcode.out _).mono ?_); rintro e w1 ⟨rfl, hb⟩; replace hS := hid (hS.out.call hb); clear hb hcode)
        | (go_at_call 109; (with_reducible refine (hgr.out _ hS.out.m0).mono ?_); rintro e w2 ⟨vA, vB, rfl, hG, hb⟩; replace hS := hid (hS.out.call hb); replace hG := hid hG; clear hb hgr)
        | (go_at_call 110; (with_reducible refine (hiw.out _ _ hG.out.c0).mono ?_); rintro e w3 ⟨rfl, rfl⟩))
      go_ret2
      exact ⟨_, rfl, Own.nil _ _ _, hS.out.bel⟩
  · rw [disAns_c h0]
    have dn : ((levelI m n) != 0) = true := by simpa using h0
    generalize levelI m n = cd at *
    replace hk := hid hk
    clear h0
    go_enter Tryz.func20, Tryz.ntmps20
    go_wp2_with (first
      | ((with_reducible refine gate (N := 10) rfl ?_); refine load_mach rfl _ rfl w.heap.size rfl m hS.out.m0 ?_)
      | (go_at_call 108; (with_reducible refine (hcode.out _).mono ?_); rintro e w1 ⟨rfl, hb⟩; replace hS := hid (hS.out.call hb); clear hb hcode))
    go_ret2
    exact ⟨_, rfl, Own.nil _ _ _, hS.out.bel⟩
end Go.Proofs.YthmcdfjijkecfaaGreat

/- DiameterOf: what the program answers. -/
namespace Go.Proofs.YthmcdfjijkecfaaGreat
open Go.RowKit
set_option linter.unusedVariables false
set_option linter.unusedSimpArgs false
-- @LONG

/-- The greatest number so far; nothing if a word isn't reached. -/
def diaL (f : Nat → List Int) : Nat → Option Int
  | 0 => some 0
  | k + 1 => match diaL f k with
    | none => none
    | some o => if -1 ∈ f k then none else some ((f k).foldl max o)
theorem foldl_max_ge (l : List Int) : ∀ a, a ≤ l.foldl max a := by
  induction l with
  | nil => intro a; exact Int.le_refl _
  | cons x l ih => intro a; exact Int.le_trans (Int.le_max_left a x) (ih (max a x))
theorem foldl_max_le (l : List Int) (b : Int) : ∀ a, a ≤ b → (∀ x ∈ l, x ≤ b) → l.foldl max a ≤ b := by
  induction l with
  | nil => intro a h _; exact h
  | cons x l ih => intro a h hx; exact ih (max a x) (Int.max_le.2 ⟨h, hx x (by simp)⟩) fun y hy => hx y (by simp [hy])
theorem foldl_max_max (l : List Int) : ∀ a b, l.foldl max (max a b) = max a (l.foldl max b) := by
  induction l with
  | nil => intro a b; rfl
  | cons x l ih => intro a b; simp only [List.foldl_cons]; rw [Int.max_assoc, ih]
theorem diaL_none {f : Nat → List Int} {k : Nat} (h : diaL f k = none) : ∀ j, diaL f (k + j) = none
  | 0 => h
  | j + 1 => by show diaL f (k + j + 1) = none; rw [diaL, diaL_none h j]
theorem diaL_bad {f : Nat → List Int} {k n : Nat} (hk : k < n) (h : -1 ∈ f k) : diaL f n = none := by
  obtain ⟨j, rfl⟩ : ∃ j, n = k + 1 + j := ⟨n - (k + 1), by omega⟩
  refine diaL_none ?_ j
  rw [diaL]
  cases diaL f k with
  | none => rfl
  | some o => simp [h]
theorem diaL_step {f : Nat → List Int} {k : Nat} {o : Int} (h : diaL f k = some o) (hn : ¬ -1 ∈ f k) : diaL f (k + 1) = some ((f k).foldl max o) := by
  rw [diaL, h]; simp [hn]
theorem diaL_range {f : Nat → List Int} {b : Int} (hb : 0 ≤ b) : ∀ (k : Nat) (o : Int), (∀ j, j < k → ∀ x ∈ f j, x ≤ b) → diaL f k = some o → 0 ≤ o ∧ o ≤ b
  | 0, o, _, h => by rw [diaL] at h; injection h with h; omega
  | k + 1, o, hf, h => by
    rw [diaL] at h
    cases hd : diaL f k with
    | none => rw [hd] at h; cases h
    | some o' =>
      have ih := diaL_range hb k o' (fun j hj => hf j (by omega)) hd
      rw [hd] at h
      dsimp only at h
      split at h
      · cases h
      · injection h with h
        rw [← h]
        exact ⟨Int.le_trans ih.1 (foldl_max_ge _ _), foldl_max_le _ b _ ih.2 (hf k (by omega))⟩
def diaR : Option Int → Int × Int
  | none => (0, 5)
  | some o => (o, 0)
/-- The distances from a word of a level. -/
def farL (m : Mach) (d s n k : Nat) : List Int := (treeT (lvT m d s n) s (pw d n) k).far
open Classical in
/-- What DiameterOf answers. -/
noncomputable def diaAns (m : Mach) (n : Int) : Int × Int :=
  if levelI m n = 0 then diaR (diaL (farL m m.L.toNat m.S.toNat n.toNat) (pw m.L.toNat n.toNat)) else (0, levelI m n)
theorem diaAns_c {m : Mach} {n : Int} (h : levelI m n ≠ 0) : diaAns m n = (0, levelI m n) := by unfold diaAns; rw [if_neg h]
theorem diaAns_0 {m : Mach} {d s n : Nat} (g : Good m d s) (h : levelI m n = 0) : diaAns m n = diaR (diaL (farL m d s n) (pw d n)) := by
  unfold diaAns
  rw [if_pos h, g.L, g.S]
  rfl
theorem farL_ok {m : Mach} {d s n k : Nat} (g : Good m d s) (hk : k < pw d n) : TrOk (pw d n) (treeT (lvT m d s n) s (pw d n) k) := growT_ok hk (fun j fr hj hf => lvT_lt g j fr hj hf) _
theorem TrOk.far_cases {n : Nat} {t : Tr} (h : TrOk n t) {x : Int} (hx : x ∈ t.far) : x = -1 ∨ (0 ≤ x ∧ x ≤ n) := by
  obtain ⟨i, hi, rfl⟩ := List.getElem_of_mem hx
  rcases h.fb i _ (List.getElem?_eq_getElem hi) with ⟨h1, _⟩ | ⟨_, h1, h2⟩
  · exact .inl h1
  · have := h.ql; exact .inr ⟨h1, by omega⟩
theorem if_max (a b : Int) : (if a < b then b else a) = max a b := by rw [Int.max_def]; split <;> split <;> omega
set_option maxHeartbeats 1000000 in
set_option maxRecDepth 100000 in
theorem slMax_any (w : World) (b1 : Nat) (v1 : Value) (x0 : Int) (l : List Int) (h1 : Own w b1 2 v1 (ints (x0 :: l))) (hl : l.length < 1000000) :
    Calls Tryz.prog 117 #[v1] w fun e w' => e = .returned (.int .i64 (l.foldl max x0)) ∧ w = w' := by
  obtain ⟨g, c, rfl, _, _⟩ := h1.blk (by simp [ints])
  rw [ints_length] at h1 ⊢
  have c0 := h1.cellAt 0 (.int .i64 x0) (by simp [ints])
  have hc := hid (fun (j : Nat) (x : Int) (hx : l[j]? = some x) => h1.cellAt (j + 1) (.int .i64 x) (by simp [ints, hx]))
  rw [List.length_cons] at h1 ⊢
  have hst := hid (fun (j : Nat) (x : Int) (hx : l[j]? = some x) => (show (l.take (j + 1)).foldl max x0 = max ((l.take j).foldl max x0) x by
    rw [List.take_add_one, hx]; simp))
  have hfull := hid (List.take_length (l := l))
  have hget := hid (fun (j : Nat) (hj : j < l.length) => (show ∃ x, l[j]? = some x from ⟨_, List.getElem?_eq_getElem hj⟩))
  clear h1
  obtain ⟨F, hF⟩ : ∃ F : Nat → Int, F = fun j => (l.take j).foldl max x0 := ⟨_, rfl⟩
  have hF0 := hid (show F 0 = x0 by rw [hF]; rfl)
  have hFs := hid (fun (j : Nat) (x : Int) (hx : l[j]? = some x) => (show F (j + 1) = max (F j) x by rw [hF]; exact hst.out j x hx))
  have hFe := hid (show l.foldl max x0 = F l.length by rw [hF]; dsimp only; rw [hfull.out])
  rw [hFe.out]
  clear hst hF hFe hfull
  generalize l.length = n at *
  go_enter Tryz.func117, Tryz.ntmps117
  go_wp2
  go_loop [3, 4] (fun m i => ∃ k : Nat, k ≤ n ∧ i = .int .i64 (k + 1 : Nat) ∧ m = .int .i64 (F k)) (fun _ i => n + 1 - (intOf i).toNat)
  case atStart => exact ⟨0, Nat.zero_le _, rfl, by rw [hF0.out]⟩
  case round =>
    obtain ⟨k, hk, rfl, rfl⟩ := hrel
    clear c0
    by_cases hlt : k < n
    · obtain ⟨x, hx⟩ := hget.out k hlt
      have ck := hc.out k x hx
      have hf := hid (hFs.out k x hx)
      have dk : decide (((k + 1 : Nat) : Int) < ((n + 1 : Nat) : Int)) = true := decide_eq_true (by omega)
      have k0 : (0 : Int) ≤ ((k + 1 : Nat) : Int) := Int.natCast_nonneg _
      have k1 : ((k + 1 : Nat) : Int) < ((n + 1 : Nat) : Int) := by omega
      clear hx
      generalize hk1 : k + 1 = k' at *
      replace hk1 := hid hk1
      go_wp2
      go_round
      case rel => exact ⟨k + 1, by omega, by rw [hk1.out]; go_num, i64_eq (by rw [hk1.out, hf.out]; exact if_max _ _)⟩
      case measure => simp [intOf]; omega
    · obtain rfl : k = n := by omega
      go_wp2
      go_ret
      exact ⟨rfl, rfl⟩
set_option maxHeartbeats 4000000 in
set_option maxRecDepth 100000 in
theorem implDia_any (w : World) (m : Mach) (hk : m.Ok) (n : Int) :
    Calls Tryz.prog 24 #[.agg (mcells m), .int .i64 n] w fun e w' => e = .returned (.tuple #[.int .i64 (diaAns m n).1, .int .i64 (diaAns m n).2]) ∧ Below w.heap.size w w' := by
  have hS := hid ((St.start w).newMB m 27)
  have hcode := hid (fun W => levelCode_any W m hk n)
  by_cases h0 : levelI m n = 0
  · obtain ⟨d, s, n, gd, rfl, hn5, hnl, hpw⟩ := levelI_good h0
    rw [h0] at hcode
    have hgr := hid (fun W hW => graph_any w.heap.size W m hW d s gd n (by omega) (by omega))
    have htr := hid (fun k (hk' : k < pw d n) W G vA vB (hG : GB W G (pw d n) vA vB (tabA m d n s) (tabA (inv m d s) d n s)) => tree_any W G (pw d n) s k vA vB _ _ hG (pw_few gd.l2 gd.l3 hnl) hk' (tabA_length _ _ _ _) (tabA_length _ _ _ _) gd.s1 gd.s16 (lvT m d s n) (fun p hp => lvT_A p hp) (fun p hp => lvT_B p hp) (fun j fr hj hf => lvT_lt gd j fr hj hf))
    have hok := hid (fun k (hk' : k < pw d n) => farL_ok (m := m) gd hk')
    rw [diaAns_0 gd h0]
    have hfe := hid (fun k => (show (treeT (lvT m d s n) s (pw d n) k).far = farL m d s n k from rfl))
    have hpos := pw_pos d (by have := gd.l2; omega) n
    obtain ⟨R, hR⟩ : ∃ R : Int × Int, R = diaR (diaL (farL m d s n) (pw d n)) := ⟨_, rfl⟩
    have hRn := hid (fun k (hk' : k < pw d n) (hm : -1 ∈ farL m d s n k) => (show R = (0, 5) by rw [hR, diaL_bad hk' hm]; rfl))
    have hRs := hid (fun o (h : diaL (farL m d s n) (pw d n) = some o) => (show R = (o, 0) by rw [hR, h]; rfl))
    have hstep := hid (fun k o (h : diaL (farL m d s n) k = some o) (hn : ¬ -1 ∈ farL m d s n k) => diaL_step h hn)
    have hcas := hid (fun k (hk' : k < pw d n) x (hx : x ∈ farL m d s n k) => (farL_ok (m := m) gd hk').far_cases hx)
    have hlen := hid (fun k (hk' : k < pw d n) => (show (farL m d s n k).length = pw d n from (farL_ok (m := m) gd hk').fl))
    have hran := hid (fun k o (hk' : k ≤ pw d n) (h : diaL (farL m d s n) k = some o) => diaL_range (b := ((pw d n : Nat) : Int)) (by omega) k o (fun j hj x hx => by rcases (farL_ok (m := m) gd (show j < pw d n by omega)).far_cases hx with h | h <;> omega) h)
    rw [← hR]
    clear hR
    replace hk := hid hk; replace gd := hid gd
    clear h0
    generalize farL m d s n = F at *
    generalize hM : pw d n = M at *
    replace hM := hid hM
    go_enter Tryz.func24, Tryz.ntmps24
    go_wp2_with (first
      | ((with_reducible refine gate (N := 11) rfl ?_); refine load_mach rfl _ rfl w.heap.size rfl m hS.out.m0 ?_)
      | (go_at_call 108; (with_reducible refine (hcode.out _).mono ?_); rintro e w1 ⟨rfl, hb⟩; replace hS := hid (hS.out.call hb); clear hb hcode)
      | (go_at_call 109; (with_reducible refine (hgr.out _ hS.out.m0).mono ?_); rintro e w2 ⟨vA, vB, rfl, hG, hb⟩; (have hG1 := hG.c0); replace hS := hid (hS.out.call hb); replace hG := hid hG; clear hb hgr))
    go_loopw [8, 23] (fun o i wr => ∃ (k : Nat) (x : Int), k ≤ M ∧ i = .int .i64 k ∧ o = .int .i64 x ∧ Hid (diaL F k = some x) ∧ St w2.heap.size w2 [] wr) (fun _ i _ => M - (intOf i).toNat)
    case atStart => exact ⟨0, 0, Nat.zero_le _, rfl, rfl, rfl, St.start _⟩
    case round =>
      obtain ⟨k, x, hkM, rfl, rfl, hd, rS⟩ := hrel
      have hG0 := (hG.out.below rS.bel).c0
      have hGr := hid (hG.out.below rS.bel)
      replace rS := hid rS
      by_cases hlt : k < M
      · have dk : decide ((k : Int) < (M : Int)) = true := decide_eq_true (by omega)
        have htk := hid (htr.out k hlt _ _ _ _ hGr.out)
        have hf := hid (hfe.out k)
        have hl := hid (hlen.out k hlt)
        have hran2 := hran.out k x hkM hd.out
        have hcm := hid (fun W b v (hO : Own W b 2 v (ints (F k))) (r : Bool) (hr : Tells r (-1 ∈ F k)) => slContains_any W b v (F k) (-1) hO (by rw [hl.out]; omega) r hr)
        generalize treeT (lvT m d s n) s M k = t at *
        by_cases hm : -1 ∈ F k
        · have hRR := hid (hRn.out k hlt hm)
          replace hcm := hid (fun W b v (hO : Own W b 2 v (ints (F k))) => hcm.out W b v hO true ⟨fun _ => hm, fun _ => rfl⟩)
          clear hm hG1
          go_wp2_with (first
            | (go_at_call 111; (with_reducible refine (htk.out).mono ?_); rintro e w4 ⟨bt, gf, gw, vq, rows, rfl, hT⟩; (have q1 := (show w4.cell? ⟨bt, 1, none⟩ = some (Value.slice (some ⟨gf, 0, none⟩) M M) from cell_of_row _ _ 1 _ _ _ hT.k0)); (have hO := hT.o2); rw [hf.out] at hO; replace hO := hid hO; replace rS := hid (rS.out.outer hT); replace hT := hid hT)
            | (go_at_call 116; (with_reducible refine (hcm.out _ _ _ hO.out).mono ?_); rintro e w' ⟨rfl, rfl⟩))
          go_ret2
          exact ⟨by rw [hRR.out]; rfl, hS.out.bel.trans (rS.out.bel.mono hS.out.le)⟩
        · obtain ⟨y, l, hyl⟩ : ∃ y l, F k = y :: l := by
            cases he : F k with
            | nil => have := hl.out; rw [he] at this; simp at this; omega
            | cons y l => exact ⟨y, l, rfl⟩
          have hmx := hid (fun W b v (hO : Own W b 2 v (ints (F k))) => slMax_any W b v y l (by rw [← hyl]; exact hO) (by have := hl.out; rw [hyl] at this; simp at this; omega))
          have hst := hid ((hstep.out k x hd.out hm).trans (show some ((F k).foldl max x) = some (max x (l.foldl max y)) by rw [hyl]; simp only [List.foldl_cons]; rw [foldl_max_max]))
          replace hcm := hid (fun W b v (hO : Own W b 2 v (ints (F k))) => hcm.out W b v hO false ⟨fun h => (by cases h), fun h => absurd h hm⟩)
          clear hm hyl hG1
          generalize l.foldl max y = mx at *
          go_wp2_with (first
            | (go_at_call 111; (with_reducible refine (htk.out).mono ?_); rintro e w4 ⟨bt, gf, gw, vq, rows, rfl, hT⟩; (have q1 := (show w4.cell? ⟨bt, 1, none⟩ = some (Value.slice (some ⟨gf, 0, none⟩) M M) from cell_of_row _ _ 1 _ _ _ hT.k0)); (have hO := hT.o2); rw [hf.out] at hO; replace hO := hid hO; replace rS := hid (rS.out.outer hT); replace hT := hid hT)
            | (go_at_call 116; (with_reducible refine (hcm.out _ _ _ hO.out).mono ?_); rintro e w' ⟨rfl, rfl⟩)
            | (go_at_call 117; (with_reducible refine (hmx.out _ _ _ hO.out).mono ?_); rintro e w' ⟨rfl, rfl⟩))
          go_roundw
          case rel => exact ⟨k + 1, _, by omega, by go_num, rfl, hid (hst.out.trans (by rw [if_max])), rS.out⟩
          case measure => simp [intOf]; omega
      · obtain rfl : k = M := by omega
        have hRR := hid (hRs.out x hd.out)
        clear hG1
        have dk : decide ((k : Int) < (k : Int)) = false := decide_eq_false (by omega)
        go_wp2
        go_ret2
        exact ⟨by rw [hRR.out]; rfl, hS.out.bel.trans (rS.out.bel.mono hS.out.le)⟩
  · rw [diaAns_c h0]
    have dn : ((levelI m n) != 0) = true := by simpa using h0
    generalize levelI m n = cd at *
    replace hk := hid hk
    clear h0
    go_enter Tryz.func24, Tryz.ntmps24
    go_wp2_with (first
      | ((with_reducible refine gate (N := 11) rfl ?_); refine load_mach rfl _ rfl w.heap.size rfl m hS.out.m0 ?_)
      | (go_at_call 108; (with_reducible refine (hcode.out _).mono ?_); rintro e w1 ⟨rfl, hb⟩; replace hS := hid (hS.out.call hb); clear hb hcode))
    go_ret2
    exact ⟨rfl, hS.out.bel⟩
end Go.Proofs.YthmcdfjijkecfaaGreat

/- Cycles of a permutation: plain law. -/
namespace Go.Proofs.YthmcdfjijkecfaaGreat
open Go.RowKit
set_option linter.unusedVariables false
set_option linter.unusedSimpArgs false

/-- How many are not met. -/
def cf (s : List Bool) : Nat := s.count false
/-- From a on, until a met number: what is met then, and how many were new. -/
def cyrun (p : List Nat) : Nat → List Bool → Nat → List Bool × Nat
  | 0, s, _ => (s, 0)
  | f + 1, s, a => if s.getD a true then (s, 0) else ((cyrun p f (s.set a true) (p.getD a 0)).1, (cyrun p f (s.set a true) (p.getD a 0)).2 + 1)
def crun (p : List Nat) (s : List Bool) (a : Nat) : List Bool × Nat := cyrun p (cf s) s a
theorem crun_seen {p : List Nat} {s : List Bool} {a : Nat} (h : s[a]? = some true) : crun p s a = (s, 0) := by
  unfold crun
  cases cf s with
  | zero => rfl
  | succ f => unfold cyrun; rw [List.getD_eq_getElem?_getD, h]; rfl
theorem cf_set : ∀ {s : List Bool} {a : Nat}, s[a]? = some false → cf s = cf (s.set a true) + 1
  | [], a, h => by simp at h
  | b :: s, 0, h => by
    simp at h; subst h
    simp [cf]
  | b :: s, a + 1, h => by
    have ih := cf_set (s := s) (a := a) (by simpa using h)
    simp only [cf, List.set_cons_succ, List.count_cons] at ih ⊢
    omega
theorem crun_new {p : List Nat} {s : List Bool} {a : Nat} (h : s[a]? = some false) : crun p s a = ((crun p (s.set a true) (p.getD a 0)).1, (crun p (s.set a true) (p.getD a 0)).2 + 1) := by
  unfold crun
  rw [cf_set h]
  conv => lhs; unfold cyrun
  rw [List.getD_eq_getElem?_getD, h]
  rfl
/-- What is met, and the cycles' lengths, before k. -/
def cyst (p : List Nat) : Nat → List Bool × List Nat
  | 0 => (List.replicate p.length false, [])
  | k + 1 => ((crun p (cyst p k).1 k).1, if 0 < (crun p (cyst p k).1 k).2 then (cyst p k).2 ++ [(crun p (cyst p k).1 k).2] else (cyst p k).2)
/-- The lengths of the cycles, in the order of their least numbers. -/
def cyc (p : List Nat) : List Nat := (cyst p p.length).2
theorem cyrun_len (p : List Nat) : ∀ f s a, (cyrun p f s a).1.length = s.length
  | 0, _, _ => rfl
  | f + 1, s, a => by
    unfold cyrun
    split
    · rfl
    · show (cyrun p f (s.set a true) _).1.length = _
      rw [cyrun_len p f]; simp
theorem crun_len (p : List Nat) (s : List Bool) (a : Nat) : (crun p s a).1.length = s.length := cyrun_len p _ s a
theorem cyst_len (p : List Nat) : ∀ k, (cyst p k).1.length = p.length
  | 0 => by simp [cyst]
  | k + 1 => by rw [cyst]; dsimp only; rw [crun_len, cyst_len p k]
theorem cyrun_le (p : List Nat) : ∀ f s a, (cyrun p f s a).2 ≤ f
  | 0, _, _ => Nat.le_refl _
  | f + 1, s, a => by
    unfold cyrun
    split
    · exact Nat.zero_le _
    · exact Nat.succ_le_succ (cyrun_le p f _ _)
theorem crun_le (p : List Nat) (s : List Bool) (a : Nat) : (crun p s a).2 ≤ s.length := Nat.le_trans (cyrun_le p _ s a) (by unfold cf; exact List.count_le_length)
theorem cyst_out (p : List Nat) : ∀ k, (cyst p k).2.length ≤ k
  | 0 => Nat.le_refl _
  | k + 1 => by
    have := cyst_out p k
    rw [cyst]; dsimp only
    split
    · simp; omega
    · omega
theorem cyst_pos (p : List Nat) : ∀ k c, c ∈ (cyst p k).2 → 0 < c ∧ c ≤ p.length
  | 0, c, h => by simp [cyst] at h
  | k + 1, c, h => by
    rw [cyst] at h; dsimp only at h
    split at h
    · rename_i hp
      rcases List.mem_append.1 h with h | h
      · exact cyst_pos p k c h
      · rw [List.mem_singleton] at h
        subst h
        exact ⟨hp, by have := crun_le p (cyst p k).1 k; rw [cyst_len] at this; exact this⟩
    · exact cyst_pos p k c h
/-! Cycles of a permutation. -/
def itp (p : List Nat) : Nat → Nat → Nat
  | 0, k => k
  | j + 1, k => p.getD (itp p j k) 0
/-- p leads the numbers below its length to such, each from one. -/
structure IsPm (p : List Nat) : Prop where
  lt : ∀ k, k < p.length → p.getD k 0 < p.length
  inj : ∀ i j, i < p.length → j < p.length → p.getD i 0 = p.getD j 0 → i = j
theorem itp_lt {p : List Nat} (h : IsPm p) {k : Nat} (hk : k < p.length) : ∀ j, itp p j k < p.length
  | 0 => hk
  | j + 1 => h.lt _ (itp_lt h hk j)
theorem itp_add (p : List Nat) (i k : Nat) : ∀ j, itp p (j + i) k = itp p j (itp p i k)
  | 0 => by rw [Nat.zero_add]; rfl
  | j + 1 => by rw [show j + 1 + i = (j + i) + 1 by omega]; show p.getD _ 0 = p.getD _ 0; rw [itp_add p i k j]
theorem itp_inj {p : List Nat} (h : IsPm p) {a b : Nat} (ha : a < p.length) (hb : b < p.length) : ∀ j, itp p j a = itp p j b → a = b
  | 0, e => e
  | j + 1, e => itp_inj h ha hb j (h.inj _ _ (itp_lt h ha j) (itp_lt h hb j) e)
theorem itp_mul {p : List Nat} {c k : Nat} (h : itp p c k = k) : ∀ j, itp p (j * c) k = k
  | 0 => by rw [Nat.zero_mul]; rfl
  | j + 1 => by rw [Nat.succ_mul, itp_add, h]; exact itp_mul h j
/-- c is the length of the cycle of k. -/
structure IsCy (p : List Nat) (k c : Nat) : Prop where
  pos : 0 < c
  back : itp p c k = k
  min : ∀ j, 0 < j → j < c → itp p j k ≠ k
theorem IsCy.dvd {p : List Nat} {k c K : Nat} (h : IsCy p k c) (hK : itp p K k = k) : c ∣ K := by
  have e : itp p (K % c) k = k := by
    have h1 : K = K % c + (K / c) * c := by have := Nat.div_add_mod K c; rw [Nat.mul_comm] at this; omega
    have h2 : itp p (K % c + (K / c) * c) k = k := by rw [← h1]; exact hK
    rw [itp_add, itp_mul h.back] at h2
    exact h2
  rcases Nat.eq_zero_or_pos (K % c) with h0 | h0
  · exact Nat.dvd_of_mod_eq_zero h0
  · exact absurd e (h.min _ h0 (Nat.mod_lt _ h.pos))
theorem cy_ex {p : List Nat} (h : IsPm p) {k : Nat} (hk : k < p.length) : ∃ c, IsCy p k c := by
  have hex : ∃ c, 0 < c ∧ itp p c k = k := by
    apply Classical.byContradiction
    intro hn
    have := inj_le (p.length + 1) p.length (fun i => itp p i k) (fun i _ => itp_lt h hk i) (fun i j hij _ e => by
      refine hn ⟨j - i, by omega, ?_⟩
      have h1 : itp p (i + (j - i)) k = itp p i (itp p (j - i) k) := itp_add p (j - i) k i
      rw [show i + (j - i) = j by omega] at h1
      exact itp_inj h (itp_lt h hk _) hk i (by rw [← h1]; exact e.symm))
    omega
  obtain ⟨c, hc⟩ := hex
  induction c using Nat.strongRecOn with
  | ind c ih =>
    by_cases hm : ∃ j, j < c ∧ 0 < j ∧ itp p j k = k
    · obtain ⟨j, h1, h2⟩ := hm
      exact ih j h1 h2
    · exact ⟨c, hc.1, hc.2, fun j h1 h2 h3 => hm ⟨j, h2, h1, h3⟩⟩
/-- Whole cycles are met. -/
def Clo (p : List Nat) (s : List Bool) : Prop := ∀ x, x < p.length → (s[x]? = some true ↔ s[p.getD x 0]? = some true)
def mkd (p : List Nat) (s : List Bool) (k : Nat) : Nat → List Bool
  | 0 => s
  | j + 1 => (mkd p s k j).set (itp p j k) true
theorem mkd_len (p : List Nat) (s : List Bool) (k : Nat) : ∀ j, (mkd p s k j).length = s.length
  | 0 => rfl
  | j + 1 => by rw [mkd, List.length_set, mkd_len p s k j]
theorem mkd_get {p : List Nat} {s : List Bool} {k x : Nat} (hx : x < s.length) : ∀ j, ((mkd p s k j)[x]? = some true ↔ s[x]? = some true ∨ ∃ i, i < j ∧ itp p i k = x)
  | 0 => ⟨fun h => .inl h, fun h => h.elim id fun ⟨i, hi, _⟩ => absurd hi (Nat.not_lt_zero _)⟩
  | j + 1 => by
    rw [mkd, List.getElem?_set, mkd_len]
    by_cases e : itp p j k = x
    · rw [if_pos e, if_pos (by omega)]
      exact ⟨fun _ => .inr ⟨j, by omega, e⟩, fun _ => rfl⟩
    · rw [if_neg e, mkd_get hx j]
      constructor
      · rintro (h | ⟨i, hi, h⟩)
        · exact .inl h
        · exact .inr ⟨i, by omega, h⟩
      · rintro (h | ⟨i, hi, h⟩)
        · exact .inl h
        · by_cases e2 : i = j
          · subst e2; exact absurd h e
          · exact .inr ⟨i, by omega, h⟩
theorem Clo.it {p : List Nat} {s : List Bool} (hc : Clo p s) (h : IsPm p) {k : Nat} (hk : k < p.length) : ∀ j, (s[k]? = some true ↔ s[itp p j k]? = some true)
  | 0 => Iff.rfl
  | j + 1 => (hc.it h hk j).trans (hc _ (itp_lt h hk j))
theorem get_bool {s : List Bool} {x : Nat} (hx : x < s.length) (h : ¬ s[x]? = some true) : s[x]? = some false := by
  rw [List.getElem?_eq_getElem hx] at h ⊢
  cases hb : s[x] with
  | true => rw [hb] at h; exact absurd rfl h
  | false => rfl
theorem crun_cy {p : List Nat} {s : List Bool} (h : IsPm p) (hl : s.length = p.length) (hc : Clo p s) {k c : Nat} (hk : k < p.length) (hs : ¬ s[k]? = some true) (hy : IsCy p k c) :
    ∀ f j, j + f = c → crun p (mkd p s k j) (itp p j k) = (mkd p s k c, f)
  | 0, j, e => by
    obtain rfl : j = c := by omega
    rw [hy.back]
    exact crun_seen ((mkd_get (by omega) j).2 (.inr ⟨0, hy.pos, rfl⟩))
  | f + 1, j, e => by
    have hlt := itp_lt h hk j
    have hn : (mkd p s k j)[itp p j k]? = some false := get_bool (by rw [mkd_len]; omega) fun ht => by
      rcases (mkd_get (by omega) j).1 ht with h1 | ⟨i, hi, h1⟩
      · exact hs ((hc.it h hk j).2 h1)
      · refine hy.min (j - i) (by omega) (by omega) (itp_inj h (itp_lt h hk _) hk i ?_)
        rw [← itp_add, show i + (j - i) = j by omega]
        exact h1.symm
    rw [crun_new hn]
    have ih := crun_cy h hl hc hk hs hy f (j + 1) (by omega)
    have e2 : (mkd p s k j).set (itp p j k) true = mkd p s k (j + 1) := rfl
    have e3 : p.getD (itp p j k) 0 = itp p (j + 1) k := rfl
    rw [e2, e3, ih]
theorem mkd_clo {p : List Nat} {s : List Bool} (h : IsPm p) (hl : s.length = p.length) (hc : Clo p s) {k c : Nat} (hk : k < p.length) (hy : IsCy p k c) : Clo p (mkd p s k c) := fun x hx => by
  have hp := h.lt x hx
  rw [mkd_get (by omega), mkd_get (by omega)]
  constructor
  · rintro (h1 | ⟨i, hi, rfl⟩)
    · exact .inl ((hc x hx).1 h1)
    · by_cases e : i + 1 = c
      · exact .inr ⟨0, hy.pos, by show k = itp p (i + 1) k; rw [e, hy.back]⟩
      · exact .inr ⟨i + 1, by omega, rfl⟩
  · rintro (h1 | ⟨i, hi, h1⟩)
    · exact .inl ((hc x hx).2 h1)
    · cases i with
      | zero =>
        obtain ⟨d, rfl⟩ : ∃ d, c = d + 1 := ⟨c - 1, by have := hy.pos; omega⟩
        have h2 : p.getD (itp p d k) 0 = p.getD x 0 := hy.back.trans h1
        exact .inr ⟨d, by omega, h.inj _ _ (itp_lt h hk d) hx h2⟩
      | succ i => exact .inr ⟨i, by omega, h.inj _ _ (itp_lt h hk i) hx h1⟩
theorem IsCy.of_it {p : List Nat} (h : IsPm p) {k c : Nat} (hk : k < p.length) (hy : IsCy p k c) (i : Nat) : IsCy p (itp p i k) c where
  pos := hy.pos
  back := by rw [← itp_add, Nat.add_comm, itp_add, hy.back]
  min := fun j h1 h2 h3 => hy.min j h1 h2 (itp_inj h (itp_lt h hk _) hk i (by rw [← itp_add, Nat.add_comm, itp_add]; exact h3))
/-- What is known of the numbers before k. -/
theorem cyst_ok {p : List Nat} (h : IsPm p) : ∀ k, k ≤ p.length → Clo p (cyst p k).1 ∧ (∀ c ∈ (cyst p k).2, ∃ x, x < p.length ∧ IsCy p x c) ∧ (∀ x, x < p.length → (cyst p k).1[x]? = some true → ∃ c ∈ (cyst p k).2, IsCy p x c) ∧ (∀ x, x < k → (cyst p k).1[x]? = some true)
  | 0, _ => by
    refine ⟨fun x hx => ?_, fun c hc => by simp [cyst] at hc, fun x hx ht => ?_, fun x hx => absurd hx (Nat.not_lt_zero _)⟩
    · have hp := h.lt x hx
      simp only [cyst, List.getElem?_replicate, hx, hp, if_true]
    · simp [cyst, hx] at ht
  | k + 1, hk => by
    obtain ⟨h1, h2, h3, h4⟩ := cyst_ok h k (by omega)
    have hl := cyst_len p k
    by_cases hs : (cyst p k).1[k]? = some true
    · have e : cyst p (k + 1) = cyst p k := by rw [cyst, crun_seen hs]; rfl
      rw [e]
      exact ⟨h1, h2, h3, fun x hx => by by_cases e : x = k; · subst e; exact hs
                                        · exact h4 x (by omega)⟩
    · obtain ⟨c, hy⟩ := cy_ex h (show k < p.length by omega)
      have hr := crun_cy h hl h1 (by omega) hs hy c 0 (by omega)
      have hr2 : crun p (cyst p k).1 k = (mkd p (cyst p k).1 k c, c) := hr
      have e : cyst p (k + 1) = (mkd p (cyst p k).1 k c, (cyst p k).2 ++ [c]) := by rw [cyst, hr2]; dsimp only; rw [if_pos hy.pos]
      rw [e]
      refine ⟨mkd_clo h hl h1 (by omega) hy, fun c' hc' => ?_, fun x hx ht => ?_, fun x hx => ?_⟩
      · rcases List.mem_append.1 hc' with hc' | hc'
        · exact h2 c' hc'
        · rw [List.mem_singleton] at hc'; subst hc'; exact ⟨k, by omega, hy⟩
      · rcases (mkd_get (by omega) c).1 ht with ht | ⟨i, hi, rfl⟩
        · obtain ⟨c', hc', hy'⟩ := h3 x hx ht
          exact ⟨c', List.mem_append.2 (.inl hc'), hy'⟩
        · exact ⟨c, by simp, hy.of_it h (by omega) i⟩
      · refine (mkd_get (by omega) c).2 ?_
        by_cases e : x = k
        · subst e; exact .inr ⟨0, hy.pos, rfl⟩
        · exact .inl (h4 x (by omega))
theorem cyc_cy {p : List Nat} (h : IsPm p) {c : Nat} (hc : c ∈ cyc p) : ∃ x, x < p.length ∧ IsCy p x c := (cyst_ok h p.length (Nat.le_refl _)).2.1 c hc
theorem cyc_all {p : List Nat} (h : IsPm p) {x : Nat} (hx : x < p.length) : ∃ c ∈ cyc p, IsCy p x c :=
  have hk := cyst_ok h p.length (Nat.le_refl _)
  hk.2.2.1 x hx (hk.2.2.2 x hx)
theorem cyc_dvd {p : List Nat} (h : IsPm p) {K : Nat} (hK : ∀ x, x < p.length → itp p K x = x) {c : Nat} (hc : c ∈ cyc p) : c ∣ K := by
  obtain ⟨x, hx, hy⟩ := cyc_cy h hc
  exact hy.dvd (hK x hx)
/-- The order so far. -/
def ordL (l : List Nat) : Nat := l.foldl Nat.lcm 1
theorem foldl_lcm_dvd {K : Nat} : ∀ (l : List Nat) (a : Nat), a ∣ K → (∀ c ∈ l, c ∣ K) → l.foldl Nat.lcm a ∣ K
  | [], _, h, _ => h
  | c :: l, a, h, hl => foldl_lcm_dvd l _ (Nat.lcm_dvd h (hl c (by simp))) fun d hd => hl d (by simp [hd])
theorem foldl_lcm_start : ∀ (l : List Nat) (a : Nat), a ∣ l.foldl Nat.lcm a
  | [], _ => Nat.dvd_refl _
  | c :: l, a => Nat.dvd_trans (Nat.dvd_lcm_left a c) (foldl_lcm_start l _)
theorem foldl_lcm_mem : ∀ (l : List Nat) (a : Nat) (c : Nat), c ∈ l → c ∣ l.foldl Nat.lcm a
  | d :: l, a, c, h => by
    rcases List.mem_cons.1 h with rfl | h
    · exact Nat.dvd_trans (Nat.dvd_lcm_right a c) (foldl_lcm_start l _)
    · exact foldl_lcm_mem l _ c h
theorem ordL_dvd {K : Nat} {l : List Nat} (h : ∀ c ∈ l, c ∣ K) : ordL l ∣ K := foldl_lcm_dvd l 1 (Nat.one_dvd _) h
theorem ordL_mem {l : List Nat} {c : Nat} (h : c ∈ l) : c ∣ ordL l := foldl_lcm_mem l 1 c h
theorem ordL_congr {l l' : List Nat} (h : ∀ c, c ∈ l ↔ c ∈ l') : ordL l = ordL l' :=
  Nat.dvd_antisymm (ordL_dvd fun c hc => ordL_mem ((h c).1 hc)) (ordL_dvd fun c hc => ordL_mem ((h c).2 hc))
end Go.Proofs.YthmcdfjijkecfaaGreat

/- Cycles: divisors, multiples, and what the program and the reference make of a permutation. -/
namespace Go.Proofs.YthmcdfjijkecfaaGreat
open Go.RowKit
set_option linter.unusedVariables false
set_option linter.unusedSimpArgs false
-- @LONG

theorem gcd_step (x y : Nat) : Nat.gcd y (x % y) = Nat.gcd x y := by
  rw [Nat.gcd_comm y (x % y), ← Nat.gcd_rec y x, Nat.gcd_comm]
theorem lcm_step (a b : Nat) : a / Nat.gcd a b * b = Nat.lcm a b := by
  have h := Nat.gcd_mul_lcm a b
  rcases Nat.eq_zero_or_pos (Nat.gcd a b) with h0 | h0
  · have ha := Nat.eq_zero_of_gcd_eq_zero_left h0
    subst ha; simp
  · obtain ⟨c, hc⟩ := Nat.gcd_dvd_left a b
    have h1 : a / Nat.gcd a b = c := by
      conv => lhs; lhs; rw [hc]
      exact Nat.mul_div_cancel_left c h0
    rw [h1]
    have h2 : Nat.gcd a b * Nat.lcm a b = Nat.gcd a b * (c * b) := by
      rw [h, ← Nat.mul_assoc, ← hc]
    exact (Nat.eq_of_mul_eq_mul_left h0 h2).symm
set_option maxHeartbeats 1000000 in
theorem common_any (a b : Nat) (ha : a < 9223372036854775807) (hb : b < 9223372036854775807) (w : World) :
    Calls Tryz.prog 234 #[.int .i64 a, .int .i64 b] w fun e w' => e = .returned (.int .i64 (Nat.gcd a b : Nat)) ∧ ∃ m, w' = w.drewN m := by
  have hst := hid gcd_step
  have hz := hid (fun x => Nat.gcd_zero_right x)
  have hS := hid (show ∃ m, w = w.drewN m from ⟨0, rfl⟩)
  generalize hG : Nat.gcd a b = G at *
  replace hG := hid hG
  go_enter Tryz.func234, Tryz.ntmps234
  go_wp2
  go_loopw [0, 1] (fun x y wr => ∃ i j : Nat, x = .int .i64 i ∧ y = .int .i64 j ∧ i < 9223372036854775807 ∧ j < 9223372036854775807 ∧ Hid (Nat.gcd i j = G) ∧ Hid (∃ m, wr = w.drewN m)) (fun _ y _ => (intOf y).toNat)
  case atStart => exact ⟨a, b, rfl, rfl, ha, hb, hG, hS⟩
  case round =>
    obtain ⟨i, j, rfl, rfl, hi, hj, hg, rS⟩ := hrel
    clear hS hG
    by_cases h0 : j = 0
    · subst h0
      have e := hid (hg.out.symm.trans (hz.out i))
      have d0 : decide (((0 : Nat) : Int) > 0) = false := by decide
      go_wp2
      go_ret
      exact ⟨retI (by rw [e.out]), rS.out⟩
    · have d0 : ((j : Int) != 0) = true := by simp; omega
      have d1 : decide (0 < (j : Int)) = true := decide_eq_true (by omega)
      have dz : ¬ (j : Int) = 0 := by omega
      have m1 : Int.tmod (i : Int) (j : Int) = ((i % j : Nat) : Int) := by rw [Int.tmod_eq_emod_of_nonneg (by omega)]; omega
      have hml := Nat.mod_lt i (show 0 < j by omega)
      have hg2 := hid ((hst.out i j).trans hg.out)
      generalize hr : i % j = r at *
      have m2 : (i : Int) % (j : Int) = (r : Int) := by omega
      replace hr := hid hr
      go_upto_region 2 with (fail)
      go_quiet (fail)
      go_wp2
      go_roundw
      case rel => exact ⟨j, r, rfl, rfl, hj, by omega, hg2, hid (by obtain ⟨m, h⟩ := rS.out; exact ⟨m + nq, by rw [h, drewN_add]⟩)⟩
      case measure => simp [intOf]; omega
set_option maxHeartbeats 1000000 in
theorem l03Divisor_any (a b : Nat) (ha : a < 9223372036854775807) (hb : b < 9223372036854775807) (w : World) :
    Calls Tryz.prog 157 #[.int .i64 a, .int .i64 b] w fun e w' => e = .returned (.int .i64 (Nat.gcd a b : Nat)) ∧ ∃ m, w' = w.drewN m := by
  have hst := hid gcd_step
  have hz := hid (fun x => Nat.gcd_zero_right x)
  have hS := hid (show ∃ m, w = w.drewN m from ⟨0, rfl⟩)
  generalize hG : Nat.gcd a b = G at *
  replace hG := hid hG
  go_enter Tryz.func157, Tryz.ntmps157
  go_wp2
  go_loopw [0, 1] (fun x y wr => ∃ i j : Nat, x = .int .i64 i ∧ y = .int .i64 j ∧ i < 9223372036854775807 ∧ j < 9223372036854775807 ∧ Hid (Nat.gcd i j = G) ∧ Hid (∃ m, wr = w.drewN m)) (fun _ y _ => (intOf y).toNat)
  case atStart => exact ⟨a, b, rfl, rfl, ha, hb, hG, hS⟩
  case round =>
    obtain ⟨i, j, rfl, rfl, hi, hj, hg, rS⟩ := hrel
    clear hS hG
    by_cases h0 : j = 0
    · subst h0
      have e := hid (hg.out.symm.trans (hz.out i))
      have d0 : decide (((0 : Nat) : Int) > 0) = false := by decide
      go_wp2
      go_ret
      exact ⟨retI (by rw [e.out]), rS.out⟩
    · have d0 : ((j : Int) != 0) = true := by simp; omega
      have d1 : decide (0 < (j : Int)) = true := decide_eq_true (by omega)
      have dz : ¬ (j : Int) = 0 := by omega
      have m1 : Int.tmod (i : Int) (j : Int) = ((i % j : Nat) : Int) := by rw [Int.tmod_eq_emod_of_nonneg (by omega)]; omega
      have hml := Nat.mod_lt i (show 0 < j by omega)
      have hg2 := hid ((hst.out i j).trans hg.out)
      generalize hr : i % j = r at *
      have m2 : (i : Int) % (j : Int) = (r : Int) := by omega
      replace hr := hid hr
      go_wp2
      go_roundw
      case rel => exact ⟨j, r, rfl, rfl, hj, by omega, hg2, rS⟩
      case measure => simp [intOf]; omega
set_option maxHeartbeats 1000000 in
theorem l06Divisor_any (a b : Nat) (ha : a < 9223372036854775807) (hb : b < 9223372036854775807) (w : World) :
    Calls Tryz.prog 126 #[.int .i64 a, .int .i64 b] w fun e w' => e = .returned (.int .i64 (Nat.gcd a b : Nat)) ∧ ∃ m, w' = w.drewN m := by
  have hst := hid gcd_step
  have hz := hid (fun x => Nat.gcd_zero_right x)
  have hS := hid (show ∃ m, w = w.drewN m from ⟨0, rfl⟩)
  generalize hG : Nat.gcd a b = G at *
  replace hG := hid hG
  go_enter Tryz.func126, Tryz.ntmps126
  go_wp2
  go_loopw [0, 1] (fun x y wr => ∃ i j : Nat, x = .int .i64 i ∧ y = .int .i64 j ∧ i < 9223372036854775807 ∧ j < 9223372036854775807 ∧ Hid (Nat.gcd i j = G) ∧ Hid (∃ m, wr = w.drewN m)) (fun _ y _ => (intOf y).toNat)
  case atStart => exact ⟨a, b, rfl, rfl, ha, hb, hG, hS⟩
  case round =>
    obtain ⟨i, j, rfl, rfl, hi, hj, hg, rS⟩ := hrel
    clear hS hG
    by_cases h0 : j = 0
    · subst h0
      have e := hid (hg.out.symm.trans (hz.out i))
      have d0 : decide (((0 : Nat) : Int) > 0) = false := by decide
      go_wp2
      go_ret
      exact ⟨retI (by rw [e.out]), rS.out⟩
    · have d0 : ((j : Int) != 0) = true := by simp; omega
      have d1 : decide (0 < (j : Int)) = true := decide_eq_true (by omega)
      have dz : ¬ (j : Int) = 0 := by omega
      have m1 : Int.tmod (i : Int) (j : Int) = ((i % j : Nat) : Int) := by rw [Int.tmod_eq_emod_of_nonneg (by omega)]; omega
      have hml := Nat.mod_lt i (show 0 < j by omega)
      have hg2 := hid ((hst.out i j).trans hg.out)
      generalize hr : i % j = r at *
      have m2 : (i : Int) % (j : Int) = (r : Int) := by omega
      replace hr := hid hr
      go_wp2
      go_roundw
      case rel => exact ⟨j, r, rfl, rfl, hj, by omega, hg2, rS⟩
      case measure => simp [intOf]; omega
set_option maxHeartbeats 1000000 in
theorem multiple_any (a b : Nat) (ha : 0 < a) (hb : 0 < b) (hl : Nat.lcm a b < 1000000000) (w : World) :
    Calls Tryz.prog 196 #[.int .i64 a, .int .i64 b] w fun e w' => e = .returned (.int .i64 (Nat.lcm a b : Nat)) ∧ Below w.heap.size w w' := by
  have h1 := Nat.le_of_dvd (by have := Nat.lcm_pos ha hb; exact this) (Nat.dvd_lcm_left a b)
  have h2 := Nat.le_of_dvd (by have := Nat.lcm_pos ha hb; exact this) (Nat.dvd_lcm_right a b)
  have hc := hid (fun W => common_any a b (by omega) (by omega) W)
  have hg := Nat.gcd_pos_of_pos_left b ha
  have hs := hid (lcm_step a b)
  have hq := Nat.div_le_self a (Nat.gcd a b)
  generalize hG : Nat.gcd a b = G at *
  generalize hL : Nat.lcm a b = L at *
  have dz : ¬ (G : Int) = 0 := by omega
  have m1 : Int.tdiv (a : Int) (G : Int) = ((a / G : Nat) : Int) := by rw [Int.tdiv_eq_ediv_of_nonneg (by omega)]; omega
  have m2 : (a : Int) / (G : Int) = ((a / G : Nat) : Int) := by omega
  generalize a / G = q at *
  have e3 : (q : Int) * (b : Int) = (L : Int) := by rw [← hs.out]; simp
  have ew : IntKind.i64.wrap (q : Int) = q := IntWalk.i64_in _ (by omega)
  have ew2 : IntKind.i64.wrap (L : Int) = L := IntWalk.i64_in _ (by omega)
  have ew3 : wrap64 (L : Int) = L := w64 (by omega) (by omega)
  clear hG hL
  go_enter Tryz.func196, Tryz.ntmps196
  go_wp2_with (first
    | (go_at_call 234; (with_reducible refine (hc.out _).mono ?_); rintro e w1 ⟨rfl, d, rfl⟩; have hB := hid (below_drewN (Below.refl w.heap.size w) d)))
  go_ret
  exact ⟨rfl, hB.out⟩
set_option maxHeartbeats 4000000 in
set_option maxRecDepth 100000 in
theorem l03Cycles_any (w : World) (b0 : Nat) (v : Value) (p : List Nat) (h : Own w b0 2 v (nats p)) (hn : p.length ≤ 1000) (hlt : ∀ x, x < p.length → p.getD x 0 < p.length) :
    Calls Tryz.prog 155 #[v] w fun e w' => ∃ v', e = .returned v' ∧ Own w' w.heap.size 2 v' (nats (cyc p)) ∧ Below w.heap.size w w' := by
  have hil := nats_length p
  obtain ⟨A, cp, rfl, _, hA⟩ := h.form
  rw [hil] at h ⊢
  have hpg := hid (fun (x : Nat) (hx : x < p.length) => (show (nats p)[x]? = some (.int .i64 ((p.getD x 0 : Nat) : Int)) from by simp [nats, List.getD_eq_getElem?_getD, List.getElem?_eq_getElem hx]))
  have hplt := hid (fun (x : Nat) (hx : x < p.length) => hlt x hx)
  have hA2 := hid (fun (hx : 0 < p.length) => (show ∃ gp, A = some ⟨gp, 0, none⟩ from by
    rcases hA with ⟨_, h1, _⟩ | ⟨g, h1, _⟩
    · have : p.length = 0 := by rw [← hil, h1]; rfl
      omega
    · exact ⟨g, h1⟩))
  have hmk := fun W : World => run_make_row' (P := Tryz.prog) 53 4 (.bool false) 1 Tryz.underlying53 info_bool rfl .i64 .i64 p.length (by omega) (by omega) W
  have hmc := hid (toList_madeCells_one (.bool false) p.length)
  generalize madeCells #[.bool false] p.length = mc at *
  have hmcs := hid (show mc.size = p.length by rw [← Array.length_toList, hmc.out, List.length_replicate])
  have hS := (St.arg w h).newArr mc p.length hmcs.out 4 (by omega)
  rw [hmc.out] at hS
  have hrep : List.replicate p.length (Value.bool false) = bls (cyst p 0).1 := by simp [bls, cyst]
  rw [hrep] at hS
  replace hS := hid hS
  have hcl := hid (cyst_len p)
  have hco := hid (cyst_out p)
  have hcs := hid (fun k => (show cyst p (k + 1) = ((crun p (cyst p k).1 k).1, if 0 < (crun p (cyst p k).1 k).2 then (cyst p k).2 ++ [(crun p (cyst p k).1 k).2] else (cyst p k).2) from rfl))
  have hcb := hid (fun k => (show (crun p (cyst p k).1 k).2 ≤ p.length from by have h := crun_le p (cyst p k).1 k; rw [cyst_len] at h; exact h))
  have hseen := hid (fun s a (h : s[a]? = some true) => crun_seen (p := p) h)
  have hnew := hid (fun s a (h : s[a]? = some false) => crun_new (p := p) h)
  have hresult := hid (show (cyst p p.length).2 = cyc p from rfl)
  clear hA hil hlt hrep hmc h
  generalize hN : p.length = N at *
  replace hN := hid hN
  have hS2 := hS.out.newOwn [] 2 (by simp)
  simp only [List.length_nil, heap_alloc_size] at hS2
  replace hS := hid hS2.f1
  clear hS2
  have hs0 := hid (show nats (cyst p 0).2 = [] from rfl)
  go_enter Tryz.func155, Tryz.ntmps155
  go_wp2
  go_loopw [4, 5] (fun o i wr => ∃ (k : Nat) (vo : Value), k ≤ N ∧ i = .int .i64 k ∧ vo = o ∧ St w.heap.size w [Asn.own w.heap.size 4 (.slice (some ⟨w.heap.size, 0, none⟩) N N) (bls (cyst p k).1), Asn.own w.heap.size 2 vo (nats (cyst p k).2), Asn.own 0 2 (.slice A N cp) (nats p)] wr) (fun _ i _ => N - (intOf i).toNat)
  case atStart => exact ⟨0, _, Nat.zero_le _, rfl, rfl, by rw [hs0.out]; exact hS.out⟩
  case round =>
    obtain ⟨k, vo, hk, rfl, rfl, rS⟩ := hrel
    clear hS
    replace rS := hid rS
    by_cases hlk : k < N
    · have dk : decide ((k : Int) < (N : Int)) = true := decide_eq_true (by omega)
      obtain ⟨gp, rfl⟩ := hA2.out (by omega)
      go_wp2
      go_loopw [6, 7] (fun c a wr => ∃ (x C : Nat) (s : List Bool), c = .int .i64 C ∧ a = .int .i64 x ∧ x < N ∧ s.length = N ∧ Hid ((crun p s x).1 = (crun p (cyst p k).1 k).1 ∧ C + (crun p s x).2 = (crun p (cyst p k).1 k).2) ∧ St w.heap.size w [Asn.own w.heap.size 4 (.slice (some ⟨w.heap.size, 0, none⟩) N N) (bls s), Asn.own w.heap.size 2 vo (nats (cyst p k).2), Asn.own 0 2 (.slice (some ⟨gp, 0, none⟩) N cp) (nats p)] wr) (fun c _ _ => (crun p (cyst p k).1 k).2 - (intOf c).toNat)
      case atStart => exact ⟨k, 0, (cyst p k).1, rfl, rfl, hlk, hcl.out k, hid ⟨rfl, Nat.zero_add _⟩, rS.out⟩
      case round =>
        obtain ⟨x, C, s, rfl, rfl, hx, hsl, hr, rS⟩ := hrel
        have x0 : (0 : Int) ≤ (x : Int) := Int.natCast_nonneg _
        have x1 : (x : Int) < (N : Int) := by omega
        have hblen := hid (show (bls s).length = N by rw [bls_length]; exact hsl)
        by_cases hb : s[x]? = some true
        · have cs := rS.o0.cellAt x _ (bls_get hb)
          have hr2 := hr.out
          rw [hseen.out s x hb] at hr2
          obtain ⟨e1, e2⟩ := hr2
          dsimp only at e1 e2
          rw [Nat.add_zero] at e2
          replace e1 := hid e1; replace e2 := hid e2
          clear hb hr
          rw [e1.out] at rS
          replace rS := hid rS
          by_cases hz : 0 < (crun p (cyst p k).1 k).2
          · have hk1 := hid (hcs.out k)
            rw [if_pos hz] at hk1
            have hcb2 := hcb.out k
            have hol := hid (hco.out k)
            have hol2 := hid (nats_length (cyst p k).2)
            have hol3 := hol.out
            generalize hcr : crun p (cyst p k).1 k = R at *
            replace hcr := hid hcr
            have dz : decide (0 < (C : Int)) = true := decide_eq_true (by have := e2.out; omega)
            have dn : decide (0 < C) = true := decide_eq_true (by have := e2.out; omega)
            generalize hq : (cyst p k) = Q at *
            replace hq := hid hq
            go_wp2_with (first
              | ((with_reducible refine gate (N := 38) rfl ?_); refine St.app 32 2 (.int .i64 0) 8 Tryz.underlying32 info_i64 rfl (by omega) rfl _ _ rfl _ _ rfl rS.out.f1 _ rfl rfl Q.2.length hol2.out (by omega) ?_; intro gn cn w5 rS'; replace rS := hid rS'.f1; clear rS'))
            go_roundw
            case rel => exact ⟨k + 1, _, by omega, by go_num, rfl, by rw [hk1.out]; dsimp only; rw [nats_snoc, ← e2.out]; exact rS.out⟩
            case measure => simp [intOf]; omega
          · have hk1 := hid (hcs.out k)
            rw [if_neg hz] at hk1
            generalize hcr : crun p (cyst p k).1 k = R at *
            replace hcr := hid hcr
            have dz : decide (0 < (C : Int)) = false := decide_eq_false (by have := e2.out; omega)
            have dn : decide (0 < C) = false := decide_eq_false (by have := e2.out; omega)
            generalize hq : (cyst p k) = Q at *
            replace hq := hid hq
            go_wp2
            go_roundw
            case rel => exact ⟨k + 1, _, by omega, by go_num, rfl, by rw [hk1.out]; exact rS.out⟩
            case measure => simp [intOf]; omega
        · have hb2 := get_bool (by omega) hb
          have cs := rS.o0.cellAt x _ (bls_get hb2)
          have fs := Own.frozenAt rS.o0 hblen.out x
          have hr2 := hr.out
          rw [hnew.out s x hb2] at hr2
          have hbnd := hcb.out k
          have hpx := hplt.out x hx
          have hcp := hid (hpg.out x hx)
          have hset := hid (bls_set s x true)
          have hsl2 := hid (show (s.set x true).length = N by rw [List.length_set]; exact hsl)
          generalize hS1 : (crun p (cyst p k).1 k).1 = S1 at *
          generalize hC1 : (crun p (cyst p k).1 k).2 = C1 at *
          replace hS1 := hid hS1; replace hC1 := hid hC1
          generalize p.getD x 0 = px at *
          generalize s.set x true = s2 at *
          obtain ⟨e1, e2⟩ := hr2
          dsimp only at e1 e2
          generalize hcr : crun p s2 px = R at *
          replace hcr := hid hcr; replace e1 := hid e1
          clear hb hb2 hr
          replace rS := hid rS
          have mk : True := trivial
          go_wp2_with (first
            | ((with_reducible refine gate (N := 27) rfl ?_); clear mk; replace rS := hid (rS.out.setOwn hblen.out x (.bool true) hx); rw [hset.out] at rS; (have ck := rS.out.o2.cellAt x _ hcp.out); generalize wr.setCell _ _ = wx at *))
          go_roundw
          case rel => exact ⟨px, C + 1, s2, by go_num, rfl, hpx, hsl2.out, hid ⟨by rw [hcr.out]; exact e1.out, by rw [hcr.out]; omega⟩, rS.out⟩
          case measure => simp [intOf]; omega
    · obtain rfl : k = N := by omega
      have dk : decide ((k : Int) < (k : Int)) = false := decide_eq_false (by omega)
      go_wp2
      go_ret
      exact ⟨_, rfl, by rw [← hresult.out]; exact rS.out.o1, rS.out.bel⟩
end Go.Proofs.YthmcdfjijkecfaaGreat

/- slices.Sort over []int64. -/
namespace Go.Proofs.YthmcdfjijkecfaaGreat
open Go.RowKit
set_option linter.unusedVariables false
set_option linter.unusedSimpArgs false

def srt (l : List Int) : List Int := l.mergeSort fun x y => decide (x ≤ y)
theorem srt_perm (l : List Int) : (srt l).Perm l := List.mergeSort_perm _ _
theorem srt_length (l : List Int) : (srt l).length = l.length := (srt_perm l).length_eq
theorem srt_sorted (l : List Int) : (srt l).Pairwise (· ≤ ·) := by
  have h := List.pairwise_mergeSort (le := fun x y : Int => decide (x ≤ y)) (fun a b c h1 h2 => by simp at *; omega) (fun a b => by simp; omega) l
  exact h.imp fun h => by simpa using h
theorem srt_eq {l l' : List Int} (hp : l'.Perm l) (hs : l'.Pairwise (· ≤ ·)) : l' = srt l :=
  List.Perm.eq_of_pairwise (le := (· ≤ ·)) (fun a b _ _ h1 h2 => Int.le_antisymm h1 h2) hs (srt_sorted l) (hp.trans (srt_perm l).symm)
/-- Where a number goes in. -/
def insA (x : Int) : List Int → Nat
  | [] => 0
  | y :: l => if y ≤ x then insA x l + 1 else 0
theorem insA_le (x : Int) : ∀ l, insA x l ≤ l.length
  | [] => Nat.le_refl _
  | y :: l => by
    have := insA_le x l
    unfold insA; split <;> simp <;> omega
theorem insA_lt {x : Int} : ∀ {l : List Int} {j : Nat}, j < insA x l → ∃ y, l[j]? = some y ∧ y ≤ x
  | [], j, h => absurd h (Nat.not_lt_zero _)
  | y :: l, j, h => by
    unfold insA at h
    split at h
    · rename_i hy
      cases j with
      | zero => exact ⟨y, rfl, hy⟩
      | succ j => exact insA_lt (l := l) (j := j) (by omega)
    · exact absurd h (Nat.not_lt_zero _)
theorem insA_at {x : Int} : ∀ {l : List Int}, insA x l < l.length → ∃ y, l[insA x l]? = some y ∧ ¬ y ≤ x
  | [], h => absurd h (Nat.not_lt_zero _)
  | y :: l, h => by
    by_cases hy : y ≤ x
    · have e : insA x (y :: l) = insA x l + 1 := by rw [insA, if_pos hy]
      rw [e] at h ⊢
      exact insA_at (l := l) (by simpa using h)
    · have e : insA x (y :: l) = 0 := by rw [insA, if_neg hy]
      rw [e]
      exact ⟨y, rfl, hy⟩
def insX (x : Int) (l : List Int) : List Int := l.take (insA x l) ++ x :: l.drop (insA x l)
theorem insX_perm (x : Int) (l : List Int) : (insX x l).Perm (x :: l) := by
  have h : (l.take (insA x l) ++ x :: l.drop (insA x l)).Perm (x :: (l.take (insA x l) ++ l.drop (insA x l))) := List.perm_middle
  rw [List.take_append_drop] at h
  exact h
theorem insX_sorted {x : Int} {l : List Int} (h : l.Pairwise (· ≤ ·)) : (insX x l).Pairwise (· ≤ ·) := by
  have hl := h
  rw [← List.take_append_drop (insA x l) l, List.pairwise_append] at hl
  obtain ⟨h1, h2, h3⟩ := hl
  have ht : ∀ y ∈ l.take (insA x l), y ≤ x := fun y hy => by
    obtain ⟨j, hj, rfl⟩ := List.getElem_of_mem hy
    have hj' : j < insA x l := by rw [List.length_take] at hj; omega
    obtain ⟨z, hz, hzx⟩ := insA_lt hj'
    rw [List.getElem_take]
    have := List.getElem?_eq_some_iff.1 hz
    obtain ⟨_, e⟩ := this
    rw [e]; exact hzx
  have hd : ∀ y ∈ l.drop (insA x l), x ≤ y := fun y hy => by
    by_cases hlt : insA x l < l.length
    · obtain ⟨z, hz, hzx⟩ := insA_at hlt
      have e : l.drop (insA x l) = z :: l.drop (insA x l + 1) := by
        obtain ⟨_, e⟩ := List.getElem?_eq_some_iff.1 hz
        rw [← e]; exact List.drop_eq_getElem_cons hlt
      rw [e] at hy h2
      rcases List.mem_cons.1 hy with rfl | hy
      · omega
      · have := (List.pairwise_cons.1 h2).1 y hy; omega
    · rw [List.drop_eq_nil_of_le (by omega)] at hy; cases hy
  unfold insX
  rw [List.pairwise_append]
  refine ⟨h1, List.pairwise_cons.2 ⟨hd, h2⟩, fun a ha b hb => ?_⟩
  rcases List.mem_cons.1 hb with rfl | hb
  · exact ht a ha
  · exact h3 a ha b hb
theorem insX_length (x : Int) (l : List Int) : (insX x l).length = l.length + 1 := by rw [(insX_perm x l).length_eq]; rfl
/-- The first k numbers of a list, put in one after the other. -/
def insL (l : List Int) : Nat → List Int
  | 0 => []
  | k + 1 => match l[k]? with
    | some x => insX x (insL l k)
    | none => insL l k
theorem insL_step {l : List Int} {k : Nat} {x : Int} (h : l[k]? = some x) : insL l (k + 1) = insX x (insL l k) := by rw [insL, h]
theorem insL_ok (l : List Int) : ∀ k, k ≤ l.length → (insL l k).Perm (l.take k) ∧ (insL l k).Pairwise (· ≤ ·)
  | 0, _ => ⟨by simp [insL], List.Pairwise.nil⟩
  | k + 1, hk => by
    obtain ⟨h1, h2⟩ := insL_ok l k (by omega)
    have hx : l[k]? = some l[k] := List.getElem?_eq_getElem (by omega)
    rw [insL_step hx]
    refine ⟨(insX_perm _ _).trans ?_, insX_sorted h2⟩
    rw [List.take_add_one, hx]
    exact ((h1.cons _).trans (List.perm_append_singleton _ _).symm)
theorem insL_len (l : List Int) (k : Nat) (hk : k ≤ l.length) : (insL l k).length = k := by rw [(insL_ok l k hk).1.length_eq, List.length_take]; omega
theorem insL_srt (l : List Int) : insL l l.length = srt l := by
  obtain ⟨h1, h2⟩ := insL_ok l l.length (Nat.le_refl _)
  rw [List.take_length] at h1
  exact srt_eq h1 h2
section
open Go.Shelf
def srtL_ren : Go.Shelf.Ren := ⟨fun | 5 => 197 | 8 => 236 | 7 => 235 | 19 => 260 | 20 => 261 | 10 => 251 | 11 => 252 | 12 => 253 | 13 => 254 | 14 => 255 | 15 => 256 | 16 => 257 | 17 => 258 | 18 => 259 | 30 => 269 | 31 => 270 | 32 => 271 | 33 => 272 | 34 => 273 | 35 => 274 | 40 => 275 | n => n, fun | 23 => 32 | 25 => 2 | 3 => 3 | 32 => 143 | 22 => 32 | 0 => 0 | 44 => 249 | 46 => 51 | 4 => 4 | 36 => 242 | 35 => 241 | 41 => 246 | 5 => 5 | 9 => 9 | 53 => 258 | 57 => 262 | 63 => 264 | 64 => 265 | n => n, fun | n => n⟩
theorem srtL : Go.Proofs.SlLaysM.n5 Tryz.prog srtL_ren := {
  mixed := by kernel_rfl
  f5 := ⟨Tryz.f197.name, by decide, Tryz.func197.trans (congrArg some (by kernel_rfl))⟩
  f7 := ⟨Tryz.f235.name, by decide, Tryz.func235.trans (congrArg some (by kernel_rfl))⟩
  f8 := Tryz.func236.trans (congrArg some (by kernel_rfl))
  f10 := ⟨Tryz.f251.name, by decide, Tryz.func251.trans (congrArg some (by kernel_rfl))⟩
  f11 := ⟨Tryz.f252.name, by decide, Tryz.func252.trans (congrArg some (by kernel_rfl))⟩
  f12 := ⟨Tryz.f253.name, by decide, Tryz.func253.trans (congrArg some (by kernel_rfl))⟩
  f13 := ⟨Tryz.f254.name, by decide, Tryz.func254.trans (congrArg some (by kernel_rfl))⟩
  f14 := ⟨Tryz.f255.name, by decide, Tryz.func255.trans (congrArg some (by kernel_rfl))⟩
  f15 := ⟨Tryz.f256.name, by decide, Tryz.func256.trans (congrArg some (by kernel_rfl))⟩
  f16 := ⟨Tryz.f257.name, by decide, Tryz.func257.trans (congrArg some (by kernel_rfl))⟩
  f17 := ⟨Tryz.f258.name, by decide, Tryz.func258.trans (congrArg some (by kernel_rfl))⟩
  f18 := ⟨Tryz.f259.name, by decide, Tryz.func259.trans (congrArg some (by kernel_rfl))⟩
  f19 := Tryz.func260.trans (congrArg some (by kernel_rfl))
  f20 := Tryz.func261.trans (congrArg some (by kernel_rfl))
  f30 := ⟨Tryz.f269.name, by decide, Tryz.func269.trans (congrArg some (by kernel_rfl))⟩
  f31 := Tryz.func270.trans (congrArg some (by kernel_rfl))
  f32 := Tryz.func271.trans (congrArg some (by kernel_rfl))
  f33 := ⟨Tryz.f272.name, by decide, Tryz.func272.trans (congrArg some (by kernel_rfl))⟩
  f34 := ⟨Tryz.f273.name, by decide, Tryz.func273.trans (congrArg some (by kernel_rfl))⟩
  f35 := ⟨Tryz.f274.name, by decide, Tryz.func274.trans (congrArg some (by kernel_rfl))⟩
  f40 := ⟨Tryz.f275.name, by decide, Tryz.func275.trans (congrArg some (by kernel_rfl))⟩
  t0 := Tryz.underlying0
  a0 := Tryz.isAgg0
  z0 := Tryz.sizeOf0
  v0 := Tryz.zeroValue0
  t3 := Tryz.underlying3
  a3 := Tryz.isAgg3
  z3 := Tryz.sizeOf3
  v3 := Tryz.zeroValue3
  t4 := Tryz.underlying4
  a4 := Tryz.isAgg4
  z4 := Tryz.sizeOf4
  v4 := Tryz.zeroValue4
  t5 := Tryz.underlying5
  a5 := Tryz.isAgg5
  z5 := Tryz.sizeOf5
  v5 := Tryz.zeroValue5
  t9 := Tryz.underlying9
  a9 := Tryz.isAgg9
  z9 := Tryz.sizeOf9
  v9 := Tryz.zeroValue9
  t22 := Tryz.underlying32
  a22 := Tryz.isAgg32
  z22 := Tryz.sizeOf32
  v22 := Tryz.zeroValue32
  t23 := Tryz.underlying32
  a23 := Tryz.isAgg32
  z23 := Tryz.sizeOf32
  v23 := Tryz.zeroValue32
  t25 := Tryz.underlying2
  a25 := Tryz.isAgg2
  z25 := Tryz.sizeOf2
  v25 := Tryz.zeroValue2
  t32 := Tryz.underlying143
  a32 := Tryz.isAgg143
  z32 := Tryz.sizeOf143
  v32 := Tryz.zeroValue143
  t35 := Tryz.underlying241
  a35 := Tryz.isAgg241
  z35 := Tryz.sizeOf241
  v35 := Tryz.zeroValue241
  t36 := Tryz.underlying242
  a36 := Tryz.isAgg242
  z36 := Tryz.sizeOf242
  v36 := Tryz.zeroValue242
  t41 := Tryz.underlying246
  a41 := Tryz.isAgg246
  z41 := Tryz.sizeOf246
  v41 := Tryz.zeroValue246
  t44 := Tryz.underlying249
  a44 := Tryz.isAgg249
  z44 := Tryz.sizeOf249
  v44 := Tryz.zeroValue249
  t46 := Tryz.underlying51
  a46 := Tryz.isAgg51
  z46 := Tryz.sizeOf51
  v46 := Tryz.zeroValue51
  t53 := Tryz.underlying258
  a53 := Tryz.isAgg258
  z53 := Tryz.sizeOf258
  v53 := Tryz.zeroValue258
  t57 := Tryz.underlying262
  a57 := Tryz.isAgg262
  z57 := Tryz.sizeOf262
  v57 := Tryz.zeroValue262
  t63 := Tryz.underlying264
  a63 := Tryz.isAgg264
  z63 := Tryz.sizeOf264
  v63 := Tryz.zeroValue264
  t64 := Tryz.underlying265
  a64 := Tryz.isAgg265
  z64 := Tryz.sizeOf265
  v64 := Tryz.zeroValue265 }
end
theorem slSort_st {base : Nat} {w0 : World} {L : List Asn} {W : World} {v : Value} {l : List Int} (h : St base w0 (Asn.own base 2 v (ints l) :: L) W) (hl : l.length < 1000000) :
    Calls Tryz.prog 197 #[v] W fun e w' => e = .returned (.tuple #[]) ∧ St base w0 (Asn.own base 2 v (ints (srt l)) :: L) w' := by
  have hO : W.ownsRow base 2 1 v (ints l).length (ints l) := h.o0
  have hil := ints_length l
  rcases hO.2 with ⟨rfl, hn⟩ | ⟨g, cap, cur, rfl, hg, hb, h1, h2, h3, h4⟩
  · have e : l = [] := by cases l with
      | nil => rfl
      | cons a t => simp [ints] at hn
    subst e
    have hc := AnyM.slices_Sort_int_none srtL none 0 W
    change Calls Tryz.prog 197 _ _ _ at hc
    refine hc.mono ?_
    rintro e w' ⟨rfl, rfl⟩
    exact ⟨rfl, by rw [show srt [] = [] by simp [srt]]; exact h⟩
  · rw [hil] at h1 h4 h ⊢
    rw [Nat.mul_one] at h4
    have hc := AnyM.slices_Sort_int srtL g 0 cap l W (holds_of_blockI hb h4) (Array.getElem?_eq_some_iff.1 hb).1 (by omega)
    change Calls Tryz.prog 197 _ _ _ at hc
    refine hc.mono ?_
    rintro e w' ⟨rfl, n, os, rfl⟩
    have hs := ownsRow_sortedI (n := n) (os := os) (ts := srt l) (srt_length l) hg hb h1 h2 h3
    have hgr := grownBy_sortedI (w := W) (g := g) (n := n) (os := os) (srt l).toArray
    refine ⟨rfl, h.turn (a' := Asn.own base 2 (.slice (some ⟨g, 0, none⟩) l.length cap) (ints (srt l))) ?_ (fun k hk => .inl ?_) (fun k hk => ?_) ?_ (fun k hk hne => ?_)⟩
    · show Own _ _ _ _ _
      unfold Own
      rw [ints_length, srt_length]
      exact hs
    · have e : g = k := by simpa [Asn.own, Value.ownBlock] using hk
      show Value.ownBlock _ = some k
      rw [← e]; rfl
    · have e : g = k := by
        have := hk
        simpa [Asn.own, Value.ownBlock] using this
      omega
    · exact ⟨hgr.os, hgr.tape, hgr.output, hgr.size, fun k hk => hgr.block k (by have := (Array.getElem?_eq_some_iff.1 hb).1; omega) (fun e => by injection e with e; omega)⟩
    · exact hgr.block k hk fun e => hne (by injection e with e; subst e; rfl)
end Go.Proofs.YthmcdfjijkecfaaGreat
