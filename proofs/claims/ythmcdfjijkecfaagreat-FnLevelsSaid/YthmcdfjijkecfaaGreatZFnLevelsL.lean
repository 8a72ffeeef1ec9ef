/- What the proof of FnLevels leans on, part 12 of 28. -/
import Derived.Test.YthmcdfjijkecfaaGreatZFnLevelsK
import Derived.StillTailTactics
/- ClosedWalks: the reference's walk. -/
namespace Go.Proofs.YthmcdfjijkecfaaGreat
open Go.RowKit
set_option linter.unusedVariables false
set_option linter.unusedSimpArgs false

theorem tabs_get (m : Mach) (l n s q : Nat) (h : q < s) : (tabA m l n s ++ tabA (inv m l s) l n s)[q]? = some (permZ m l q n) := by
  rw [List.getElem?_append_left (by rw [tabA_length]; exact h), tabA_get m l n s q h]
theorem tabs_get2 (m : Mach) (l n s q : Nat) (h : q < s) : (tabA m l n s ++ tabA (inv m l s) l n s)[s + q]? = some (permZ (inv m l s) l q n) := by
  rw [List.getElem?_append_right (by rw [tabA_length]; omega), tabA_length, show s + q - s = q by omega, tabA_get _ l n s q h]
/-- The map of number q, forward and then backward. -/
def both (F B : Nat → Nat → Nat) (s q : Nat) : Nat → Nat := if q < s then F q else B (q - s)
theorem part_both (F B : Nat → Nat → Nat) (s M : Nat) (W : Nat → Int) (i q : Nat) (x : Int) (hq : q < 2 * s) (hx : x = wrap64 (wrap64 (part F B s W i (min q s) (q - s) (both F B s q i)) + wrap64 (W i))) :
    (wv (part F B s W i (min q s) (q - s)) M).set (both F B s q i) (.int .i64 x) = wv (part F B s W i (min (q + 1) s) (q + 1 - s)) M := by
  by_cases h : q < s
  · have e1 : both F B s q i = F q i := by simp [both, h]
    rw [e1] at hx ⊢
    rw [show min q s = q by omega, show q - s = 0 by omega] at hx ⊢
    rw [show min (q + 1) s = q + 1 by omega, show q + 1 - s = 0 by omega]
    exact part_setF F B s M W i q 0 x hx
  · have e1 : both F B s q i = B (q - s) i := by simp [both, h]
    rw [e1] at hx ⊢
    rw [show min q s = s by omega] at hx ⊢
    rw [show min (q + 1) s = s by omega, show q + 1 - s = (q - s) + 1 by omega]
    exact part_setB F B s M W i s (q - s) x hx

set_option maxHeartbeats 8000000 in
set_option maxRecDepth 100000 in
theorem specWalks_any (w : World) (m : Mach) (hk : m.Ok) (n k : Int) :
    Calls Tryz.prog 70 #[.agg (mcells m), .int .i64 n, .int .i64 k] w fun e w' => e = .returned (.tuple #[.int .i64 (walksAns m n k).1, .int .i64 (walksAns m n k).2]) ∧ Below w.heap.size w w' := by
  have hS := hid ((St.start w).newMB m 27)
  have hcode := hid (fun W => l05Code_any W m hk n)
  by_cases h0 : levelI m n = 0
  · obtain ⟨l, s, n, g, rfl, hn5, hnl, hpw⟩ := levelI_good h0
    rw [h0] at hcode
    have gL := hid g.L
    have l2 := g.l2
    have l3 := g.l3
    have s16 := g.s16
    have s1 := g.s1
    by_cases hnk : ((n : Int) ≤ 6 - (l : Int) ∧ 0 ≤ k ∧ k ≤ 10)
    · obtain ⟨k, rfl⟩ := Int.eq_ofNat_of_zero_le hnk.2.1
      have hk10 : k ≤ 10 := by omega
      have hn6 : (n : Int) ≤ 6 - (l : Int) := hnk.1
      rw [walksAns_0 g h0 ⟨hn6, hk10⟩]
      have hin := hid (fun W => l01In_any (k : Int) 0 10 true (decide_eq_true (by omega)).symm W)
      have d6 : decide ((n : Int) > 6 - (l : Int)) = false := decide_eq_false (by omega)
      have hgr := hid (fun W => l05Tables_any W m l s g hk n (by omega) (by omega))
      have hpl := hid (fun m q => permZ_length m l q n)
      have htl := hid (show (tabA m l n s ++ tabA (inv m l s) l n s).length = 2 * s by rw [List.length_append, tabA_length, tabA_length]; omega)
      have hrow := hid (fun q (hq : q < 2 * s) => (show ∃ L, (tabA m l n s ++ tabA (inv m l s) l n s)[q]? = some L ∧ L.length = pw l n ∧ ∀ i, i < pw l n → L[i]? = some ((both (fun q i => pf m l q n i) (fun q i => pf (inv m l s) l q n i) s q i : Nat) : Int) ∧ both (fun q i => pf m l q n i) (fun q i => pf (inv m l s) l q n i) s q i < pw l n from by
        by_cases h : q < s
        · refine ⟨_, tabs_get m l n s q h, permZ_length _ _ _ _, fun i hi => ?_⟩
          unfold both
          rw [if_pos h]
          exact ⟨permZ_get m l q n i hi, pf_lt g q n i h⟩
        · obtain ⟨p, rfl⟩ : ∃ p, q = s + p := ⟨q - s, by omega⟩
          refine ⟨_, tabs_get2 m l n s p (by omega), permZ_length _ _ _ _, fun i hi => ?_⟩
          unfold both
          rw [if_neg h, show s + p - s = p by omega]
          exact ⟨permZ_get _ l p n i hi, pf_lt (inv_good g) p n i (by omega)⟩))
      have hpos := pw_pos l (by omega) n
      generalize hT : tabA m l n s ++ tabA (inv m l s) l n s = T at *
      replace hT := hid hT
      generalize hFe : (fun q i => pf m l q n i) = F at *
      generalize hBe : (fun q i => pf (inv m l s) l q n i) = B at *
      clear hFe hBe hnk h0 hpl
      replace hk := hid hk; replace g := hid g
      generalize hMn : pw l n = M at *
      replace hMn := hid hMn
      have hmk := fun W : World => run_make_row' (P := Tryz.prog) 32 2 (.int .i64 0) 8 Tryz.underlying32 info_i64 rfl .i64 .i64 M (by omega) (by omega) W
      have hmc := hid (toList_madeCells_one (.int .i64 0) M)
      generalize madeCells #[.int .i64 0] M = mc at *
      have hmcs := hid (show mc.size = M by rw [← Array.length_toList, hmc.out, List.length_replicate])
      go_enter Tryz.func70, Tryz.ntmps70
      go_wp2_with (first
        | ((with_reducible refine gate (N := 17) rfl ?_); refine load_mach rfl _ rfl w.heap.size rfl m hS.out.g0 ?_)
        | ((with_reducible refine gate (N := 37) rfl ?_); refine load_mach rfl _ rfl w.heap.size rfl m hS.out.g0 ?_)
        | (go_at_call 119; (with_reducible refine (hcode.out _).mono ?_); rintro e w1 ⟨rfl, hb⟩; replace hS := hid (hS.out.call hb); have cL := MB.cL hS.out.g0; rw [gL.out] at cL; clear hb hcode)
        | (go_at_call 142; (with_reducible refine (hin.out _).mono ?_); rintro e w3 ⟨rfl, rfl⟩)
        | (go_at_call 114; (with_reducible refine (hgr.out _).mono ?_); rintro e w2 ⟨vT, rfl, hG, hb⟩; obtain ⟨rows, hS'⟩ := hS.out.callMat hb hG; obtain ⟨gT, cT, rfl, _, _⟩ := hG.blk (fun e => by have h1 := congrArg List.length e; rw [htl.out] at h1; simp at h1; omega); rw [htl.out] at hS' ⊢; replace hS := hid hS'; clear hb hgr cL hG hS'))
      obtain ⟨L0, hL0, hL0l, _⟩ := hrow.out 0 (by omega)
      replace hL0 := hid hL0; replace hL0l := hid hL0l
      have hS2 := hid hS.out.nothing
      have hlt2 := hid hS.out.le
      obtain ⟨r0, c00, hr0⟩ := Asn.row hS.out.g0 0 L0 hL0.out
      obtain ⟨g0, c0, rfl, _, hg0⟩ := hr0.blk (fun e => by have h1 := congrArg List.length e; rw [ints_length, hL0l.out] at h1; simp at h1; omega)
      rw [ints_length, hL0l.out] at c00
      have hT0 := hid (show gT < w2.heap.size from ((show Own w2 _ _ _ rows from hS.out.g0.1).lt gT rfl).2)
      replace c00 := hid c00
      clear hr0
      go_loopw [10, 11] (fun o i wr => ∃ j : Nat, j ≤ M ∧ i = .int .i64 j ∧ o = .int .i64 (wrap64 (totW F B s M k j)) ∧ St w2.heap.size w2 [] wr) (fun _ i _ => M - (intOf i).toNat)
      case atStart => exact ⟨0, Nat.zero_le _, rfl, by simp [totW, wrap64], St.start _⟩
      case round =>
        obtain ⟨j, hj, rfl, rfl, rS⟩ := hrel
        replace rS := hid rS
        have e00 : wr.cell? ⟨gT, 0, none⟩ = some (.slice (some ⟨g0, 0, none⟩) M c0) := (rS.out.bel.cell (p := ⟨gT, 0, none⟩) hT0.out).trans c00.out
        by_cases hjM : j < M
        · have dj : decide ((j : Int) < (M : Int)) = true := decide_eq_true (by omega)
          have rS1 := hid (rS.out.newArr mc M hmcs.out 2 (by omega))
          rw [hmc.out] at rS1
          have rS2 := hid (rS.out.newArr (mc.setIfInBounds j (.int .i64 1)) M (by rw [Array.size_setIfInBounds, hmcs.out]) 2 (by omega))
          rw [Array.toList_setIfInBounds, hmc.out, wv_one] at rS2
          have co := Own.cellAt rS1.out.g0 j _ (List.getElem?_eq_getElem (by rw [List.length_replicate]; exact hjM))
          rw [List.getElem_replicate] at co
          have fo := Own.frozenAt rS1.out.g0 (by rw [List.length_replicate]) j
          go_wp2
          clear co fo e00 rS1
          generalize wr.heap.size = ga at *
          generalize wr.alloc (.cells (mc.setIfInBounds j (.int .i64 1)) 2) = wa at *
          go_loopw [12, 13] (fun v i wb => ∃ t : Nat, t ≤ k ∧ i = .int .i64 t ∧ ∃ g1 c1, v = .slice (some ⟨g1, 0, none⟩) M c1 ∧ St w2.heap.size w2 [Asn.own w2.heap.size 2 (.slice (some ⟨g1, 0, none⟩) M c1) (wv (walkW F B s M j t) M)] wb) (fun _ i _ => k - (intOf i).toNat)
          case atStart => exact ⟨0, Nat.zero_le _, rfl, _, _, rfl, rS2.out⟩
          case round =>
            obtain ⟨t, ht, rfl, g1, c1, rfl, yS⟩ := hrel
            clear rS2
            replace yS := hid yS
            by_cases htk : t < k
            · have dt : decide ((t : Int) < (k : Int)) = true := decide_eq_true (by omega)
              have yS2 := hid (yS.out.newArr mc M hmcs.out 2 (by omega))
              rw [hmc.out, wv_zero] at yS2
              go_wp2
              clear yS
              generalize wr.heap.size = gN at *
              generalize wr.alloc (.cells mc 2) = wn at *
              have hnxt := hid (show walkW F B s M j (t + 1) = (fun p => acc F B s (walkW F B s M j t) p M) from rfl)
              generalize hWf : walkW F B s M j t = Wf at *
              replace hWf := hid hWf
              go_loopw [15] (fun i wc => ∃ x : Nat, x ≤ M ∧ i = .int .i64 x ∧ St w2.heap.size w2 [Asn.own w2.heap.size 2 (.slice (some ⟨gN, 0, none⟩) M M) (wv (fun p => acc F B s Wf p x) M), Asn.own w2.heap.size 2 (.slice (some ⟨g1, 0, none⟩) M c1) (wv Wf M)] wc) (fun i _ => M - (intOf i).toNat)
              case atStart => exact ⟨0, Nat.zero_le _, rfl, yS2.out⟩
              case round =>
                obtain ⟨x, hx, rfl, zS⟩ := hrel
                clear yS2
                replace zS := hid zS
                by_cases hxM : x < M
                · have dx : decide ((x : Int) < (M : Int)) = true := decide_eq_true (by omega)
                  have h2s : (((2 * s : Nat) : Int)) = 2 * (s : Int) := by omega
                  replace h2s := hid h2s
                  generalize hx2 : wrap64 (Wf x) = x2 at *
                  replace hx2 := hid hx2
                  have zS0 := hid (show St w2.heap.size w2 [Asn.own w2.heap.size 2 (.slice (some ⟨gN, 0, none⟩) M M) (wv (part F B s Wf x (min 0 s) (0 - s)) M), Asn.own w2.heap.size 2 (.slice (some ⟨g1, 0, none⟩) M c1) (wv Wf M)] wr from by
                    have h := zS.out
                    rw [show (fun p => acc F B s Wf p x) = part F B s Wf x (min 0 s) (0 - s) from funext fun p => by rw [Nat.zero_min, Nat.zero_sub]; exact (part_zero F B s Wf x p).symm] at h
                    exact h)
                  clear zS
                  go_wp2
                  go_loopw [16] (fun i wd => ∃ q : Nat, q ≤ 2 * s ∧ (x2 = 0 → q = 0) ∧ i = .int .i64 q ∧ St w2.heap.size w2 [Asn.own w2.heap.size 2 (.slice (some ⟨gN, 0, none⟩) M M) (wv (part F B s Wf x (min q s) (q - s)) M), Asn.own w2.heap.size 2 (.slice (some ⟨g1, 0, none⟩) M c1) (wv Wf M)] wd) (fun i _ => 2 * s - (intOf i).toNat)
                  case atStart => exact ⟨0, Nat.zero_le _, fun _ => rfl, rfl, zS0.out⟩
                  case round =>
                    obtain ⟨q, hq, hq0, rfl, zS⟩ := hrel
                    clear zS0
                    replace hq0 := hid hq0
                    replace zS := hid zS
                    have cx := Own.cellAt zS.out.g1 x _ (wv_get Wf M x hxM)
                    rw [hx2.out] at cx
                    by_cases hz : x2 = 0
                    · obtain rfl := hq0.out hz
                      subst hz
                      have hsk := hid (part_skip F B s M Wf x (by rw [hx2.out]))
                      have dq : decide ((0 : Nat) < 2 * s) = true := decide_eq_true (by omega)
                      have dq2 : (0 : Int) < ((2 * s : Nat) : Int) := by omega
                      go_wp2
                      go_roundw
                      case rel => exact ⟨x + 1, by omega, by go_num, by have h := zS.out; rw [Nat.zero_min, Nat.zero_sub, hsk.out] at h; exact h⟩
                      case measure => simp [intOf]; omega
                    · have hzb : (x2 != 0) = true := by rw [bne_iff_ne]; exact hz
                      by_cases hqs : q < 2 * s
                      · obtain ⟨L, hL, hLl, hLg⟩ := hrow.out q hqs
                        obtain ⟨hLx, hLlt⟩ := hLg x hxM
                        have hp := hid (part_both F B s M Wf x q _ hqs rfl)
                        have hm2 := hid ((hS.out.call zS.out.bel).g0)
                        obtain ⟨r, cr, hr⟩ := Asn.row hm2.out q L hL
                        obtain ⟨gr, cc, rfl, _, _⟩ := hr.blk (fun e => by have h1 := congrArg List.length e; rw [ints_length, hLl] at h1; simp at h1; omega)
                        rw [ints_length, hLl] at cr hr
                        have cR := hr.cellAt x (.int .i64 ((both F B s q x : Nat) : Int)) (by simp [ints, hLx])
                        have cN := Own.cellAt zS.out.g0 (both F B s q x) _ (wv_get _ M _ hLlt)
                        have fN := Own.frozenAt zS.out.g0 (wv_length _ M) (both F B s q x)
                        have dq : decide ((q : Int) < ((2 * s : Nat) : Int)) = true := decide_eq_true (by omega)
                        rw [hx2.out] at hp
                        clear hL hLl hLg hLx hm2 hr
                        generalize wrap64 (part F B s Wf x (min q s) (q - s) (both F B s q x)) = x1 at *
                        generalize both F B s q x = fq at *
                        go_upto_region 22 with (fail)
                        refine wp_region_still_tail 24 (by kernel_rfl) (by kernel_rfl) ?_
                        simp only [List.take_succ_cons, List.take_zero, List.drop_succ_cons, List.drop_zero]
                        repeat still_step
                        try refine wpStill_nil ?_
                        change wpList _ _ _ _ _ wr.drew
                        have cN2 : wr.drew.cell? ⟨gN, fq, none⟩ = some (.int .i64 x1) := cN
                        have fN2 : wr.drew.frozen? ⟨gN, fq, none⟩ = false := fN
                        have zD := hid (zS.out.drew.setOwn (wv_length _ _) fq (.int .i64 (wrap64 (x1 + x2))) hLlt)
                        rw [hp.out] at zD
                        clear cN fN cR cr cx zS hp
                        generalize wr.drew = wd at *
                        go_wp2
                        go_roundw
                        case rel => exact ⟨q + 1, by omega, fun h => absurd h hz, by go_num, zD.out⟩
                        case measure => simp [intOf]; omega
                      · obtain rfl : q = 2 * s := by omega
                        go_wp2
                        go_roundw
                        case rel => exact ⟨x + 1, by omega, by go_num, by have h := zS.out; rw [show min (2 * s) s = s by omega, show 2 * s - s = s by omega] at h; exact h⟩
                        case measure => simp [intOf]; omega
                · obtain rfl : M = x := by omega
                  go_wp2
                  go_roundw
                  case rel => exact ⟨t + 1, by omega, by go_num, _, _, rfl, by rw [hnxt.out]; exact zS.out.f1.drop⟩
                  case measure => simp [intOf]; omega
            · obtain rfl : k = t := by omega
              have hcj := Own.cellAt yS.out.g0 j _ (wv_get (walkW F B s M j k) M j hjM)
              have hw64 := hid (wrap64_add (totW F B s M k j) (walkW F B s M j k j))
              have htot := hid (show totW F B s M k (j + 1) = totW F B s M k j + walkW F B s M j k j from rfl)
              generalize walkW F B s M j k j = x1 at *
              generalize hx2 : wrap64 (totW F B s M k j) = x2 at *
              generalize hx3 : wrap64 x1 = x3 at *
              go_wp2
              go_roundw
              case rel => exact ⟨j + 1, by omega, by go_num, by rw [htot.out, ← hw64.out], yS.out.drop⟩
              case measure => simp [intOf]; omega
        · obtain rfl : M = j := by omega
          go_wp2
          go_ret2
          exact ⟨rfl, (hS.out.call rS.out.bel).bel⟩
    · rw [walksAns_2 g h0 hnk]
      replace hk := hid hk; replace g := hid g
      by_cases hn6 : (n : Int) ≤ 6 - (l : Int)
      · have hin := hid (fun W => l01In_any k 0 10 false (decide_eq_false (fun h => hnk ⟨hn6, h⟩)).symm W)
        have d6 : decide ((n : Int) > 6 - (l : Int)) = false := decide_eq_false (by omega)
        clear hnk h0
        go_enter Tryz.func70, Tryz.ntmps70
        go_wp2_with (first
          | ((with_reducible refine gate (N := 17) rfl ?_); refine load_mach rfl _ rfl w.heap.size rfl m hS.out.g0 ?_)
          | (go_at_call 119; (with_reducible refine (hcode.out _).mono ?_); rintro e w1 ⟨rfl, hb⟩; replace hS := hid (hS.out.call hb); have cL := MB.cL hS.out.g0; rw [gL.out] at cL; clear hb hcode)
          | (go_at_call 142; (with_reducible refine (hin.out _).mono ?_); rintro e w3 ⟨rfl, rfl⟩))
        go_ret2
        exact ⟨rfl, hS.out.bel⟩
      · have d6 : decide ((n : Int) > 6 - (l : Int)) = true := decide_eq_true (by omega)
        clear hnk h0
        go_enter Tryz.func70, Tryz.ntmps70
        go_wp2_with (first
          | ((with_reducible refine gate (N := 17) rfl ?_); refine load_mach rfl _ rfl w.heap.size rfl m hS.out.g0 ?_)
          | (go_at_call 119; (with_reducible refine (hcode.out _).mono ?_); rintro e w1 ⟨rfl, hb⟩; replace hS := hid (hS.out.call hb); have cL := MB.cL hS.out.g0; rw [gL.out] at cL; clear hb hcode))
        go_ret2
        exact ⟨rfl, hS.out.bel⟩
  · rw [walksAns_c h0]
    have hc : levelI m n = 1 ∨ levelI m n = 2 := by rcases levelI_cases m n with h | h; exact absurd h h0; exact h
    generalize levelI m n = c at *
    clear h0
    rcases hc with rfl | rfl
    all_goals
      go_enter Tryz.func70, Tryz.ntmps70
      go_wp2_with (first
        | ((with_reducible refine gate (N := 17) rfl ?_); refine load_mach rfl _ rfl w.heap.size rfl m hS.out.g0 ?_)
        | (go_at_call 119; (with_reducible refine (hcode.out _).mono ?_); rintro e w1 ⟨rfl, hb⟩; replace hS := hid (hS.out.call hb); clear hb hcode))
      go_ret2
      exact ⟨rfl, hS.out.bel⟩
end Go.Proofs.YthmcdfjijkecfaaGreat

/- Lists of texts. -/
namespace Go.Proofs.YthmcdfjijkecfaaGreat
open Go.RowKit
set_option linter.unusedVariables false
set_option linter.unusedSimpArgs false
def strs (L : List ByteArray) : List Value := L.map Value.string
theorem strs_length (L : List ByteArray) : (strs L).length = L.length := by simp [strs]
theorem strs_snoc (L : List ByteArray) (s : ByteArray) : strs (L ++ [s]) = strs L ++ [.string s] := by simp [strs]
end Go.Proofs.YthmcdfjijkecfaaGreat

/- Parts of a text between bytes: the reference's l01Split. -/
namespace Go.Proofs.YthmcdfjijkecfaaGreat
open Go.RowKit
set_option linter.unusedVariables false
set_option linter.unusedSimpArgs false
-- @LONG

/-- A byte of a text. -/
def bt (s : ByteArray) (i : Nat) : Nat := if h : i < s.size then (s[i]'h).toNat else 0
theorem bt_eq {s : ByteArray} {i : Nat} (h : i < s.size) : (s[i]'h).toNat = bt s i := by unfold bt; rw [dif_pos h]
theorem bt_lt (s : ByteArray) (i : Nat) : bt s i < 256 := by
  unfold bt; split
  · exact UInt8.toNat_lt _
  · omega
section
variable {ops : Array Oper} {C : World → Prop} {Q : Act → Prop} {a : Act} {o : Oper} {rest : List Oper}
/-- A byte of a text, in a region that only reads. -/
theorem quiet_idx (hw : Region.wanted o (yielded ops a.tmps) = true) (t : TypeId) (x y : Operand) (ho : o.op = .index t x y) (ht : Tryz.prog.underlying t = some .string) (s : ByteArray) (k : Nat) (i : Int) (hx : a.eval x = .string s) (hy : a.eval y = .int .i64 i) (hi : i = (k : Nat)) (hk : k < s.size)
    (h : wpQuiet Tryz.prog ops C Q rest (a.put o.dst (.int .u8 (bt s k : Nat)))) : wpQuiet Tryz.prog ops C Q (o :: rest) a := by
  subst hi
  exact BigFrame.wpQuiet_want hw fun K hK => ⟨.int .u8 (bt s k : Nat), fun w _ => by
    have e : (execOp a.eval o).run Tryz.prog w = .ok (.value (.int .u8 (bt s k : Nat))) w := by
      unfold execOp
      simp only [ho, hx, hy]
      have e2 : (Instr.index t (.string s) (.int .i64 (k : Nat))).run Tryz.prog w = .ok (.int .u8 (bt s k : Nat)) w := by
        rw [run_index_string w t s .i64 k ht, dif_pos ⟨by omega, by omega⟩]
        have e3 := bt_eq hk
        simp only [Int.toNat_natCast, e3]
      simp [go_sem, e2]
    unfold Oper.quietAt
    rw [e]
    exact ⟨rfl, rfl⟩, hK _ h⟩
end
/-- The parts that are done, and where the next one begins, behind i bytes. -/
def splP (s : ByteArray) (c : Nat) : Nat → List ByteArray × Nat
  | 0 => ([], 0)
  | i + 1 => if bt s i = c then ((splP s c i).1 ++ [s.extract (splP s c i).2 i], i + 1) else splP s c i
/-- The parts of a text between the bytes c. -/
def splL (s : ByteArray) (c : Nat) : List ByteArray := (splP s c s.size).1 ++ [s.extract (splP s c s.size).2 s.size]
theorem splP_at (s : ByteArray) (c : Nat) : ∀ i, (splP s c i).2 ≤ i
  | 0 => Nat.le_refl _
  | i + 1 => by
    have := splP_at s c i
    unfold splP; split
    · exact Nat.le_refl _
    · omega
theorem splP_len (s : ByteArray) (c : Nat) : ∀ i, (splP s c i).1.length ≤ i
  | 0 => Nat.le_refl _
  | i + 1 => by
    have := splP_len s c i
    unfold splP; split
    · simp; omega
    · omega
theorem splL_len (s : ByteArray) (c : Nat) : (splL s c).length ≤ s.size + 1 ∧ 1 ≤ (splL s c).length := by
  have := splP_len s c s.size
  unfold splL; simp; omega
theorem splP_sz (s : ByteArray) (c : Nat) : ∀ i, i ≤ s.size → ∀ p ∈ (splP s c i).1, p.size ≤ s.size
  | 0, _, p, hp => by cases hp
  | i + 1, h, p, hp => by
    rw [splP] at hp
    split at hp
    · rcases List.mem_append.1 hp with hp | hp
      · exact splP_sz s c i (by omega) p hp
      · rw [List.mem_singleton.1 hp, ByteArray.size_extract]; omega
    · exact splP_sz s c i (by omega) p hp
theorem splL_sz (s : ByteArray) (c : Nat) : ∀ p ∈ splL s c, p.size ≤ s.size := fun p hp => by
  unfold splL at hp
  rcases List.mem_append.1 hp with hp | hp
  · exact splP_sz s c _ (Nat.le_refl _) p hp
  · rw [List.mem_singleton.1 hp, ByteArray.size_extract]; omega
set_option maxHeartbeats 2000000 in
set_option maxRecDepth 100000 in
theorem l01Split_any (w : World) (s : ByteArray) (hs : s.size ≤ 100000) (c : Nat) :
    Calls Tryz.prog 262 #[.string s, .int .u8 c] w fun e w' => ∃ v, e = .returned v ∧ Own w' w.heap.size 9 v (strs (splL s c)) ∧ Below w.heap.size w w' := by
  have hS0 := hid ((St.start w).newOwn [] 9 (by simp))
  have hb := hid (fun k (hk : k < s.size) => bt_eq hk)
  have hat := hid (splP_at s c)
  have hln := hid (splP_len s c)
  have hst := hid (fun k => (show splP s c (k + 1) = if bt s k = c then ((splP s c k).1 ++ [s.extract (splP s c k).2 k], k + 1) else splP s c k from rfl))
  have hen := hid (show splL s c = (splP s c s.size).1 ++ [s.extract (splP s c s.size).2 s.size] from rfl)
  rw [hen.out]
  obtain ⟨P, hP⟩ : ∃ P, P = splP s c := ⟨_, rfl⟩
  have h0 := hid (show P 0 = ([], 0) by rw [hP]; rfl)
  rw [← hP] at hat hln hst ⊢
  clear hP hen
  go_enter Tryz.func262, Tryz.ntmps262
  go_wp2
  go_loopw [5, 6, 7] (fun o a i wr => ∃ k : Nat, k ≤ s.size ∧ i = .int .i64 k ∧ a = .int .i64 ((P k).2 : Nat) ∧ St w.heap.size w [Asn.own w.heap.size 9 o (strs (P k).1)] wr) (fun _ _ i _ => s.size - (intOf i).toNat)
  case atStart => exact ⟨0, Nat.zero_le _, rfl, by rw [h0.out]; rfl, by rw [h0.out]; exact hS0.out⟩
  case round =>
    obtain ⟨k, hk, rfl, rfl, rS⟩ := hrel
    clear hS0
    replace rS := hid rS
    by_cases hlt : k < s.size
    · have hbk := hb.out k hlt
      have hak := hat.out k
      have hlk := hln.out k
      have hsk := hst.out k
      have dk : decide ((k : Int) < (s.size : Int)) = true := decide_eq_true (by omega)
      have hpl := hid (strs_length (P k).1)
      generalize bt s k = b at *
      by_cases e : b = c
      · subst e
        rw [if_pos rfl] at hsk
        replace hsk := hid hsk
        generalize hat' : (P k).2 = at0 at *
        go_wp2_with (first
          | ((with_reducible refine gate (N := 26) rfl ?_); refine St.app 64 9 (.string { data := #[] }) 16 Tryz.underlying64 info_str rfl (by omega) rfl _ _ rfl _ _ rfl rS.out _ rfl rfl (P k).1.length hpl.out (by omega) ?_; intro gn cap w2 hO2; replace rS := hid hO2; clear hO2))
        go_roundw
        case rel => exact ⟨k + 1, by omega, by go_num, by rw [hsk.out]; go_num, by rw [hsk.out, strs_snoc]; exact rS.out⟩
        case measure => simp [intOf]; omega
      · rw [if_neg e] at hsk
        replace hsk := hid hsk
        have db : ((b : Int) == (c : Int)) = false := by simp; omega
        go_wp2
        go_roundw
        case rel => exact ⟨k + 1, by omega, by go_num, by rw [hsk.out], by rw [hsk.out]; exact rS.out⟩
        case measure => simp [intOf]; omega
    · obtain rfl : k = s.size := by omega
      have hak := hat.out s.size
      have hlk := hln.out s.size
      have hpl := hid (strs_length (P s.size).1)
      generalize hat' : (P s.size).2 = at0 at *
      go_wp2_with (first
        | ((with_reducible refine gate (N := 34) rfl ?_); refine St.app 64 9 (.string { data := #[] }) 16 Tryz.underlying64 info_str rfl (by omega) rfl _ _ rfl _ _ rfl rS.out _ rfl rfl (P s.size).1.length hpl.out (by omega) ?_; intro gn cap w2 hO2; replace rS := hid hO2; clear hO2))
      go_ret
      exact ⟨_, rfl, by rw [strs_snoc, hat']; exact rS.out.o0, rS.out.bel⟩
end Go.Proofs.YthmcdfjijkecfaaGreat

/- Lists of edges: three numbers an element; compared, marked and held. -/
namespace Go.Proofs.YthmcdfjijkecfaaGreat
open Go.RowKit
set_option linter.unusedVariables false
set_option linter.unusedSimpArgs false

def c3 (a b c : Int) : List Value := [.int .i64 a, .int .i64 b, .int .i64 c]
theorem c3_one (a b c : Int) : ∀ u ∈ c3 a b c, u.oneCell' = true := by intro u hu; simp [c3] at hu; rcases hu with rfl | rfl | rfl <;> rfl
/-- The edges of the first k words, and q of the next one. -/
def edL (F : Nat → Nat → Nat) (s k q : Nat) : List (Nat × Nat × Nat) := ((List.range k).flatMap fun i => (List.range s).map fun p => (i, p, F p i)) ++ (List.range q).map fun p => (k, p, F p k)
def ecs (E : List (Nat × Nat × Nat)) : List Value := E.flatMap fun e => c3 e.1 e.2.1 e.2.2
theorem edL_snoc (F : Nat → Nat → Nat) (s k q : Nat) : edL F s k (q + 1) = edL F s k q ++ [(k, q, F q k)] := by simp [edL, List.range_succ]
theorem edL_row (F : Nat → Nat → Nat) (s k : Nat) : edL F s k s = edL F s (k + 1) 0 := by simp [edL, List.range_succ]
theorem edL_length (F : Nat → Nat → Nat) (s k q : Nat) : (edL F s k q).length = k * s + q := by
  have h : ∀ k, ((List.range k).flatMap fun i => (List.range s).map fun p => (i, p, F p i)).length = k * s := by
    intro k
    induction k with
    | zero => simp
    | succ k ih => rw [List.range_succ, List.flatMap_append, List.length_append, ih, Nat.succ_mul]; simp
  simp [edL, h k]
theorem ecs_snoc (E : List (Nat × Nat × Nat)) (a b c : Nat) : ecs (E ++ [(a, b, c)]) = ecs E ++ c3 a b c := by simp [ecs]
theorem ecs_length (E : List (Nat × Nat × Nat)) : (ecs E).length = E.length * 3 := by
  induction E with
  | nil => rfl
  | cons e E ih => simp [ecs, c3] at ih ⊢; rw [ih]; omega
theorem ecs_get (E : List (Nat × Nat × Nat)) (i : Nat) (e : Nat × Nat × Nat) (h : E[i]? = some e) : ∀ j, j < 3 → (ecs E)[i * 3 + j]? = (c3 e.1 e.2.1 e.2.2)[j]? := by
  induction E generalizing i with
  | nil => simp at h
  | cons x E ih =>
    intro j hj
    have hc : ecs (x :: E) = c3 x.1 x.2.1 x.2.2 ++ ecs E := by simp [ecs]
    have hl : (c3 x.1 x.2.1 x.2.2).length = 3 := rfl
    rw [hc]
    cases i with
    | zero =>
      simp at h
      subst h
      rw [Nat.zero_mul, Nat.zero_add, List.getElem?_append_left (by rw [hl]; exact hj)]
    | succ i =>
      rw [List.getElem?_append_right (by rw [hl]; omega), hl, show (i + 1) * 3 + j - 3 = i * 3 + j by omega]
      exact ih i (by simpa using h) j hj



end Go.Proofs.YthmcdfjijkecfaaGreat

/- LevelEdges: what the program and the reference answer. -/
namespace Go.Proofs.YthmcdfjijkecfaaGreat
open Go.RowKit
set_option linter.unusedVariables false
set_option linter.unusedSimpArgs false

open Classical in
noncomputable def edgesAns (m : Mach) (n : Int) : List (Nat × Nat × Nat) × Int :=
  if levelI m n = 0 then (edL (fun q i => pf m m.L.toNat q n.toNat i) m.S.toNat (pw m.L.toNat n.toNat) 0, 0) else ([], levelI m n)
theorem edgesAns_0 {m : Mach} {l s n : Nat} (g : Good m l s) (h : levelI m n = 0) : edgesAns m n = (edL (fun q i => pf m l q n i) s (pw l n) 0, 0) := by
  unfold edgesAns; rw [if_pos h, g.L, g.S]; rfl
theorem edgesAns_c {m : Mach} {n : Int} (h : levelI m n ≠ 0) : edgesAns m n = ([], levelI m n) := by unfold edgesAns; rw [if_neg h]
theorem edgesAns_len (m : Mach) (n : Int) : (edgesAns m n).1.length < 300000 := by
  by_cases h : levelI m n = 0
  · obtain ⟨l, s, n', g, rfl, _, _, hpw⟩ := levelI_good h
    rw [edgesAns_0 g h, edL_length]
    have := g.s16
    have h2 : pw l n' * s ≤ 243 * 16 := Nat.mul_le_mul hpw this
    omega
  · rw [edgesAns_c h]; simp
/-- The answer of edges as it comes back. -/
def AnsE (w : World) (A : List (Nat × Nat × Nat) × Int) (e : Ending) (w' : World) : Prop := ∃ v, e = .returned (.tuple #[v, .int .i64 A.2]) ∧ OwnN w' w.heap.size 59 3 v A.1.length (ecs A.1) ∧ Below w.heap.size w w'

theorem info_edge : (Tryz.prog.info? 59).map (fun i => (i.zero, i.size, i.bytes)) = some (some (.agg #[.int .i64 0, .int .i64 0, .int .i64 0]), 3, 24) := by kernel_rfl

set_option maxHeartbeats 4000000 in
set_option maxRecDepth 100000 in
theorem specEdges_any (w : World) (m : Mach) (hk : m.Ok) (n : Int) : Calls Tryz.prog 29 #[.agg (mcells m), .int .i64 n] w (AnsE w (edgesAns m n)) := by
  have hS := hid ((St.start w).newMB m 27)
  have hcode := hid (fun W => l05Code_any W m hk n)
  by_cases h0 : levelI m n = 0
  · obtain ⟨l, s, n, g, rfl, hn5, hnl, hpw⟩ := levelI_good h0
    rw [h0] at hcode
    rw [edgesAns_0 g h0]
    have gL := hid g.L
    have gS := hid g.S
    have l2 := g.l2
    have s16 := g.s16
    have s1 := g.s1
    have hgr := hid (fun W => l05Tables_any W m l s g hk n (by omega) (by omega))
    have hpo := hid (fun W => l01Power_any l n (by omega) (by omega) (by omega) W)
    have htl := hid (show (tabA m l n s ++ tabA (inv m l s) l n s).length = 2 * s by rw [List.length_append, tabA_length, tabA_length]; omega)
    have hrow := hid (fun q (hq : q < s) => tabs_get m l n s q hq)
    have hpl := hid (fun q => permZ_length m l q n)
    have hget := hid (fun q i (hi : i < pw l n) => permZ_get m l q n i hi)
    have hpos := pw_pos l (by omega) n
    generalize hT : tabA m l n s ++ tabA (inv m l s) l n s = T at *
    replace hT := hid hT
    clear h0
    replace hk := hid hk; replace g := hid g
    generalize hMn : pw l n = M at *
    replace hMn := hid hMn
    go_enter Tryz.func29, Tryz.ntmps29
    go_wp2_with (first
      | ((with_reducible refine gate (N := 11) rfl ?_); refine load_mach rfl _ rfl w.heap.size rfl m hS.out.m0 ?_)
      | ((with_reducible refine gate (N := 17) rfl ?_); refine load_mach rfl _ rfl w.heap.size rfl m hS.out.m0 ?_)
      | (go_at_call 119; (with_reducible refine (hcode.out _).mono ?_); rintro e w1 ⟨rfl, hb⟩; replace hS := hid (hS.out.call hb); clear hb hcode)
      | (go_at_call 114; (with_reducible refine (hgr.out _).mono ?_); rintro e w2 ⟨vT, rfl, hG, hb⟩; obtain ⟨rows, hS'⟩ := hS.out.callMat hb hG; obtain ⟨gT, cT, rfl, _, _⟩ := hG.blk (fun e => by have h1 := congrArg List.length e; rw [htl.out] at h1; simp at h1; omega); rw [htl.out] at hS' ⊢; replace hS := hid (hS'.newN 59 3); clear hb hgr hG hS'))
    go_loopw [8, 9] (fun v i wr => ∃ k : Nat, k ≤ M ∧ i = .int .i64 k ∧ St w.heap.size w [Asn.ownN w.heap.size 59 3 v (k * s) (ecs (edL (fun q i => pf m l q n i) s k 0)), Asn.mat w.heap.size (.slice (some ⟨gT, 0, none⟩) (2 * s) cT) rows T, Asn.mb 27 w.heap.size m] wr) (fun _ i _ => M - (intOf i).toNat)
    case atStart => exact ⟨0, Nat.zero_le _, rfl, by rw [Nat.zero_mul]; exact hS.out⟩
    case round =>
      obtain ⟨k, hk', rfl, rS⟩ := hrel
      clear hS
      have cL := rS.m2.cL
      rw [gL.out] at cL
      replace rS := hid rS
      by_cases hkM : k < M
      · have dk : decide ((k : Int) < (M : Int)) = true := decide_eq_true (by omega)
        go_wp2_with (first
          | (go_at_call 120; (with_reducible refine (hpo.out _).mono ?_); rintro e w3 ⟨rfl, rfl⟩))
        clear cL
        go_loopw [8, 10] (fun v i wr => ∃ q : Nat, q ≤ s ∧ i = .int .i64 q ∧ St w.heap.size w [Asn.ownN w.heap.size 59 3 v (k * s + q) (ecs (edL (fun q i => pf m l q n i) s k q)), Asn.mat w.heap.size (.slice (some ⟨gT, 0, none⟩) (2 * s) cT) rows T, Asn.mb 27 w.heap.size m] wr) (fun _ i _ => s - (intOf i).toNat)
        case atStart => exact ⟨0, Nat.zero_le _, rfl, rS.out⟩
        case round =>
          obtain ⟨q, hq, rfl, yS⟩ := hrel
          clear rS
          have cS := yS.m2.cS
          rw [gS.out] at cS
          by_cases hqs : q < s
          · have dq : decide ((q : Int) < (s : Int)) = true := decide_eq_true (by omega)
            obtain ⟨r, cr, hr⟩ := Asn.row yS.g1 q _ (hrow.out q hqs)
            obtain ⟨gr, cc, rfl, _, _⟩ := hr.blk (fun e => by have h1 := congrArg List.length e; rw [ints_length, hpl.out] at h1; simp at h1; omega)
            rw [ints_length, hpl.out] at cr hr
            have cR := hr.cellAt k (.int .i64 ((pf m l q n k : Nat) : Int)) (by simp [ints, hget.out q k hkM])
            have hsn := hid (edL_snoc (fun q i => pf m l q n i) s k q)
            have hks := hid (show k * s + q ≤ 1000000 from by have h2 : k * s ≤ 243 * 16 := Nat.mul_le_mul (by omega) s16; omega)
            replace yS := hid yS
            clear hr
            generalize pf m l q n k = pk at *
            go_wp2_with (first
              | ((with_reducible refine gate (N := 47) rfl ?_); refine St.appNw 55 59 _ 3 24 Tryz.underlying55 info_edge rfl (by omega) (by omega) rfl _ _ rfl _ _ _ rfl yS.out (c3 k q pk) rfl (c3_one _ _ _) rfl (by have := hks.out; omega) ?_; intro gn cap w4 yS'; replace yS := hid yS'; clear yS'))
            go_roundw
            case rel => exact ⟨q + 1, by omega, by go_num, by rw [hsn.out, ecs_snoc]; exact yS.out⟩
            case measure => simp [intOf]; omega
          · obtain rfl : s = q := by omega
            have hrw := hid (edL_row (fun q i => pf m l q n i) s k)
            replace yS := hid yS
            go_wp2
            go_roundw
            case rel => exact ⟨k + 1, by omega, by go_num, by rw [← hrw.out, Nat.succ_mul]; exact yS.out⟩
            case measure => simp [intOf]; omega
      · obtain rfl : M = k := by omega
        go_wp2_with (first
          | (go_at_call 120; (with_reducible refine (hpo.out _).mono ?_); rintro e w3 ⟨rfl, rfl⟩))
        go_ret2
        exact ⟨_, rfl, by rw [edL_length]; exact rS.out.n0, rS.out.bel⟩
  · rw [edgesAns_c h0]
    have hc : levelI m n = 1 ∨ levelI m n = 2 := by rcases levelI_cases m n with h | h; exact absurd h h0; exact h
    generalize levelI m n = c at *
    clear h0
    rcases hc with rfl | rfl
    all_goals
      go_enter Tryz.func29, Tryz.ntmps29
      go_wp2_with (first
        | ((with_reducible refine gate (N := 11) rfl ?_); refine load_mach rfl _ rfl w.heap.size rfl m hS.out.m0 ?_)
        | (go_at_call 119; (with_reducible refine (hcode.out _).mono ?_); rintro e w1 ⟨rfl, hb⟩; replace hS := hid (hS.out.call hb); clear hb hcode))
      go_ret2
      exact ⟨_, rfl, OwnN.nil _ _ _ _, hS.out.bel⟩

set_option maxHeartbeats 4000000 in
set_option maxRecDepth 100000 in
theorem implEdges_any (w : World) (m : Mach) (hk : m.Ok) (n : Int) : Calls Tryz.prog 28 #[.agg (mcells m), .int .i64 n] w (AnsE w (edgesAns m n)) := by
  have hS := hid ((St.start w).newMB m 27)
  have hcode := hid (fun W => levelCode_any W m hk n)
  by_cases h0 : levelI m n = 0
  · obtain ⟨l, s, n, g, rfl, hn5, hnl, hpw⟩ := levelI_good h0
    rw [h0] at hcode
    rw [edgesAns_0 g h0]
    have l2 := g.l2
    have s16 := g.s16
    have s1 := g.s1
    have hgr := hid (fun W hW => graph_any w.heap.size W m hW l s g n (by omega) (by omega))
    have hpl := hid (fun q => permZ_length m l q n)
    have hget := hid (fun q i (hi : i < pw l n) => permZ_get m l q n i hi)
    have hpos := pw_pos l (by omega) n
    generalize hI : inv m l s = I at *
    clear h0
    replace hI := hid hI
    replace hk := hid hk; replace g := hid g
    generalize hMn : pw l n = M at *
    replace hMn := hid hMn
    go_enter Tryz.func28, Tryz.ntmps28
    go_wp2_with (first
      | ((with_reducible refine gate (N := 12) rfl ?_); refine load_mach rfl _ rfl w.heap.size rfl m hS.out.m0 ?_)
      | (go_at_call 108; (with_reducible refine (hcode.out _).mono ?_); rintro e w1 ⟨rfl, hb⟩; replace hS := hid (hS.out.call hb); clear hb hcode)
      | (go_at_call 109; (with_reducible refine (hgr.out _ hS.out.m0).mono ?_); rintro e w2 ⟨vA, vB, rfl, hG, hb⟩; replace hS := hid (hS.out.call hb); obtain ⟨gA, cA, rfl, _, _⟩ := hG.2.1.blk (fun e => by have h1 := congrArg List.length e; rw [tabA_length] at h1; simp at h1; omega); rw [tabA_length] at hG; replace hG := hid hG; have hgc0 := hG.out.c0; clear hb hgr))
    generalize w1.heap.size = G at *
    go_loopw [8, 24] (fun v i wr => ∃ k : Nat, k ≤ M ∧ i = .int .i64 k ∧ St w2.heap.size w2 [Asn.ownN w2.heap.size 59 3 v (k * s) (ecs (edL (fun q i => pf m l q n i) s k 0))] wr) (fun _ i _ => M - (intOf i).toNat)
    case atStart => exact ⟨0, Nat.zero_le _, rfl, by rw [Nat.zero_mul]; exact (St.start _).nilN _ _⟩
    case round =>
      obtain ⟨k, hk', rfl, rS⟩ := hrel
      clear hgc0
      have hgc1 := (hG.out.below rS.bel).c1
      replace rS := hid rS
      by_cases hkM : k < M
      · go_wp2
        clear hgc1
        go_loopw [8, 32] (fun v i wr => ∃ q : Nat, q ≤ s ∧ i = .int .i64 q ∧ St w2.heap.size w2 [Asn.ownN w2.heap.size 59 3 v (k * s + q) (ecs (edL (fun q i => pf m l q n i) s k q))] wr) (fun _ i _ => s - (intOf i).toNat)
        case atStart => exact ⟨0, Nat.zero_le _, rfl, rS.out⟩
        case round =>
          obtain ⟨q, hq, rfl, yS⟩ := hrel
          clear rS
          by_cases hqs : q < s
          · obtain ⟨r, cr, hr⟩ := (hG.out.below yS.bel).2.1.row q _ (tabA_get m l n s q hqs)
            obtain ⟨gr, cc, rfl, _, _⟩ := hr.blk (fun e => by have h1 := congrArg List.length e; rw [ints_length, hpl.out] at h1; simp at h1; omega)
            rw [ints_length, hpl.out] at cr hr
            have cR := hr.cellAt k (.int .i64 ((pf m l q n k : Nat) : Int)) (by simp [ints, hget.out q k hkM])
            have hsn := hid (edL_snoc (fun q i => pf m l q n i) s k q)
            have hks := hid (show k * s + q ≤ 1000000 from by have h2 : k * s ≤ 243 * 16 := Nat.mul_le_mul (by omega) s16; omega)
            replace yS := hid yS
            clear hr
            generalize pf m l q n k = pk at *
            go_wp2_with (first
              | ((with_reducible refine gate (N := 46) rfl ?_); refine St.appNw 55 59 _ 3 24 Tryz.underlying55 info_edge rfl (by omega) (by omega) rfl _ _ rfl _ _ _ rfl yS.out (c3 k q pk) rfl (c3_one _ _ _) rfl (by have := hks.out; omega) ?_; intro gn cap w4 yS'; replace yS := hid yS'; clear yS'))
            go_roundw
            case rel => exact ⟨q + 1, by omega, by go_num, by rw [hsn.out, ecs_snoc]; exact yS.out⟩
            case measure => simp [intOf]; omega
          · obtain rfl : s = q := by omega
            have hrw := hid (edL_row (fun q i => pf m l q n i) s k)
            replace yS := hid yS
            go_wp2
            go_roundw
            case rel => exact ⟨k + 1, by omega, by go_num, by rw [← hrw.out, Nat.succ_mul]; exact yS.out⟩
            case measure => simp [intOf]; omega
      · obtain rfl : M = k := by omega
        go_wp2
        go_ret2
        exact ⟨_, rfl, by rw [edL_length]; exact rS.out.n0.mono (hS.out.le), (hS.out.call rS.out.bel).bel⟩
  · rw [edgesAns_c h0]
    have hc : levelI m n = 1 ∨ levelI m n = 2 := by rcases levelI_cases m n with h | h; exact absurd h h0; exact h
    generalize levelI m n = c at *
    clear h0
    rcases hc with rfl | rfl
    all_goals
      go_enter Tryz.func28, Tryz.ntmps28
      go_wp2_with (first
        | ((with_reducible refine gate (N := 12) rfl ?_); refine load_mach rfl _ rfl w.heap.size rfl m hS.out.m0 ?_)
        | (go_at_call 108; (with_reducible refine (hcode.out _).mono ?_); rintro e w1 ⟨rfl, hb⟩; replace hS := hid (hS.out.call hb); clear hb hcode))
      go_ret2
      exact ⟨_, rfl, OwnN.nil _ _ _ _, hS.out.bel⟩
end Go.Proofs.YthmcdfjijkecfaaGreat
