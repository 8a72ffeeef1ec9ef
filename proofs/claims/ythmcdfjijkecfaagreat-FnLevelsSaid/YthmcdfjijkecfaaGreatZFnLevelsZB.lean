/- What the proof of FnLevels leans on, part 28 of 28. -/
import Derived.Test.YthmcdfjijkecfaaGreatZFnLevelsZA
import Derived.Deep.CutBlock
/- FnLevels: the walk. -/
namespace Go.Proofs.YthmcdfjijkecfaaGreat
open Go.RowKit
set_option linter.unusedVariables false
set_option linter.unusedSimpArgs false
-- @LONG

set_option maxHeartbeats 20000000 in
set_option maxRecDepth 100000 in
theorem levels_law (w : World) (v : Value) (l : List Nat) (hv : ArgB w v l) :
    Calls Tryz.prog 4 #[v] w fun e w' => e = .returned (.bool true) ∧ Below w.heap.size w w' := by
  have hbg := hid (big_any w v l hv)
  by_cases hl : l.length ≤ 4096
  · have dl : decide (4096 < l.length) = false := decide_eq_false (by omega)
    rw [dl] at hbg
    have hdr := hid (fun W (hW : Below w.heap.size w W) => drDis_any W v l (hv.below hW) hl)
    have hdr2 := hid (fun W (hW : Below w.heap.size w W) => drEdg_any W v l (hv.below hW) hl)
    have hdr3 := hid (fun W (hW : Below w.heap.size w W) => drDia_any W v l (hv.below hW) hl)
    have hdr4 := hid (fun W (hW : Below w.heap.size w W) => drLvo_any W v l (hv.below hW) hl)
    have hro := hid (fun W (hW : Below w.heap.size w W) => roll_any W v l (hv.below hW) hl 1703)
    have hbe := hid (fun (w1 : World) (hW : Below w.heap.size w w1) W L hS => below_any w1 L W w1.heap.size v l (hv.below hW) hl (Nat.le_refl _) hS)
    have hli := hid likeInts_any
    have hs0 := hid (St.start w)
    have hz := zeroM_run
    have hz2 := hid (fun L W (h : St w.heap.size w L W) => h.newMB zeroM 27)
    have hdi := hid implDis_any
    have hds := hid specDis_any
    replace hv := hid hv
    obtain ⟨A, c, rfl, _⟩ := hv.out
    go_enter Tryz.func4, Tryz.ntmps4
    go_upto_region 6 with (first
      | (go_at_call 8; (with_reducible refine (hbg.out).mono ?_); rintro e w1 ⟨rfl, rfl⟩)
      | (go_at_call 19; (with_reducible refine (hdr.out _ (Below.refl _ _)).mono ?_); rintro e w1 ⟨m, n, k, rfl, hF, hb⟩; have hle := hid hb.size; replace hS := hid (hz2.out _ _ (hs0.out.call hb)); clear hb)
      | ((with_reducible refine gateOp (op := .store 27 (.tmp 3) (.tmp 50)) rfl ?_); refine store_mach rfl _ _ rfl w1.heap.size rfl m rfl 27 _ hS.out.m0 ?_; intro w2 p3 ho hsz hbl; replace hS := hid (hS.out.setM hle.out p3 ho hbl); clear p3 ho hsz hbl)
      | ((with_reducible refine gate (N := 54) rfl ?_); refine load_mach rfl _ rfl w1.heap.size rfl m hS.out.m0 ?_)
      | (go_at_call 20; (with_reducible refine (hdi.out _ m hF.out.1.ok n k).mono ?_); rintro e w3 ⟨v1, rfl, hO, hb⟩; replace hS := hid (hS.out.callOwn hb hO); clear hb hO)
      | ((with_reducible refine gate (N := 61) rfl ?_); refine load_mach rfl _ rfl w1.heap.size rfl m hS.out.m1 ?_)
      | (go_at_call 21; (with_reducible refine (hds.out _ m hF.out.1.ok n k).mono ?_); rintro e w4 ⟨v2, rfl, hO, hb⟩; replace hS := hid (hS.out.callOwn hb hO); clear hb hO))
    have hlw := hid (fun h => lev_law (m := m) (n := n) (k := k) h)
    generalize hdc : (disAns m n k).2 = cd at *
    generalize hdD : (disAns m n k).1 = DK at *
    replace hdc := hid hdc; replace hdD := hid hdD
    have hDl := hid (show DK.length ≤ 1000000 from by rw [← hdD.out]; exact Nat.le_trans (disAns_len m n k) (by omega))
    have hcc : (cd != cd) = false := by simp
    generalize w1.heap.size = b3 at *
    go_upto_if 77 with (first
      | (go_at_call 18; (with_reducible refine (hli.out _ _ _ _ _ DK hS.out.o1 hS.out.o0 hDl.out).mono ?_); rintro e w5 ⟨rfl, hb⟩; replace hS := hid (hS.out.call hb); clear hb))
    go_cut [4, 5, 6, 7, 8, 9] from 45 (fun _ _ _ _ _ _ wr => Below w.heap.size w wr)
    case first =>
      as_aux_lemma =>
        by_cases h0 : cd = 0
        · subst h0
          obtain ⟨N, K, D, hN0, hN, rfl, hKN, hD, hlv, hpt, hdia, hKK, hsym, hmx⟩ := hlw.out rfl
          have hDK := hid (show DK = D K from by rw [← hdD.out, (hD K hKN).1])
          rw [hDK.out] at hS
          have hlvo := hid (fun W => implLvo_any W m hF.out.1.ok n)
          have htra := hid (fun W => implTra_any W m hF.out.1.ok n)
          have hdi2 := hid (fun W => implDia_any W m hF.out.1.ok n)
          have hdix := hid (fun W x (hx : x < N) => (by have h := hdi.out W m hF.out.1.ok n (x : Int); rw [(hD x hx).1] at h; exact h : Calls Tryz.prog 20 #[.agg (mcells m), .int .i64 n, .int .i64 (x : Int)] W fun e w' => ∃ v, e = .returned (.tuple #[v, .int .i64 0]) ∧ Own w' W.heap.size 2 v (ints (D x)) ∧ Below W.heap.size W w'))
          rw [hlv] at hlvo htra
          have hDl2 := hid (fun x (hx : x < N) => (hD x hx).2)
          have hMl := (lvoAns_len m n).1
          have hMr := hid (lvoAns_len m n).2
          generalize (lvoAns m n).1 = M at *
          generalize (diaAns m n).2 = dc at *
          generalize (diaAns m n).1 = dm at *
          obtain ⟨B, hB⟩ : ∃ B, B = (((M.length : Nat) : Int) == 1) := ⟨_, rfl⟩
          have hdB := (show (dc == 0) = B from by
            rw [hB, Bool.eq_iff_iff, beq_iff_eq, beq_iff_eq, hdia]; omega)
          have hMB := hid (show B = true → M.length = 1 from fun h => by rw [hB] at h; have := beq_iff_eq.1 h; omega)
          rw [← hB] at htra
          replace hB := hid hB
          replace hlv := hid hlv; replace hpt := hid hpt; replace hdia := hid hdia; replace hKK := hid hKK; replace hsym := hid hsym; replace hmx := hid hmx; replace hD := hid hD
          obtain ⟨g1, c1, rfl, _, _⟩ := hS.out.o1.blk (fun e => by have h1 := congrArg List.length e; rw [ints_length, hDl2.out K hKN] at h1; simp at h1; omega)
          rw [ints_length, hDl2.out K hKN] at hS ⊢
          go_upto_region 15 with (first
            | ((with_reducible refine gate (N := 79) rfl ?_); refine load_mach rfl _ rfl b3 rfl m hS.out.m2 ?_)
            | (go_at_call 22; (with_reducible refine (hlvo.out _).mono ?_); rintro e w6 ⟨vM, rfl, hM, hb⟩; obtain ⟨rows, hS'⟩ := hS.out.callMat hb hM.mat; obtain ⟨AM, cM, rfl⟩ := hM.mat.form; replace hS := hid hS'; clear hS' hb hM)
            | ((with_reducible refine gate (N := 85) rfl ?_); refine load_mach rfl _ rfl b3 rfl m hS.out.m3 ?_)
            | (go_at_call 23; (with_reducible refine (htra.out _).mono ?_); rintro e w7 ⟨rfl, hb⟩; replace hS := hid (hS.out.call hb); clear hb)
            | ((with_reducible refine gate (N := 91) rfl ?_); refine load_mach rfl _ rfl b3 rfl m hS.out.m3 ?_)
            | (go_at_call 24; (with_reducible refine (hdi2.out _).mono ?_); rintro e w8 ⟨rfl, hb⟩; replace hS := hid (hS.out.call hb); clear hb)
            | (go_at_call 25; (with_reducible refine (hro.out _ hS.out.bel).mono ?_); rintro e w9 ⟨rfl, hd⟩; have hbx := hid (hbe.out _ hS.out.bel); have hdx := hid hd)
            | (go_at_call 26; (with_reducible refine (hbx.out _ _ _ (by omega) hdx.out).mono ?_); rintro e w10 ⟨x, rfl, hx0, hx1, hd2⟩; replace hS := hid (hS.out.outer hd2); obtain ⟨x, rfl⟩ := Int.eq_ofNat_of_zero_le hx0; (have hxN : x < N := by omega); clear hdx hbx hd hd2)
            | ((with_reducible refine gate (N := 103) rfl ?_); refine load_mach rfl _ rfl b3 rfl m hS.out.m3 ?_)
            | (go_at_call 20; (with_reducible refine (hdix.out _ x hxN).mono ?_); rintro e w11 ⟨vo, rfl, hO, hb⟩; (obtain ⟨g2, c2, rfl, _, _⟩ := hO.blk (fun e => by have h1 := congrArg List.length e; rw [ints_length, hDl2.out x hxN] at h1; simp at h1; omega)); rw [ints_length, hDl2.out x hxN] at hO ⊢; replace hS := hid (hS.out.callOwn hb hO); clear hb hO))
          have hge := hid (fun (l : List Int) (hl : l.length = N) i (hi : i < N) => (show (ints l)[i]? = some (.int .i64 (l.getD i 0)) from by
            simp only [ints, List.getElem?_map, List.getD_eq_getElem?_getD, List.getElem?_eq_getElem (show i < l.length by omega)]; rfl))
          have q1 := hS.out.o0.cellAt K _ (hge.out _ (hDl2.out x hxN) K hKN)
          have q2 := hS.out.o3.cellAt x _ (hge.out _ (hDl2.out K hKN) x hxN)
          have q3 := hS.out.o3.cellAt K _ (hge.out _ (hDl2.out K hKN) K hKN)
          rw [hKK.out] at q3
          rw [← hsym.out x hxN] at q2
          generalize (D x).getD K 0 = y at *
          have k0 : (0 : Int) ≤ (K : Int) := Int.natCast_nonneg _
          have k1 : (K : Int) < (N : Int) := by omega
          have x0 : (0 : Int) ≤ (x : Int) := Int.natCast_nonneg _
          have x1 : (x : Int) < (N : Int) := by omega
          have hBf := hB.out.symm
          have hyy : (y != y) = false := by simp
          have hBB : (B != B) = false := by simp
          go_quiet (fail)
          replace hS := hid (hS.out.drewN nq)
          generalize World.drewN w11 nq = w12 at *
          clear q1 q2 q3 x0 x1 hyy
          have hmk := fun W : World => run_make_row' (P := Tryz.prog) 53 4 (.bool false) 1 Tryz.underlying53 info_bool rfl .i64 .i64 N (by omega) (by omega) W
          have hmc := hid (toList_madeCells_one (.bool false) N)
          generalize madeCells #[.bool false] N = mc at *
          have hmcs := hid (show mc.size = N by rw [← Array.length_toList, hmc.out, List.length_replicate])
          go_upto_region 18 with (fail)
          replace hS := hid (hS.out.newArr mc N hmcs.out 4 (by omega))
          rw [hmc.out] at hS
          clear hmk hmc hmcs
          obtain ⟨gM, rfl⟩ : ∃ gM, AM = some ⟨gM, 0, none⟩ := by
            have h := hS.out.g2
            obtain ⟨g, c, e, _, _⟩ := h.1.blk (fun e => by
              have h2 := h.2.1
              rw [e] at h2
              have h3 := hpt.out.len
              have hM0 : M = [] := List.eq_nil_of_length_eq_zero (by simpa using h2.symm)
              rw [hM0] at h3
              simp at h3; omega)
            injection e with e1
            exact ⟨g, e1⟩
          have hmt0 := hid (show List.replicate N (Value.bool false) = bls (mkAll (List.replicate N false) ((fl M).take (M.take 0).flatten.length)) by simp [bls, mkAll])
          rw [hmt0.out] at hS
          have hrw := hid (fun W k (l : List Int) (hl : M[k]? = some l) r (hr : rows[k]? = some r) (h : (Asn.mat w.heap.size (.slice (some ⟨gM, 0, none⟩) M.length cM) rows M).holds W) => (show W.cell? ⟨gM, k, none⟩ = some r ∧ Own W w.heap.size 2 r (ints l) from ⟨h.1.cellAt k r hr, h.2.2 k r l hr hl⟩))
          have hfx := hid (fun k (l : List Int) j z (hl : M[k]? = some l) (hz : l[j]? = some z) => hpt.out.get (flat_get M k j l z hl hz))
          have hfn := hid (flat_next M)
          have hft := hid (show (M.take M.length).flatten.length = N by rw [List.take_length]; exact hpt.out.len)
          have hfb := hid (fun s (hs : s ≤ N) => (show (bls (mkAll (List.replicate N false) ((fl M).take s))).length = N by rw [bls_length, mkAll_len, List.length_replicate]))
          generalize w12.heap.size = gB at *
          generalize World.alloc w12 _ = w13 at *
          go_wp2
          go_loopw [21, 22] (fun ct i wr => ∃ k : Nat, k ≤ M.length ∧ i = .int .i64 k ∧ ct = .int .i64 (((M.take k).flatten.length : Nat) : Int) ∧ St w.heap.size w [Asn.own w.heap.size 4 (.slice (some ⟨gB, 0, none⟩) N N) (bls (mkAll (List.replicate N false) ((fl M).take (M.take k).flatten.length))), Asn.own w.heap.size 2 (.slice (some ⟨g2, 0, none⟩) N c2) (ints (D x)), Asn.mat w.heap.size (.slice (some ⟨gM, 0, none⟩) M.length cM) rows M, Asn.own w.heap.size 2 v2 (ints (D K)), Asn.own w.heap.size 2 (.slice (some ⟨g1, 0, none⟩) N c1) (ints (D K)), Asn.mb 27 b3 m] wr) (fun _ i _ => M.length - (intOf i).toNat)
          case atStart => exact ⟨0, Nat.zero_le _, rfl, by simp, hS.out⟩
          case round =>
            obtain ⟨k, hk, rfl, rfl, rS⟩ := hrel
            clear hS
            replace rS := hid rS
            by_cases hlt : k < M.length
            · have dk : decide ((k : Int) < (M.length : Int)) = true := decide_eq_true (by omega)
              obtain ⟨l1, hl1⟩ : ∃ l1, M[k]? = some l1 := ⟨_, List.getElem?_eq_getElem hlt⟩
              obtain ⟨r, hrk⟩ : ∃ r, rows[k]? = some r := by
                have h := rS.out.g2
                exact ⟨_, List.getElem?_eq_getElem (by rw [h.2.1]; exact hlt)⟩
              have hnx := hid (hfn.out k l1 hl1)
              have hlr := hMr.out l1 (List.mem_of_getElem? hl1)
              have hpk := hid (fun s (hs : s ≤ l1.length) => (show (M.take k).flatten.length + s ≤ N by
                have h1 := hpt.out.len
                have h2 : (M.take (k + 1)).flatten.length ≤ M.flatten.length := by
                  have := List.take_append_drop (k + 1) M
                  conv => rhs; rw [← this, List.flatten_append, List.length_append]
                  omega
                have h3 := hnx.out
                omega))
              have hfz := hid (fun j z (hz : l1[j]? = some z) => hfx.out k l1 j z hl1 hz)
              have hrw2 := hid (fun W h => hrw.out W k l1 hl1 r hrk h)
              obtain ⟨Ar, capr, hre, _, hAr⟩ := (hrw2.out _ rS.out.g2).2.form
              rw [ints_length] at hre
              have hAr2 := hid (fun (h : 0 < l1.length) => (show ∃ gr, Ar = some ⟨gr, 0, none⟩ from by
                rcases hAr with ⟨_, h1, _⟩ | ⟨gr, h1, _⟩
                · have := congrArg List.length h1; rw [ints_length, List.length_nil] at this; omega
                · exact ⟨gr, h1⟩))
              subst hre
              clear hAr
              replace hl1 := hid hl1; replace hrk := hid hrk
              have k0' : (0 : Int) ≤ (k : Int) := Int.natCast_nonneg _
              have k1' : (k : Int) < (M.length : Int) := by omega
              generalize (M.take k).flatten.length = pk at *
              go_wp2
              go_loopw [21, 23] (fun ct i wr => ∃ j : Nat, j ≤ l1.length ∧ i = .int .i64 j ∧ ct = .int .i64 ((pk + j : Nat) : Int) ∧ St w.heap.size w [Asn.own w.heap.size 4 (.slice (some ⟨gB, 0, none⟩) N N) (bls (mkAll (List.replicate N false) ((fl M).take (pk + j)))), Asn.own w.heap.size 2 (.slice (some ⟨g2, 0, none⟩) N c2) (ints (D x)), Asn.mat w.heap.size (.slice (some ⟨gM, 0, none⟩) M.length cM) rows M, Asn.own w.heap.size 2 v2 (ints (D K)), Asn.own w.heap.size 2 (.slice (some ⟨g1, 0, none⟩) N c1) (ints (D K)), Asn.mb 27 b3 m] wr) (fun _ i _ => l1.length - (intOf i).toNat)
              case atStart => exact ⟨0, Nat.zero_le _, rfl, rfl, rS.out⟩
              case round =>
                obtain ⟨j, hj, rfl, rfl, zS⟩ := hrel
                have cr := (hrw2.out _ zS.g2).1
                replace zS := hid zS
                by_cases hlj : j < l1.length
                · have dj : decide ((j : Int) < (l1.length : Int)) = true := decide_eq_true (by omega)
                  obtain ⟨gr, rfl⟩ := hAr2.out (by omega)
                  obtain ⟨z, hz⟩ : ∃ z, l1[j]? = some z := ⟨_, List.getElem?_eq_getElem hlj⟩
                  obtain ⟨x', rfl, hxn, hmt1, hmt2⟩ := hfz.out j z hz
                  have cz := (hrw2.out _ zS.out.g2).2.cellAt j (.int .i64 (x' : Int)) (by simp [ints, hz])
                  have cb := zS.out.o0.cellAt x' _ (bls_get hmt1)
                  have hbl := hid (hfb.out (pk + j) (hpk.out j hj))
                  have fb := Own.frozenAt zS.out.o0 hbl.out x'
                  have hset := hid (bls_set (mkAll (List.replicate N false) ((fl M).take (pk + j))) x' true)
                  have x0 : (0 : Int) ≤ (x' : Int) := Int.natCast_nonneg _
                  have x1 : (x' : Int) < (N : Int) := by omega
                  have j0 : (0 : Int) ≤ (j : Int) := Int.natCast_nonneg _
                  have j1 : (j : Int) < (l1.length : Int) := by omega
                  have dx0 : decide ((x' : Int) < 0) = false := decide_eq_false (by omega)
                  have dx1 : decide ((x' : Int) ≥ (N : Int)) = false := decide_eq_false (by omega)
                  have hbd := hid (hpk.out j hj)
                  have hbd2 : pk + j ≤ 243 := by have := hbd.out; omega
                  replace hz := hid hz; replace hmt1 := hid hmt1; replace hmt2 := hid hmt2
                  go_wp2
                  replace zS := hid (zS.out.setOwn hbl.out x' (.bool true) hxn)
                  rw [hset.out, ← hmt2.out] at zS
                  go_roundw
                  case rel => exact ⟨j + 1, by omega, by go_num, i64_eq (by omega), zS.out⟩
                  case measure => simp [intOf]; omega
                · obtain rfl : j = l1.length := by omega
                  go_wp2
                  go_roundw
                  case rel => exact ⟨k + 1, by omega, by go_num, by rw [hnx.out], by rw [hnx.out]; exact zS.out⟩
                  case measure => simp [intOf]; omega
            · obtain rfl : k = M.length := by omega
              have dk : decide ((M.length : Int) < (M.length : Int)) = false := decide_eq_false (by omega)
              rw [hft.out] at rS ⊢
              have hmx2 := hid (fun (hb : B = true) i (hi : i < N) => hmx.out (hMB.out hb) i hi)
              have hcN := hid (hge.out _ (hDl2.out K hKN))
              clear hrw hfx hfn hft hfb hmt0 hpt
              go_wp2
              go_loopw [25] (fun i wr => ∃ j : Nat, j ≤ N ∧ i = .int .i64 j ∧ St w.heap.size w [Asn.own w.heap.size 2 (.slice (some ⟨g1, 0, none⟩) N c1) (ints (D K))] wr) (fun i _ => N - (intOf i).toNat)
              case atStart => exact ⟨0, Nat.zero_le _, rfl, rS.out.drop.drop.drop.drop.f1.drop⟩
              case round =>
                obtain ⟨j, hj, rfl, zS⟩ := hrel
                clear rS
                cases B
                · by_cases hlj : j < N
                  · have dj : decide ((j : Int) < (N : Int)) = true := decide_eq_true (by omega)
                    go_wp2
                    go_meet
                    case rel => exact zS.bel
                  · obtain rfl : j = N := by omega
                    have dj : decide ((j : Int) < (j : Int)) = false := decide_eq_false (by omega)
                    go_wp2
                    go_meet
                    case rel => exact zS.bel
                · by_cases hlj : j < N
                  · have dj : decide ((j : Int) < (N : Int)) = true := decide_eq_true (by omega)
                    obtain ⟨y0, y1⟩ := hmx2.out rfl j hlj
                    have cj := zS.o0.cellAt j _ (hcN.out j hlj)
                    generalize (D K).getD j 0 = yj at *
                    have e0 : decide (yj < 0) = false := decide_eq_false (by omega)
                    have e1 : decide (yj > dm) = false := decide_eq_false (by omega)
                    have j0 : (0 : Int) ≤ (j : Int) := Int.natCast_nonneg _
                    have j1 : (j : Int) < (N : Int) := by omega
                    replace zS := hid zS
                    go_wp2
                    go_roundw
                    case rel => exact ⟨j + 1, by omega, by go_num, zS.out⟩
                    case measure => simp [intOf]; omega
                  · obtain rfl : j = N := by omega
                    have dj : decide ((j : Int) < (j : Int)) = false := decide_eq_false (by omega)
                    go_wp2
                    go_meet
                    case rel => exact zS.bel
        · have d0 : ((cd : Int) == 0) = false := by simpa using h0
          clear hlw
          go_wp2
          go_meet
          case rel => exact hS.out.bel
    case rest =>
      as_aux_lemma =>
        have hsE := hid (St.start w)
        have hie := hid implEdges_any
        have hse := hid specEdges_any
        clear hS hlw hdc hdD hDl hcc
        go_upto_region 39 with (first
          | (go_at_call 27; (with_reducible refine (hdr2.out _ hcut).mono ?_); rintro e w1 ⟨m2, n2, rfl, hF2, hb⟩; have hle := hid (hcut.trans (hb.mono hcut.size)).size; replace hS := hid (hz2.out _ _ (hsE.out.call (hcut.trans (hb.mono hcut.size)))); clear hb)
          | ((with_reducible refine gateOp (op := .store 27 (.tmp 26) (.tmp 223)) rfl ?_); refine store_mach rfl _ _ rfl w1.heap.size rfl m2 rfl 27 _ hS.out.m0 ?_; intro w2 p3 ho hsz hbl; replace hS := hid (hS.out.setM hle.out p3 ho hbl); clear p3 ho hsz hbl)
          | ((with_reducible refine gate (N := 226) rfl ?_); refine load_mach rfl _ rfl w1.heap.size rfl m2 hS.out.m0 ?_)
          | (go_at_call 28; (with_reducible refine (hie.out _ m2 hF2.out.1.ok n2).mono ?_); rintro e w3 ⟨v3, rfl, hO, hb⟩; have hO3 := hid hO; replace hS := hid (hS.out.call hb); clear hb hO)
          | ((with_reducible refine gate (N := 232) rfl ?_); refine load_mach rfl _ rfl w1.heap.size rfl m2 hS.out.m0 ?_)
          | (go_at_call 29; (with_reducible refine (hse.out _ m2 hF2.out.1.ok n2).mono ?_); rintro e w4 ⟨v4, rfl, hO, hb⟩; have hO3' := hid (OwnN.keep hO3.out fun k hk => hb.block k (hO3.out.lt k hk).2); have hO4 := hid hO; replace hS := hid (hS.out.call hb); clear hb hO hO3))
        have hlen := hid (edgesAns_len m2 n2)
        have hlt := hid (edgesAns_lt m2 n2)
        have hecs := hid (ecs_get (edgesAns m2 n2).1)
        have hcc2 : ((edgesAns m2 n2).2 != (edgesAns m2 n2).2) = false := by simp
        generalize (edgesAns m2 n2).2 = cd2 at *
        generalize (edgesAns m2 n2).1 = E at *
        obtain ⟨A3, cp3, rfl, hA3⟩ : ∃ A3 cp3, v3 = .slice A3 E.length cp3 ∧ (0 < E.length → ∃ g, A3 = some ⟨g, 0, none⟩) := by
          rcases hO3'.out.form with ⟨h, h0⟩ | ⟨g, c, h⟩
          · exact ⟨none, 0, by rw [h0]; exact h, fun h1 => by omega⟩
          · exact ⟨_, c, h, fun _ => ⟨g, rfl⟩⟩
        obtain ⟨A4, cp4, rfl, hA4⟩ : ∃ A4 cp4, v4 = .slice A4 E.length cp4 ∧ (0 < E.length → ∃ g, A4 = some ⟨g, 0, none⟩) := by
          rcases hO4.out.form with ⟨h, h0⟩ | ⟨g, c, h⟩
          · exact ⟨none, 0, by rw [h0]; exact h, fun h1 => by omega⟩
          · exact ⟨_, c, h, fun _ => ⟨g, rfl⟩⟩
        have hrg := hid (fun W (hW : Below w4.heap.size w4 W) k (hk : k < E.length) => (show ∃ (a b c g3 g4 : Nat), A3 = some ⟨g3, 0, none⟩ ∧ A4 = some ⟨g4, 0, none⟩ ∧ W.rangeAt g3 (k * 3) (c3 a b c) ∧ W.rangeAt g4 (k * 3) (c3 a b c) ∧ a < 1000000 ∧ b < 1000000 ∧ c < 1000000 from by
          obtain ⟨g3, rfl⟩ := hA3 (by omega)
          obtain ⟨g4, rfl⟩ := hA4 (by omega)
          have hx : E[k]? = some E[k] := List.getElem?_eq_getElem hk
          obtain ⟨l1, l2, l3⟩ := hlt.out _ (List.getElem_mem hk)
          exact ⟨E[k].1, E[k].2.1, E[k].2.2, g3, g4, rfl, rfl, (hO3'.out.keep (w' := W) fun j hj => hW.block j (hO3'.out.lt j hj).2).range (k * 3) _ (fun j hj => hecs.out k _ hx j hj), (hO4.out.keep (w' := W) fun j hj => hW.block j (hO4.out.lt j hj).2).range (k * 3) _ (fun j hj => hecs.out k _ hx j hj), l1, l2, l3⟩))
        have hgd := guard_edge
        have heq := hid eq_edge
        have hrf := hid (Below.refl w4.heap.size w4)
        clear hA3 hA4 hlt hecs hO3' hO4 hie hse
        have hlen' := hlen.out
        generalize E.length = n at *
        go_upto_region 41 with (fail)
        go_wp2
        go_loopw [32] (fun i wr => ∃ k : Nat, k ≤ n ∧ i = .int .i64 k ∧ Below w4.heap.size w4 wr) (fun i _ => n - (intOf i).toNat)
        case atStart => exact ⟨0, Nat.zero_le _, rfl, hrf.out⟩
        case round =>
          obtain ⟨k, hk, rfl, rB⟩ := hrel
          replace rB := hid rB
          by_cases hlt : k < n
          · have dk : decide ((k : Int) < (n : Int)) = true := decide_eq_true (by omega)
            obtain ⟨a, b, c, g3, g4, rfl, rfl, rg1, rg2, l1, l2, l3⟩ := hrg.out wr rB.out k hlt
            replace rg1 := hid rg1; replace rg2 := hid rg2
            have k0 : (0 : Int) ≤ (k : Int) := Int.natCast_nonneg _
            have k1 : (k : Int) < (n : Int) := by omega
            have hq := heq.out
            have heq1 := fun W => hq W a b c l1 l2 l3
            clear hq
            go_upto_region 44 with (fail)
            refine wp_region_still_tail 8 (by kernel_rfl) (by kernel_rfl) ?_
            simp only [List.take_succ_cons, List.take_zero, List.drop_succ_cons, List.drop_zero]
            repeat (first
              | ((with_reducible refine still_gate 256 rfl ?_); refine still_row rfl 59 _ rfl g3 (k * 3) rfl _ _ rg1.out Tryz.underlying59 rfl sz_edgeE ?_)
              | ((with_reducible refine still_gate 260 rfl ?_); refine still_row rfl 59 _ rfl g4 (k * 3) rfl _ _ rg2.out Tryz.underlying59 rfl sz_edgeE ?_)
              | still_step)
            try refine wpStill_nil ?_
            change wpList _ _ _ _ _ wr.drew
            have rBd := hid rB.out.drew
            clear rg1 rg2 rB
            generalize wr.drew = wd at *
            go_wp2
            go_roundw
            case rel => exact ⟨k + 1, by omega, by go_num, rBd.out⟩
            case measure => simp [intOf]; omega
          · obtain rfl : k = n := by omega
            have dk : decide ((k : Int) < (k : Int)) = false := decide_eq_false (by omega)
            have hcut2 := hid (hS.out.bel.trans (rB.out.mono hS.out.le))
            clear hrg hS rB hF hF2
            have him := hid implDia_any
            have hsm := hid specDia_any
            have hil := hid implLvo_any
            have hsl := hid specLvo_any
            have hrr := hid rows_any
            have hcy := hid (fun (x : Int) => (show (x == x) = true by simp))
            go_upto_region 52 with (first
              | (go_at_call 30; (with_reducible refine (hdr3.out _ hcut2.out).mono ?_); rintro e w5 ⟨m3, n3, rfl, hF3, hb⟩; have hle3 := hid (hcut2.out.trans (hb.mono hcut2.out.size)).size; have hS := hid (hz2.out _ _ (hsE.out.call (hcut2.out.trans (hb.mono hcut2.out.size)))); clear hb)
              | ((with_reducible refine gateOp (op := .store 27 (.tmp 33) (.tmp 265)) rfl ?_); refine store_mach rfl _ _ rfl w5.heap.size rfl m3 rfl 27 _ hS.out.m0 ?_; intro w6 p3 ho hsz hbl; replace hS := hid (hS.out.setM hle3.out p3 ho hbl); clear p3 ho hsz hbl)
              | ((with_reducible refine gate (N := 268) rfl ?_); refine load_mach rfl _ rfl w5.heap.size rfl m3 hS.out.m0 ?_)
              | (go_at_call 24; (with_reducible refine (him.out _ m3 hF3.out.1.ok n3).mono ?_); rintro e w7 ⟨rfl, hb⟩; replace hS := hid (hS.out.call hb); clear hb)
              | ((with_reducible refine gate (N := 274) rfl ?_); refine load_mach rfl _ rfl w5.heap.size rfl m3 hS.out.m0 ?_)
              | (go_at_call 31; (with_reducible refine (hsm.out _ m3 hF3.out.1.ok n3).mono ?_); rintro e w8 ⟨rfl, hb⟩; replace hS := hid (hS.out.call hb); clear hb)
              | (go_at_call 32; (with_reducible refine (hdr4.out _ hS.out.bel).mono ?_); rintro e w9 ⟨m4, n4, rfl, hF4, hb⟩; have hle4 := hid (hS.out.call hb).le; replace hS := hid (hz2.out _ _ (hS.out.call hb)); clear hb)
              | ((with_reducible refine gateOp (op := .store 27 (.tmp 39) (.tmp 282)) rfl ?_); refine store_mach rfl _ _ rfl w9.heap.size rfl m4 rfl 27 _ hS.out.m0 ?_; intro w10 p3 ho hsz hbl; replace hS := hid (hS.out.setM hle4.out p3 ho hbl); clear p3 ho hsz hbl)
              | ((with_reducible refine gate (N := 285) rfl ?_); refine load_mach rfl _ rfl w9.heap.size rfl m4 hS.out.m0 ?_)
              | (go_at_call 22; (with_reducible refine (hil.out _ m4 hF4.out.1.ok n4).mono ?_); rintro e w11 ⟨v5, rfl, hM, hb⟩; obtain ⟨rows5, hS'⟩ := hS.out.callMat hb hM.mat; replace hS := hid hS'; clear hS' hb hM)
              | ((with_reducible refine gate (N := 291) rfl ?_); refine load_mach rfl _ rfl w9.heap.size rfl m4 hS.out.m1 ?_)
              | (go_at_call 33; (with_reducible refine (hsl.out _ m4 hF4.out.1.ok n4).mono ?_); rintro e w12 ⟨v6, rfl, hM, hb⟩; obtain ⟨rows6, hS'⟩ := hS.out.callMat hb hM; replace hS := hid hS'; clear hS' hb hM))
            have hLl := hid (lvoAns_len m4 n4)
            have q1 := hcy.out (diaAns m3 n3).1
            have q2 := hcy.out (diaAns m3 n3).2
            have q3 := hcy.out (lvoAns m4 n4).2
            generalize (diaAns m3 n3).1 = x1 at *
            generalize (diaAns m3 n3).2 = x2 at *
            generalize (lvoAns m4 n4).1 = M at *
            generalize (lvoAns m4 n4).2 = x3 at *
            go_wp2_with (
              (go_at_call 34; (with_reducible refine (hrr.out _ _ _ _ _ M (Asn.toMat hS.out.g1) (Asn.toMat hS.out.g0) (by have := hLl.out.1; omega) (fun r hr => by have := hLl.out.2 r hr; omega)).mono ?_); rintro e w13 ⟨rfl, hb⟩; replace hS := hid (hS.out.call hb); clear hb))
            go_ret
            exact ⟨rfl, hS.out.bel⟩
  · have dl : decide (4096 < l.length) = true := decide_eq_true (by omega)
    rw [dl] at hbg
    go_enter Tryz.func4, Tryz.ntmps4
    go_wp2_with (
      (go_at_call 8; (with_reducible refine (hbg.out).mono ?_); rintro e w1 ⟨rfl, rfl⟩))
    go_ret
    exact ⟨rfl, Below.refl _ _⟩
end Go.Proofs.YthmcdfjijkecfaaGreat
