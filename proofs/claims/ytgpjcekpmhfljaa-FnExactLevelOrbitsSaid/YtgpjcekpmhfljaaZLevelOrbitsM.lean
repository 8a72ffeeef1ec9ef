/- What the proof of LevelOrbits leans on, part 13 of 13. -/
import Derived.Test.YtgpjcekpmhfljaaZLevelOrbitsL
/- Orbits of a level: the reference. -/
namespace Go.Proofs.Ytgpjcekpmhfljaa
open Go.RowKit
set_option linter.unusedVariables false
set_option linter.unusedSimpArgs false
-- @LONG

theorem orbT_take {far : List Int} {j : Nat} : orbT far (j + 1) = if 0 ≤ far.getD j 0 then orbT far j ++ [j] else orbT far j := by
  unfold orbT
  rw [List.range_succ, List.filter_append]
  split
  · rename_i h; simp only [List.filter_cons, List.filter_nil, decide_eq_true h, if_true]
  · rename_i h; simp only [List.filter_cons, List.filter_nil, decide_eq_false h]; simp
theorem natI_snoc (l : List Nat) (x : Nat) : natI (l ++ [x]) = natI l ++ [(x : Int)] := by simp [natI]
set_option maxHeartbeats 8000000 in
set_option maxRecDepth 100000 in
theorem l05Orbits_any (w : World) (m : Mach) (l s : Nat) (gd : Good m l s) (b0 : Nat) (v : Value) (M : List (List Int)) (hM : Mat w b0 v M) (hMl : M.length = 2 * s) (n : Nat) (hn : n ≤ 243) (T : Nat → Nat → Nat)
    (hTM : ∀ p, p < 2 * s → ∃ row, M[p]? = some row ∧ row.length = n ∧ ∀ i, i < n → row[i]? = some ((T p i : Nat) : Int)) (hT : ∀ j fr, j < 2 * s → fr < n → T j fr < n) :
    Calls Try.prog 61 #[.agg (mcells m), v] w fun e w' => ∃ v', e = .returned v' ∧ Mat w' w.heap.size v' (orbS (fun k => orbT (treeT T s n k).far n) n n).2 ∧ Below w.heap.size w w' := by
  have s1 := gd.s1
  have hgr := hid (fun k (hk : k < n) W (hW : Below w.heap.size w W) => grow_any W m l s gd b0 v M (hM.below hW) hMl n k hn hk T hTM hT)
  obtain ⟨row0, hr0, hr0l, _⟩ := hTM 0 (by omega)
  obtain ⟨gM, cM, rfl, _, _⟩ := hM.blk (fun e => by rw [e] at hMl; simp at hMl; omega)
  rw [hMl] at hM hgr ⊢
  obtain ⟨r0, hrc, hrO⟩ := hM.row 0 row0 hr0
  obtain ⟨A0, cp0, rfl, _, _⟩ := hrO.form
  rw [ints_length, hr0l] at hrc
  have hok := hid (fun k (hk : k < n) => (show TrOk n (treeT T s n k) from growT_ok hk hT _))
  have hfl0 := hid (fun k (hk : k < n) => (hok.out k hk).fl)
  have hmk := fun W : World => run_make_row' (P := Try.prog) 83 4 (.bool false) 1 Try.underlying83 info_bool rfl .i64 .i64 n (by omega) (by omega) W
  have hmc := hid (toList_madeCells_one (.bool false) n)
  generalize madeCells #[.bool false] n = mc at *
  have hmcs := hid (show mc.size = n by rw [← Array.length_toList, hmc.out, List.length_replicate])
  have hS := (((St.start w).newMB m 29).newMat #[] 0 rfl (by omega)).newArr mc n hmcs.out 4 (by omega)
  have hcr := ((Below.refl w.heap.size w).alloc (Nat.le_refl _) (.cells (mcells m) 29)).cell (p := ⟨gM, 0, none⟩) (hM.lt gM rfl).2
  rw [hrc] at hcr
  rw [hmc.out] at hS
  simp only [heap_alloc_size] at hS
  obtain ⟨f, hfd⟩ : ∃ f : Nat → List Nat, f = fun k => orbT (treeT T s n k).far n := ⟨_, rfl⟩
  have hfe := hid (fun k => (show orbT (treeT T s n k).far n = f k by rw [hfd]))
  simp only [hfe.out] at ⊢
  rw [show (fun k => f k) = f from rfl]
  clear hfd
  have hrep : List.replicate n (Value.bool false) = bls (orbS f n 0).1 := by simp [bls, orbS]
  rw [hrep] at hS
  have hS0 := hid (show Asn.mat w.heap.size (.slice (some ⟨w.heap.size + 1, 0, none⟩) 0 0) (List.replicate 0 (.slice none 0 0)) (List.replicate 0 []) = Asn.mat w.heap.size (.slice (some ⟨w.heap.size + 1, 0, none⟩) 0 0) [] (orbS f n 0).2 from rfl)
  rw [hS0.out] at hS
  replace hS := hid hS
  have hsl := hid (orbS_len f n)
  have hso := hid (orbS_out f n)
  have hmet := hid (fun k (h : (orbS f n k).1[k]? = some true) => orbS_met h)
  have hnew := hid (fun k (h : (orbS f n k).1[k]? = some false) => orbS_new h)
  replace gd := hid gd
  clear hrep hmc hM hTM hT hS0 hr0 hrO hrc
  go_enter Try.func61, Try.ntmps61
  go_wp2
  go_loopw [6, 8] (fun o i wr => ∃ (k : Nat) (vo : Value) (rows : List Value), k ≤ n ∧ i = .int .i64 k ∧ vo = o ∧ St w.heap.size w [Asn.mat w.heap.size vo rows (orbS f n k).2, Asn.own w.heap.size 4 (.slice (some ⟨w.heap.size + 1 + 1, 0, none⟩) n n) (bls (orbS f n k).1), Asn.mb 29 w.heap.size m] wr) (fun _ i _ => n - (intOf i).toNat)
  case atStart => exact ⟨0, _, _, Nat.zero_le _, rfl, rfl, hS.out.f1⟩
  case round =>
    obtain ⟨k, vo, rows, hk, rfl, rfl, rS⟩ := hrel
    clear hS hcr
    have hob := hid rS.bel
    have hbsz := hid (show w.heap.size ≤ wr.heap.size from rS.le)
    replace rS := hid rS
    by_cases hlk : k < n
    · have dk : decide ((k : Int) < (n : Int)) = true := decide_eq_true (by omega)
      have k0 : (0 : Int) ≤ (k : Int) := Int.natCast_nonneg _
      have k1 : (k : Int) < (n : Int) := by omega
      by_cases hm : (orbS f n k).1[k]? = some true
      · have ck := rS.out.o1.cellAt k _ (bls_get hm)
        have hs2 := hid (hmet.out k hm)
        clear hm
        go_wp2
        go_roundw
        case rel => exact ⟨k + 1, _, _, by omega, by go_num, rfl, by rw [hs2.out]; exact rS.out⟩
        case measure => simp [intOf]; omega
      · have hm2 := get_bool (by rw [hsl.out]; omega) hm
        have ck := rS.out.o1.cellAt k _ (bls_get hm2)
        have hs2 := hid (hnew.out k hm2)
        have hgk := hid (hgr.out k hlk wr hob.out)
        have hok2 := hso.out k
        have hfk := hid (hfe.out k)
        have hffl := hid (hfl0.out k hlk)
        clear hm hm2
        generalize treeT T s n k = t at *
        generalize hst : (orbS f n k).1 = sn at *
        generalize hos : (orbS f n k).2 = os at *
        have hsl2 := hid (show sn.length = n from by rw [← hst]; exact hsl.out k)
        replace hst := hid hst; replace hos := hid hos
        go_upto_region 8 with (first
          | ((with_reducible refine gate (N := 28) rfl ?_); refine load_mach rfl _ rfl w.heap.size rfl m rS.out.m2 ?_)
          | (go_at_call 34; (with_reducible refine (hgk.out).mono ?_); rintro e w4 ⟨g1, c1, g2, g3, g4, X, rfl, hlk, hT⟩; (have rS2 := ((rS.out.callOwn hT.bel hT.o3).newOwn [] 2 (by simp)).newBlk #[.slice (some ⟨g1, 0, none⟩) t.q.length c1, .slice (some ⟨g2, 0, none⟩) n n, .slice (some ⟨g3, 0, none⟩) n n, .slice (some ⟨g4, 0, none⟩) n n] 53); simp only [heap_alloc_size] at rS2; (have hsz4 := hid (show w.heap.size ≤ w4.heap.size + 1 from by have := (rS.out.callOwn hT.bel hT.o3).le; omega)); replace rS := hid rS2; clear hT hlk hgk rS2))
        replace rS := hid (show St w.heap.size w [Asn.own w.heap.size 2 (.slice (some ⟨w4.heap.size, 0, none⟩) 0 0) (ints (natI (orbT t.far 0))), Asn.own w.heap.size 4 (.slice (some ⟨w.heap.size + 1 + 1, 0, none⟩) n n) (bls (mkAll sn (orbT t.far 0))), Asn.blk (w4.heap.size + 1) #[.slice (some ⟨g1, 0, none⟩) t.q.length c1, .slice (some ⟨g2, 0, none⟩) n n, .slice (some ⟨g3, 0, none⟩) n n, .slice (some ⟨g4, 0, none⟩) n n] 53, Asn.own w.heap.size 2 (.slice (some ⟨g4, 0, none⟩) n n) (ints t.far), Asn.mat w.heap.size vo rows os, Asn.mb 29 w.heap.size m] _ from (rS.out.f4).f2)
        generalize (w4.alloc (Obj.cells #[] 2)).alloc _ = w5 at *
        generalize w4.heap.size = b4 at *
        generalize t.q.length = ql at *
        generalize t.far = fr at *
        go_wp2
        go_loopw [10, 11] (fun o i wi => ∃ (j : Nat) (vp : Value), j ≤ n ∧ i = .int .i64 j ∧ vp = o ∧ St w.heap.size w [Asn.own w.heap.size 2 vp (ints (natI (orbT fr j))), Asn.own w.heap.size 4 (.slice (some ⟨w.heap.size + 1 + 1, 0, none⟩) n n) (bls (mkAll sn (orbT fr j))), Asn.blk (b4 + 1) #[.slice (some ⟨g1, 0, none⟩) ql c1, .slice (some ⟨g2, 0, none⟩) n n, .slice (some ⟨g3, 0, none⟩) n n, .slice (some ⟨g4, 0, none⟩) n n] 53, Asn.own w.heap.size 2 (.slice (some ⟨g4, 0, none⟩) n n) (ints fr), Asn.mat w.heap.size vo rows os, Asn.mb 29 w.heap.size m] wi) (fun _ i _ => n - (intOf i).toNat)
        case atStart => exact ⟨0, _, Nat.zero_le _, rfl, rfl, rS.out⟩
        case round =>
          obtain ⟨j, vp, hj, rfl, rfl, zS⟩ := hrel
          clear rS
          have q3 := (show _ = some (Value.slice (some ⟨g4, 0, none⟩) n n) from cell_of_row _ _ 3 _ _ _ zS.k2)
          replace zS := hid zS
          by_cases hlj : j < n
          · have dj : decide ((j : Int) < (n : Int)) = true := decide_eq_true (by omega)
            obtain ⟨y, hy⟩ : ∃ y, fr[j]? = some y := ⟨_, List.getElem?_eq_getElem (by rw [hffl.out]; exact hlj)⟩
            have cy := zS.out.o3.cellAt j (.int .i64 y) (by simp [ints, hy])
            have hgy : fr.getD j 0 = y := by rw [List.getD_eq_getElem?_getD, hy]; rfl
            have hot := hid (orbT_take (far := fr) (j := j))
            have j0 : (0 : Int) ≤ (j : Int) := Int.natCast_nonneg _
            have j1 : (j : Int) < (n : Int) := by omega
            have hbl := hid (show (bls (mkAll sn (orbT fr j))).length = n by rw [bls_length, mkAll_len]; exact hsl2.out)
            rw [hgy] at hot
            by_cases hp : 0 ≤ y
            · have hot2 := hot.out
              rw [if_pos hp] at hot2
              replace hot2 := hid hot2
              have dp : decide (0 ≤ y) = true := decide_eq_true hp
              have fs := Own.frozenAt zS.out.o1 hbl.out j
              obtain ⟨bb, hbb⟩ : ∃ b, (mkAll sn (orbT fr j))[j]? = some b := ⟨_, List.getElem?_eq_getElem (by rw [mkAll_len, hsl2.out]; exact hlj)⟩
              have cbb := zS.out.o1.cellAt j _ (bls_get hbb)
              have hset := hid (bls_set (mkAll sn (orbT fr j)) j true)
              have hol := hid (show (ints (natI (orbT fr j))).length = (orbT fr j).length by rw [ints_length, natI_length])
              have hol2 := orbT_len fr j
              clear hbb hy hot hgy
              go_upto_region 13 with (fail)
              replace zS := hid ((zS.out.f1).setOwn hbl.out j (.bool true) hlj)
              rw [hset.out, ← mkAll_snoc, ← hot2.out] at zS
              clear q3 cbb fs
              generalize wr.setCell _ _ = wx at *
              generalize hoj : orbT fr (j + 1) = oj1 at *
              replace hoj := hid hoj
              go_wp2_with (first
                | ((with_reducible refine gate (N := 50) rfl ?_); refine St.app 34 2 (.int .i64 0) 8 Try.underlying34 info_i64 rfl (by omega) rfl _ _ rfl _ _ rfl zS.out.f1 _ rfl rfl (orbT fr j).length hol.out (by omega) ?_; intro gn cn w6 zS'; replace zS := hid zS'; clear zS'))
              rw [← ints_snoc, ← natI_snoc, ← hot2.out] at zS
              go_roundw
              case rel => exact ⟨j + 1, _, by omega, by go_num, rfl, by rw [hoj.out]; exact zS.out⟩
              case measure => simp [intOf]; omega
            · have hot2 := hot.out
              rw [if_neg hp] at hot2
              replace hot2 := hid hot2
              have dp : decide (0 ≤ y) = false := decide_eq_false hp
              clear hy hot hgy
              go_wp2
              go_roundw
              case rel => exact ⟨j + 1, _, by omega, by go_num, rfl, by rw [hot2.out]; exact zS.out⟩
              case measure => simp [intOf]; omega
          · obtain rfl : n = j := by omega
            have dj : decide ((n : Int) < (n : Int)) = false := decide_eq_false (by omega)
            rw [hfk.out] at zS
            clear q3
            obtain ⟨Ap, cpp, rfl, _, _⟩ := zS.out.o0.form
            generalize (ints (natI (f k))).length = lk at *
            go_wp2_with (first
              | ((with_reducible refine gate (N := 54) rfl ?_); refine St.appM rfl _ _ rfl _ _ rows os (natI (f k)) rfl zS.out.f4 rfl _ rfl (by omega) ?_; intro gn cn w7 zS'; replace zS := hid zS'; clear zS'))
            go_roundw
            case rel => exact ⟨k + 1, _, _, by omega, by go_num, rfl, by rw [hs2.out]; exact zS.out.f2.drop.f2.drop⟩
            case measure => simp [intOf]; omega
    · obtain rfl : k = n := by omega
      have dk : decide ((k : Int) < (k : Int)) = false := decide_eq_false (by omega)
      go_wp2
      go_ret
      exact ⟨_, rfl, ⟨_, rS.out.g0⟩, rS.out.bel⟩
end Go.Proofs.Ytgpjcekpmhfljaa

/- LevelOrbits and IsTransitiveLevel: what the program and the reference answer. -/
namespace Go.Proofs.Ytgpjcekpmhfljaa
open Go.RowKit
set_option linter.unusedVariables false
set_option linter.unusedSimpArgs false
-- @LONG

/-- The orbits of a level. -/
def orbL (m : Mach) (d s n : Nat) : List (List Int) := (orbS (fun k => orbT (treeT (lvT m d s n) s (pw d n) k).far (pw d n)) (pw d n) (pw d n)).2
open Classical in
/-- What LevelOrbits answers. -/
noncomputable def lvoAns (m : Mach) (n : Int) : List (List Int) × Int := if levelI m n = 0 then (orbL m m.L.toNat m.S.toNat n.toNat, 0) else ([], levelI m n)
theorem lvoAns_c {m : Mach} {n : Int} (h : levelI m n ≠ 0) : lvoAns m n = ([], levelI m n) := by unfold lvoAns; rw [if_neg h]
theorem lvoAns_0 {m : Mach} {d s n : Nat} (g : Good m d s) (h : levelI m n = 0) : lvoAns m n = (orbL m d s n, 0) := by unfold lvoAns; rw [if_pos h, g.L, g.S]; rfl
theorem lvoAns_len (m : Mach) (n : Int) : (lvoAns m n).1.length ≤ 243 ∧ ∀ r ∈ (lvoAns m n).1, r.length ≤ 243 := by
  by_cases h : levelI m n = 0
  · obtain ⟨d, s, n', gd, rfl, hn5, hnl, hpw⟩ := levelI_good h
    rw [lvoAns_0 gd h]
    exact ⟨Nat.le_trans (orbS_out _ _ _) hpw, fun r hr => orbS_rows (fun k _ => Nat.le_trans (orbT_len _ _) hpw) _ (Nat.le_refl _) r hr⟩
  · rw [lvoAns_c h]; exact ⟨Nat.zero_le _, fun r hr => by cases hr⟩
set_option maxHeartbeats 4000000 in
set_option maxRecDepth 100000 in
theorem implLvo_any (w : World) (m : Mach) (hk : m.Ok) (n : Int) :
    Calls Try.prog 29 #[.agg (mcells m), .int .i64 n] w fun e w' => ∃ v', e = .returned (.tuple #[v', .int .i64 (lvoAns m n).2]) ∧ MatD w' w.heap.size v' (lvoAns m n).1 ∧ Below w.heap.size w w' := by
  have hS := hid ((St.start w).newMB m 29)
  have hcode := hid (fun W => levelCode_any W m hk n)
  by_cases h0 : levelI m n = 0
  · obtain ⟨d, s, n, gd, rfl, hn5, hnl, hpw⟩ := levelI_good h0
    rw [h0] at hcode
    have hgr := hid (fun W hW => graph_any w.heap.size W m hW d s gd n (by omega) (by omega))
    have hor := hid (fun W G vA vB (hG : GB W G (pw d n) vA vB (tabA m d n s) (tabA (inv m d s) d n s)) => orbits_any W G (pw d n) s vA vB _ _ hG (pw_few gd.l2 gd.l3 hnl) (tabA_length _ _ _ _) (tabA_length _ _ _ _) gd.s1 gd.s16 (lvT m d s n) (fun p hp => lvT_A p hp) (fun p hp => lvT_B p hp) (fun j fr hj hf => lvT_lt gd j fr hj hf) hpw)
    rw [lvoAns_0 gd h0]
    have hoe := hid (show (orbS (fun k => orbT (treeT (lvT m d s n) s (pw d n) k).far (pw d n)) (pw d n) (pw d n)).2 = orbL m d s n from rfl)
    rw [hoe.out] at hor
    replace hk := hid hk; replace gd := hid gd
    clear h0 hoe
    generalize orbL m d s n = R at *
    generalize hM : pw d n = M at *
    replace hM := hid hM
    go_enter Try.func29, Try.ntmps29
    go_wp2_with (first
      | ((with_reducible refine gate (N := 7) rfl ?_); refine load_mach rfl _ rfl w.heap.size rfl m hS.out.m0 ?_)
      | (go_at_call 39; (with_reducible refine (hcode.out _).mono ?_); rintro e w1 ⟨rfl, hb⟩; replace hS := hid (hS.out.call hb); clear hb hcode)
      | (go_at_call 40; (with_reducible refine (hgr.out _ hS.out.m0).mono ?_); rintro e w2 ⟨vA, vB, rfl, hG, hb⟩; replace hS := hid (hS.out.call hb); have hor2 := hid (hor.out _ _ _ _ hG); clear hb hgr hor hG)
      | (go_at_call 62; (with_reducible refine (hor2.out).mono ?_); rintro e w3 ⟨v3, rfl, hMt, hb⟩; have hMt2 := hid (hMt.mono hS.out.le); replace hS := hid (hS.out.call hb); clear hb hor2 hMt))
    go_ret2
    exact ⟨_, rfl, hMt2.out, hS.out.bel⟩
  · rw [lvoAns_c h0]
    have dn : ((levelI m n) != 0) = true := by simpa using h0
    generalize levelI m n = cd at *
    replace hk := hid hk
    clear h0
    go_enter Try.func29, Try.ntmps29
    go_wp2_with (first
      | ((with_reducible refine gate (N := 7) rfl ?_); refine load_mach rfl _ rfl w.heap.size rfl m hS.out.m0 ?_)
      | (go_at_call 39; (with_reducible refine (hcode.out _).mono ?_); rintro e w1 ⟨rfl, hb⟩; replace hS := hid (hS.out.call hb); clear hb hcode))
    go_ret2
    exact ⟨_, rfl, ⟨[], ⟨Own.nil _ _ _, rfl, fun i r l hr => by simp at hr⟩, List.Pairwise.nil⟩, hS.out.bel⟩
set_option maxHeartbeats 2000000 in
set_option maxRecDepth 100000 in
theorem implTra_any (w : World) (m : Mach) (hk : m.Ok) (n : Int) :
    Calls Try.prog 27 #[.agg (mcells m), .int .i64 n] w fun e w' => e = .returned (.tuple #[.bool ((((lvoAns m n).1.length : Nat) : Int) == 1), .int .i64 (lvoAns m n).2]) ∧ Below w.heap.size w w' := by
  have hS := hid ((St.start w).newMB m 29)
  have hlv := hid (fun W => implLvo_any W m hk n)
  generalize (lvoAns m n).1 = M at *
  generalize (lvoAns m n).2 = cd at *
  replace hk := hid hk
  go_enter Try.func27, Try.ntmps27
  go_wp2_with (first
    | ((with_reducible refine gate (N := 9) rfl ?_); refine load_mach rfl _ rfl w.heap.size rfl m hS.out.m0 ?_)
    | (go_at_call 29; (with_reducible refine (hlv.out _).mono ?_); rintro e w3 ⟨v3, rfl, hMt, hb⟩; obtain ⟨A, cp, rfl⟩ := hMt.mat.form; replace hS := hid (hS.out.call hb); clear hb hlv hMt))
  go_ret2
  exact ⟨rfl, hS.out.bel⟩
set_option maxHeartbeats 4000000 in
set_option maxRecDepth 100000 in
theorem specLvo_any (w : World) (m : Mach) (hk : m.Ok) (n : Int) :
    Calls Try.prog 28 #[.agg (mcells m), .int .i64 n] w fun e w' => ∃ v', e = .returned (.tuple #[v', .int .i64 (lvoAns m n).2]) ∧ Mat w' w.heap.size v' (lvoAns m n).1 ∧ Below w.heap.size w w' := by
  have hS := hid ((St.start w).newMB m 29)
  have hcode := hid (fun W => l05Code_any W m hk n)
  by_cases h0 : levelI m n = 0
  · obtain ⟨d, s, n, gd, rfl, hn5, hnl, hpw⟩ := levelI_good h0
    rw [h0] at hcode
    have htb := hid (fun W => l05Tables_any W m d s gd hk n (by omega) (by omega))
    have hor := hid (fun W b v (hM : Mat W b v (tabA m d n s ++ tabA (inv m d s) d n s)) => l05Orbits_any W m d s gd b v _ hM (by rw [List.length_append, tabA_length, tabA_length]; omega) (pw d n) hpw (lvT m d s n) (fun p hp => lvT_M p hp) (fun j fr hj hf => lvT_lt gd j fr hj hf))
    rw [lvoAns_0 gd h0]
    have hoe := hid (show (orbS (fun k => orbT (treeT (lvT m d s n) s (pw d n) k).far (pw d n)) (pw d n) (pw d n)).2 = orbL m d s n from rfl)
    rw [hoe.out] at hor
    replace hk := hid hk; replace gd := hid gd
    clear h0 hoe
    generalize orbL m d s n = R at *
    generalize tabA m d n s ++ tabA (inv m d s) d n s = TM at *
    generalize hM : pw d n = M at *
    replace hM := hid hM
    go_enter Try.func28, Try.ntmps28
    go_upto_region 4 with (first
      | ((with_reducible refine gate (N := 7) rfl ?_); refine load_mach rfl _ rfl w.heap.size rfl m hS.out.m0 ?_)
      | (go_at_call 54; (with_reducible refine (hcode.out _).mono ?_); rintro e w1 ⟨rfl, hb⟩; replace hS := hid (hS.out.call hb); clear hb hcode))
    replace hS := hid hS.out.drew
    refine wp_region_heldL (L := [(4, (fun w' : World => MB w' 29 w.heap.size m))]) (by kernel_rfl) (HeldL.cons (fun _ => hS.out.m0) HeldL.nil) (fun hHeld => ?_)
    generalize w1.drew = wa at *
    refine wpAnyL_takeP (i := 0) 4 [] (v := (.agg (mcells m))) (fun w' : World => MB w' 29 w.heap.size m) rfl (by kernel_rfl) (by kernel_rfl) (by kernel_rfl) (by rfl) (by kernel_rfl) (by simp) (fun _ _ _ h => h) (Or.inl ⟨by rfl, ?_⟩) (by assumption) ?_
    · (intro W hW; exact exec_load _ rfl rfl (load_run hW))
    intro hHeld'
    clear hHeld; have hHeld := hHeld'; clear hHeld'
    try simp only [Act.put, List.getElem_toArray, List.getElem_cons_succ, List.getElem_cons_zero, List.setIfInBounds_toArray, List.set_cons_zero, List.set_cons_succ]
    refine wpAnyL_takeP (i := 1) 4 [3] (v := (.agg (mcells m))) (fun w' : World => MB w' 29 w.heap.size m) rfl (by kernel_rfl) (by kernel_rfl) (by kernel_rfl) (by rfl) (by kernel_rfl) (by simp) (fun _ _ _ h => h) (Or.inl ⟨by rfl, ?_⟩) (by assumption) ?_
    · (intro W hW; exact exec_load _ rfl rfl (load_run hW))
    intro hHeld'
    clear hHeld; have hHeld := hHeld'; clear hHeld'
    try simp only [Act.put, List.getElem_toArray, List.getElem_cons_succ, List.getElem_cons_zero, List.setIfInBounds_toArray, List.set_cons_zero, List.set_cons_succ]
    refine wpAnyL_take0 (i := 2) (v := ?_) rfl (by kernel_rfl) (by kernel_rfl) (by kernel_rfl) (by rfl) (fun _ _ _ h => h) (Or.inl ⟨by rfl, ?_⟩) (by assumption) ?_
    rotate_left
    · (intro W _; go_simp; (with_reducible rfl))
    intro hHeld'
    clear hHeld; have hHeld := hHeld'; clear hHeld'
    try simp only [Act.put, List.getElem_toArray, List.getElem_cons_succ, List.getElem_cons_zero, List.setIfInBounds_toArray, List.set_cons_zero, List.set_cons_succ]
    refine wpAnyL_ready (rs := [3]) (by kernel_rfl) (by simp) ?_
    refine AllReadyL.cons rfl (fun K hK => ?_) AllReadyL.nil
    go_simp
    (with_reducible refine (htb.out _).mono ?_)
    rintro e w3 ⟨v, rfl, hTM, hb⟩
    replace hS := hid (hS.out.call hb)
    clear hb
    go_simp
    refine hK.out _ _ (HeldL.cons (fun _ => hS.out.m0) HeldL.nil) (fun hHeld' => ?_)
    clear hK K hHeld; have hHeld := hHeld'; clear hHeld'
    try simp only [Act.put, List.getElem_toArray, List.getElem_cons_succ, List.getElem_cons_zero, List.setIfInBounds_toArray, List.set_cons_zero, List.set_cons_succ]
    refine wpAnyL_ready (rs := [4]) (by kernel_rfl) (by simp) ?_
    refine AllReadyL.cons rfl (fun K hK => ?_) AllReadyL.nil
    go_simp
    (with_reducible refine (hor.out _ _ _ hTM).mono ?_)
    rintro e w4 ⟨v4, rfl, hMt, hb⟩
    have hMt2 := hid (hMt.mono hS.out.le)
    replace hS := hid (hS.out.call hb)
    clear hb hTM hor
    skip
    go_simp
    refine hK.out _ _ (HeldL.cons (fun h => absurd h (by decide +kernel)) HeldL.nil) (fun hHeld' => ?_)
    clear hK K hHeld; have hHeld := hHeld'; clear hHeld'
    try simp only [Act.put, List.getElem_toArray, List.getElem_cons_succ, List.getElem_cons_zero, List.setIfInBounds_toArray, List.set_cons_zero, List.set_cons_succ]
    refine wpAnyL_take0 (i := 5) (v := ?_) rfl (by kernel_rfl) (by kernel_rfl) (by kernel_rfl) (by rfl) (fun _ _ _ h => h) (Or.inl ⟨by rfl, ?_⟩) (by assumption) ?_
    rotate_left
    · (intro W _; go_simp; (with_reducible rfl))
    intro hHeld'
    clear hHeld; have hHeld := hHeld'; clear hHeld'
    try simp only [Act.put, List.getElem_toArray, List.getElem_cons_succ, List.getElem_cons_zero, List.setIfInBounds_toArray, List.set_cons_zero, List.set_cons_succ]
    refine wpAnyL_take0 (i := 6) (v := ?_) rfl (by kernel_rfl) (by kernel_rfl) (by kernel_rfl) (by rfl) (fun _ _ _ h => h) (Or.inl ⟨by rfl, ?_⟩) (by assumption) ?_
    rotate_left
    · (intro W _; go_simp; (with_reducible rfl))
    intro hHeld'
    clear hHeld; have hHeld := hHeld'; clear hHeld'
    try simp only [Act.put, List.getElem_toArray, List.getElem_cons_succ, List.getElem_cons_zero, List.setIfInBounds_toArray, List.set_cons_zero, List.set_cons_succ]
    skip
    skip
    refine wpAnyL_done (by kernel_rfl) ?_ _
    go_wp2
    go_ret2
    exact ⟨_, rfl, hMt2.out, hS.out.bel⟩
  · rw [lvoAns_c h0]
    have dn : ((levelI m n) != 0) = true := by simpa using h0
    generalize levelI m n = cd at *
    replace hk := hid hk
    clear h0
    go_enter Try.func28, Try.ntmps28
    go_wp2_with (first
      | ((with_reducible refine gate (N := 7) rfl ?_); refine load_mach rfl _ rfl w.heap.size rfl m hS.out.m0 ?_)
      | (go_at_call 54; (with_reducible refine (hcode.out _).mono ?_); rintro e w1 ⟨rfl, hb⟩; replace hS := hid (hS.out.call hb); clear hb hcode))
    go_ret2
    exact ⟨_, rfl, Mat.nil _ _, hS.out.bel⟩
set_option maxHeartbeats 4000000 in
set_option maxRecDepth 100000 in
theorem specTra_any (w : World) (m : Mach) (hk : m.Ok) (n : Int) :
    Calls Try.prog 26 #[.agg (mcells m), .int .i64 n] w fun e w' => e = .returned (.tuple #[.bool ((((lvoAns m n).1.length : Nat) : Int) == 1), .int .i64 (lvoAns m n).2]) ∧ Below w.heap.size w w' := by
  have hS := hid ((St.start w).newMB m 29)
  have hcode := hid (fun W => l05Code_any W m hk n)
  by_cases h0 : levelI m n = 0
  · obtain ⟨d, s, n, gd, rfl, hn5, hnl, hpw⟩ := levelI_good h0
    rw [h0] at hcode
    have htb := hid (fun W => l05Tables_any W m d s gd hk n (by omega) (by omega))
    have hor := hid (fun W b v (hM : Mat W b v (tabA m d n s ++ tabA (inv m d s) d n s)) => l05Orbits_any W m d s gd b v _ hM (by rw [List.length_append, tabA_length, tabA_length]; omega) (pw d n) hpw (lvT m d s n) (fun p hp => lvT_M p hp) (fun j fr hj hf => lvT_lt gd j fr hj hf))
    rw [lvoAns_0 gd h0]
    have hoe := hid (show (orbS (fun k => orbT (treeT (lvT m d s n) s (pw d n) k).far (pw d n)) (pw d n) (pw d n)).2 = orbL m d s n from rfl)
    rw [hoe.out] at hor
    replace hk := hid hk; replace gd := hid gd
    clear h0 hoe
    generalize orbL m d s n = R at *
    generalize tabA m d n s ++ tabA (inv m d s) d n s = TM at *
    generalize hM : pw d n = M at *
    replace hM := hid hM
    go_enter Try.func26, Try.ntmps26
    go_upto_region 4 with (first
      | ((with_reducible refine gate (N := 7) rfl ?_); refine load_mach rfl _ rfl w.heap.size rfl m hS.out.m0 ?_)
      | (go_at_call 54; (with_reducible refine (hcode.out _).mono ?_); rintro e w1 ⟨rfl, hb⟩; replace hS := hid (hS.out.call hb); clear hb hcode))
    replace hS := hid hS.out.drew
    refine wp_region_heldL (L := [(4, (fun w' : World => MB w' 29 w.heap.size m))]) (by kernel_rfl) (HeldL.cons (fun _ => hS.out.m0) HeldL.nil) (fun hHeld => ?_)
    generalize w1.drew = wa at *
    refine wpAnyL_takeP (i := 0) 4 [] (v := (.agg (mcells m))) (fun w' : World => MB w' 29 w.heap.size m) rfl (by kernel_rfl) (by kernel_rfl) (by kernel_rfl) (by rfl) (by kernel_rfl) (by simp) (fun _ _ _ h => h) (Or.inl ⟨by rfl, ?_⟩) (by assumption) ?_
    · (intro W hW; exact exec_load _ rfl rfl (load_run hW))
    intro hHeld'
    clear hHeld; have hHeld := hHeld'; clear hHeld'
    try simp only [Act.put, List.getElem_toArray, List.getElem_cons_succ, List.getElem_cons_zero, List.setIfInBounds_toArray, List.set_cons_zero, List.set_cons_succ]
    refine wpAnyL_takeP (i := 1) 4 [3] (v := (.agg (mcells m))) (fun w' : World => MB w' 29 w.heap.size m) rfl (by kernel_rfl) (by kernel_rfl) (by kernel_rfl) (by rfl) (by kernel_rfl) (by simp) (fun _ _ _ h => h) (Or.inl ⟨by rfl, ?_⟩) (by assumption) ?_
    · (intro W hW; exact exec_load _ rfl rfl (load_run hW))
    intro hHeld'
    clear hHeld; have hHeld := hHeld'; clear hHeld'
    try simp only [Act.put, List.getElem_toArray, List.getElem_cons_succ, List.getElem_cons_zero, List.setIfInBounds_toArray, List.set_cons_zero, List.set_cons_succ]
    refine wpAnyL_take0 (i := 2) (v := ?_) rfl (by kernel_rfl) (by kernel_rfl) (by kernel_rfl) (by rfl) (fun _ _ _ h => h) (Or.inl ⟨by rfl, ?_⟩) (by assumption) ?_
    rotate_left
    · (intro W _; go_simp; (with_reducible rfl))
    intro hHeld'
    clear hHeld; have hHeld := hHeld'; clear hHeld'
    try simp only [Act.put, List.getElem_toArray, List.getElem_cons_succ, List.getElem_cons_zero, List.setIfInBounds_toArray, List.set_cons_zero, List.set_cons_succ]
    refine wpAnyL_ready (rs := [3]) (by kernel_rfl) (by simp) ?_
    refine AllReadyL.cons rfl (fun K hK => ?_) AllReadyL.nil
    go_simp
    (with_reducible refine (htb.out _).mono ?_)
    rintro e w3 ⟨v, rfl, hTM, hb⟩
    replace hS := hid (hS.out.call hb)
    clear hb
    go_simp
    refine hK.out _ _ (HeldL.cons (fun _ => hS.out.m0) HeldL.nil) (fun hHeld' => ?_)
    clear hK K hHeld; have hHeld := hHeld'; clear hHeld'
    try simp only [Act.put, List.getElem_toArray, List.getElem_cons_succ, List.getElem_cons_zero, List.setIfInBounds_toArray, List.set_cons_zero, List.set_cons_succ]
    refine wpAnyL_ready (rs := [4]) (by kernel_rfl) (by simp) ?_
    refine AllReadyL.cons rfl (fun K hK => ?_) AllReadyL.nil
    go_simp
    (with_reducible refine (hor.out _ _ _ hTM).mono ?_)
    rintro e w4 ⟨v4, rfl, hMt, hb⟩
    have hMt2 := hid (hMt.mono hS.out.le)
    replace hS := hid (hS.out.call hb)
    clear hb hTM hor
    obtain ⟨A, cp, rfl⟩ := hMt.form
    go_simp
    refine hK.out _ _ (HeldL.cons (fun h => absurd h (by decide +kernel)) HeldL.nil) (fun hHeld' => ?_)
    clear hK K hHeld; have hHeld := hHeld'; clear hHeld'
    try simp only [Act.put, List.getElem_toArray, List.getElem_cons_succ, List.getElem_cons_zero, List.setIfInBounds_toArray, List.set_cons_zero, List.set_cons_succ]
    refine wpAnyL_take0 (i := 5) (v := ?_) rfl (by kernel_rfl) (by kernel_rfl) (by kernel_rfl) (by rfl) (fun _ _ _ h => h) (Or.inl ⟨by rfl, ?_⟩) (by assumption) ?_
    rotate_left
    · (intro W _; go_simp; (with_reducible rfl))
    intro hHeld'
    clear hHeld; have hHeld := hHeld'; clear hHeld'
    try simp only [Act.put, List.getElem_toArray, List.getElem_cons_succ, List.getElem_cons_zero, List.setIfInBounds_toArray, List.set_cons_zero, List.set_cons_succ]
    refine wpAnyL_take0 (i := 6) (v := ?_) rfl (by kernel_rfl) (by kernel_rfl) (by kernel_rfl) (by rfl) (fun _ _ _ h => h) (Or.inl ⟨by rfl, ?_⟩) (by assumption) ?_
    rotate_left
    · (intro W _; go_simp; (with_reducible rfl))
    intro hHeld'
    clear hHeld; have hHeld := hHeld'; clear hHeld'
    try simp only [Act.put, List.getElem_toArray, List.getElem_cons_succ, List.getElem_cons_zero, List.setIfInBounds_toArray, List.set_cons_zero, List.set_cons_succ]
    refine wpAnyL_take0 (i := 7) (v := ?_) rfl (by kernel_rfl) (by kernel_rfl) (by kernel_rfl) (by rfl) (fun _ _ _ h => h) (Or.inl ⟨by rfl, ?_⟩) (by assumption) ?_
    rotate_left
    · (intro W _; go_simp; (with_reducible rfl))
    intro hHeld'
    clear hHeld; have hHeld := hHeld'; clear hHeld'
    try simp only [Act.put, List.getElem_toArray, List.getElem_cons_succ, List.getElem_cons_zero, List.setIfInBounds_toArray, List.set_cons_zero, List.set_cons_succ]
    refine wpAnyL_take0 (i := 8) (v := ?_) rfl (by kernel_rfl) (by kernel_rfl) (by kernel_rfl) (by rfl) (fun _ _ _ h => h) (Or.inl ⟨by rfl, ?_⟩) (by assumption) ?_
    rotate_left
    · (intro W _; go_simp; (with_reducible rfl))
    intro hHeld'
    clear hHeld; have hHeld := hHeld'; clear hHeld'
    try simp only [Act.put, List.getElem_toArray, List.getElem_cons_succ, List.getElem_cons_zero, List.setIfInBounds_toArray, List.set_cons_zero, List.set_cons_succ]
    refine wpAnyL_done (by kernel_rfl) ?_ _
    go_wp2
    go_ret2
    exact ⟨rfl, hS.out.bel⟩
  · rw [lvoAns_c h0]
    have dn : ((levelI m n) != 0) = true := by simpa using h0
    generalize levelI m n = cd at *
    replace hk := hid hk
    clear h0
    go_enter Try.func26, Try.ntmps26
    go_wp2_with (first
      | ((with_reducible refine gate (N := 7) rfl ?_); refine load_mach rfl _ rfl w.heap.size rfl m hS.out.m0 ?_)
      | (go_at_call 54; (with_reducible refine (hcode.out _).mono ?_); rintro e w1 ⟨rfl, hb⟩; replace hS := hid (hS.out.call hb); clear hb hcode))
    go_ret2
    exact ⟨rfl, hS.out.bel⟩
end Go.Proofs.Ytgpjcekpmhfljaa

/- LevelOrbits: the law. -/
namespace Go.Proofs.Ytgpjcekpmhfljaa
open Go.RowKit
set_option linter.unusedVariables false
set_option linter.unusedSimpArgs false

set_option maxHeartbeats 8000000 in
set_option maxRecDepth 100000 in
theorem levelOrbits_law (w : World) (m : Mach) (hkm : m.Ok) (x1 : Int) :
    Calls Try.prog 8 #[.agg (mcells m), .int .i64 x1] w fun e w' => e = .returned (.bool true) ∧ Below w.heap.size w w' := by
  have hS := hid ((St.start w).newMB m 25)
  have hs := hid (fun W => specLvo_any W m hkm x1)
  have hp := hid (fun W => implLvo_any W m hkm x1)
  obtain ⟨hlen, hrl⟩ := lvoAns_len m x1
  have hcc : ((lvoAns m x1).2 != (lvoAns m x1).2) = false := by simp
  generalize (lvoAns m x1).1 = R at *
  generalize (lvoAns m x1).2 = cd at *
  have heq := hid (fun W b1 b2 v1 v2 (hO1 : Mat W b1 v1 R) (hO2 : Mat W b2 v2 R) => eqSS_any W b1 b2 v1 v2 R hO1 hO2 (by omega) (fun r hr => by have := hrl r hr; omega))
  have hns : ∀ i, (ints (R.getD i [])).length = (R.getD i []).length := fun i => ints_length _
  have hnb : ∀ i, (R.getD i []).length ≤ 1000 := fun i => by
    by_cases h : i < R.length
    · rw [List.getD_eq_getElem?_getD, List.getElem?_eq_getElem h]
      have := hrl _ (List.getElem_mem h); exact Nat.le_trans this (by omega)
    · rw [List.getD_eq_getElem?_getD, List.getElem?_eq_none (by omega)]; exact Nat.zero_le _
  have hmk := hid (fun L W vq rows (hN : rows.length = R.length) (hd : Dj rows) (hS : St w.heap.size w (Asn.rws w.heap.size vq rows (fun i => ints (R.getD i [])) :: L) W) => (show Calls Try.prog 14 #[vq, .int .i64 1] W fun e w' => e = .returned (.int .i64 ((mkk (fun i => (R.getD i []).length) 1 R.length : Nat) : Int)) ∧ St w.heap.size w (Asn.rws w.heap.size vq rows (mkC (fun i => (R.getD i []).length) 1 (fun i => ints (R.getD i [])) R.length) :: L) w' from markSS_any w.heap.size w L W vq rows _ (fun i => (R.getD i []).length) 1 R.length hN hd hns hnb (by omega) (by omega) hS))
  have hhe := hid (fun W vq rows (hN : rows.length = R.length) (hS : (Asn.rws w.heap.size vq rows (mkC (fun i => (R.getD i []).length) 1 (fun i => ints (R.getD i [])) R.length)).holds W) => (show Calls Try.prog 15 #[vq, .int .i64 1] W fun e w' => e = .returned (.int .i64 ((mkk (fun i => (R.getD i []).length) 1 R.length : Nat) : Int)) ∧ W = w' from heldSS_any w.heap.size W vq rows _ (fun i => (R.getD i []).length) 1 R.length hN hnb (by omega) (by omega) hS))
  have hpu := hid (fun L W W' vq (hS : St w.heap.size w L W) (hb : Below W.heap.size W W') (hM : MatD W' W.heap.size vq R) => (show ∃ rows : List Value, rows.length = R.length ∧ Dj rows ∧ Mat W' W.heap.size vq R ∧ St w.heap.size w (Asn.rws w.heap.size vq rows (fun i => ints (R.getD i [])) :: L) W' from by
    obtain ⟨rows, hh, hd⟩ := hM
    have hr := rws_of_mat hh
    exact ⟨rows, hh.2.1, hd, Asn.toMat hh, hS.callPush (a := Asn.rws w.heap.size vq rows _) hb ⟨hr.1.mono hS.le, fun i r h => (hr.2 i r h).mono hS.le⟩ fun k hk => by
      rcases hk with hk | ⟨i, r, hi, hk⟩
      · exact (hr.1.lt k hk).1
      · exact ((hr.2 i r hi).lt k hk).1⟩))
  have z2 : decide (((mkk (fun i => (R.getD i []).length) 1 R.length : Nat) : Int) < 0) = false := decide_eq_false (by omega)
  have z3 : (((mkk (fun i => (R.getD i []).length) 1 R.length : Nat) : Int) != ((mkk (fun i => (R.getD i []).length) 1 R.length : Nat) : Int)) = false := by simp
  replace hkm := hid hkm
  replace hlen := hid hlen; replace hrl := hid hrl; replace hns := hid hns; replace hnb := hid hnb
  generalize mkk (fun i => (R.getD i []).length) 1 R.length = K at *
  go_enter Try.func8, Try.ntmps8
  go_wp2_with (first
    | ((with_reducible refine gate (N := 14) rfl ?_); refine load_lmach rfl _ rfl w.heap.size rfl m hS.out.m0 ?_)
    | ((with_reducible refine gate (N := 21) rfl ?_); refine load_lmach rfl _ rfl w.heap.size rfl m hS.out.m1 ?_)
    | ((with_reducible refine gate (N := 48) rfl ?_); refine load_lmach rfl _ rfl w.heap.size rfl m hS.out.m2 ?_)
    | (go_at_call 11; (with_reducible refine (toMachine_any m hkm.out _).mono ?_); rintro e w1 ⟨rfl, hb⟩; replace hS := hid (hS.out.call hb); clear hb)
    | (go_at_call 28; (with_reducible refine (hs.out _).mono ?_); rintro e w3 ⟨v7, rfl, hM, hb⟩; obtain ⟨rows7, hS7⟩ := hS.out.callMat hb hM; replace hS := hid hS7; clear hS7 hb hM)
    | (go_at_call 29; (with_reducible refine (hp.out _).mono ?_); rintro e w4 ⟨v8, rfl, hM, hb⟩; obtain ⟨rows8, hN8, hd8, hM8, hS8⟩ := hpu.out _ _ _ _ hS.out hb hM; replace hS := hid hS8; replace hN8 := hid hN8; replace hd8 := hid hd8; replace hM8 := hid hM8; clear hS8 hb hM)
    | (go_at_call 13; (first
        | (with_reducible refine (heq.out _ _ _ _ _ hM8.out (Asn.toMat hS.out.g1)).mono ?_)
        | (with_reducible refine (heq.out _ _ _ _ _ hM8.out (Asn.toMat hS.out.g2)).mono ?_)); rintro e w5 ⟨rfl, hb⟩; replace hS := hid (hS.out.call hb); clear hb hM8)
    | (go_at_call 14; (with_reducible refine (hmk.out _ _ _ _ hN8.out hd8.out hS.out).mono ?_); rintro e w5 ⟨rfl, hS'⟩; (have hN9 := hid hN8.out); replace hS := hid hS'; clear hS' hd8)
    | (go_at_call 15; (first
        | (with_reducible refine (hhe.out _ _ _ hN9.out hS.out.g0).mono ?_)
        | (with_reducible refine (hhe.out _ _ _ hN9.out hS.out.g1).mono ?_)); rintro e w5 ⟨rfl, rfl⟩))
  go_ret
  exact ⟨rfl, hS.out.bel⟩
end Go.Proofs.Ytgpjcekpmhfljaa
