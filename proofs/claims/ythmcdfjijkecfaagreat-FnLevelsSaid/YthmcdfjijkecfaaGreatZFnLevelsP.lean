/- What the proof of FnLevels leans on, part 16 of 19. -/
import Derived.Test.YthmcdfjijkecfaaGreatZFnLevelsO
import Derived.Carry
import Derived.ProofKit
import Derived.OpenShut
import Derived.Laws.BitsAllLaws
import Derived.BigQuiet
/- Orbits of a level: the reference. -/
namespace Go.Proofs.YthmcdfjijkecfaaGreat
open Go.RowKit
set_option linter.unusedVariables false
set_option linter.unusedSimpArgs false
-- @LONG

theorem orbT_take {far : List Int} {j : Nat} : orbT far (j + 1) = if 0 ≤ far.getD j 0 then orbT far j ++ [j] else orbT far j := by
  unfold orbT
  rw [List.range_succ, List.filter_append]
  split
  · rename_i h; simp only [List.filter_cons, List.filter_nil, decide_eq_true h, if_true]
  · rename_i h; simp only [List.filter_cons, List.filter_nil, decide_eq_false h]; simp
theorem natI_snoc (l : List Nat) (x : Nat) : natI (l ++ [x]) = natI l ++ [(x : Int)] := by simp [natI]
set_option maxHeartbeats 8000000 in
set_option maxRecDepth 100000 in
theorem l05Orbits_any (w : World) (m : Mach) (l s : Nat) (gd : Good m l s) (b0 : Nat) (v : Value) (M : List (List Int)) (hM : Mat w b0 v M) (hMl : M.length = 2 * s) (n : Nat) (hn : n ≤ 243) (T : Nat → Nat → Nat)
    (hTM : ∀ p, p < 2 * s → ∃ row, M[p]? = some row ∧ row.length = n ∧ ∀ i, i < n → row[i]? = some ((T p i : Nat) : Int)) (hT : ∀ j fr, j < 2 * s → fr < n → T j fr < n) :
    Calls Tryz.prog 121 #[.agg (mcells m), v] w fun e w' => ∃ v', e = .returned v' ∧ Mat w' w.heap.size v' (orbS (fun k => orbT (treeT T s n k).far n) n n).2 ∧ Below w.heap.size w w' := by
  have s1 := gd.s1
  have hgr := hid (fun k (hk : k < n) W (hW : Below w.heap.size w W) => grow_any W m l s gd b0 v M (hM.below hW) hMl n k hn hk T hTM hT)
  obtain ⟨row0, hr0, hr0l, _⟩ := hTM 0 (by omega)
  obtain ⟨gM, cM, rfl, _, _⟩ := hM.blk (fun e => by rw [e] at hMl; simp at hMl; omega)
  rw [hMl] at hM hgr ⊢
  obtain ⟨r0, hrc, hrO⟩ := hM.row 0 row0 hr0
  obtain ⟨A0, cp0, rfl, _, _⟩ := hrO.form
  rw [ints_length, hr0l] at hrc
  have hok := hid (fun k (hk : k < n) => (show TrOk n (treeT T s n k) from growT_ok hk hT _))
  have hfl0 := hid (fun k (hk : k < n) => (hok.out k hk).fl)
  have hmk := fun W : World => run_make_row' (P := Tryz.prog) 53 4 (.bool false) 1 Tryz.underlying53 info_bool rfl .i64 .i64 n (by omega) (by omega) W
  have hmc := hid (toList_madeCells_one (.bool false) n)
  generalize madeCells #[.bool false] n = mc at *
  have hmcs := hid (show mc.size = n by rw [← Array.length_toList, hmc.out, List.length_replicate])
  have hS := (((St.start w).newMB m 27).newMat #[] 0 rfl (by omega)).newArr mc n hmcs.out 4 (by omega)
  have hcr := ((Below.refl w.heap.size w).alloc (Nat.le_refl _) (.cells (mcells m) 27)).cell (p := ⟨gM, 0, none⟩) (hM.lt gM rfl).2
  rw [hrc] at hcr
  rw [hmc.out] at hS
  simp only [heap_alloc_size] at hS
  obtain ⟨f, hfd⟩ : ∃ f : Nat → List Nat, f = fun k => orbT (treeT T s n k).far n := ⟨_, rfl⟩
  have hfe := hid (fun k => (show orbT (treeT T s n k).far n = f k by rw [hfd]))
  simp only [hfe.out] at ⊢
  rw [show (fun k => f k) = f from rfl]
  clear hfd
  have hrep : List.replicate n (Value.bool false) = bls (orbS f n 0).1 := by simp [bls, orbS]
  rw [hrep] at hS
  have hS0 := hid (show Asn.mat w.heap.size (.slice (some ⟨w.heap.size + 1, 0, none⟩) 0 0) (List.replicate 0 (.slice none 0 0)) (List.replicate 0 []) = Asn.mat w.heap.size (.slice (some ⟨w.heap.size + 1, 0, none⟩) 0 0) [] (orbS f n 0).2 from rfl)
  rw [hS0.out] at hS
  replace hS := hid hS
  have hsl := hid (orbS_len f n)
  have hso := hid (orbS_out f n)
  have hmet := hid (fun k (h : (orbS f n k).1[k]? = some true) => orbS_met h)
  have hnew := hid (fun k (h : (orbS f n k).1[k]? = some false) => orbS_new h)
  replace gd := hid gd
  clear hrep hmc hM hTM hT hS0 hr0 hrO hrc
  go_enter Tryz.func121, Tryz.ntmps121
  go_wp2
  go_loopw [6, 8] (fun o i wr => ∃ (k : Nat) (vo : Value) (rows : List Value), k ≤ n ∧ i = .int .i64 k ∧ vo = o ∧ St w.heap.size w [Asn.mat w.heap.size vo rows (orbS f n k).2, Asn.own w.heap.size 4 (.slice (some ⟨w.heap.size + 1 + 1, 0, none⟩) n n) (bls (orbS f n k).1), Asn.mb 27 w.heap.size m] wr) (fun _ i _ => n - (intOf i).toNat)
  case atStart => exact ⟨0, _, _, Nat.zero_le _, rfl, rfl, hS.out.f1⟩
  case round =>
    obtain ⟨k, vo, rows, hk, rfl, rfl, rS⟩ := hrel
    clear hS hcr
    have hob := hid rS.bel
    have hbsz := hid (show w.heap.size ≤ wr.heap.size from rS.le)
    replace rS := hid rS
    by_cases hlk : k < n
    · have dk : decide ((k : Int) < (n : Int)) = true := decide_eq_true (by omega)
      have k0 : (0 : Int) ≤ (k : Int) := Int.natCast_nonneg _
      have k1 : (k : Int) < (n : Int) := by omega
      by_cases hm : (orbS f n k).1[k]? = some true
      · have ck := rS.out.o1.cellAt k _ (bls_get hm)
        have hs2 := hid (hmet.out k hm)
        clear hm
        go_wp2
        go_roundw
        case rel => exact ⟨k + 1, _, _, by omega, by go_num, rfl, by rw [hs2.out]; exact rS.out⟩
        case measure => simp [intOf]; omega
      · have hm2 := get_bool (by rw [hsl.out]; omega) hm
        have ck := rS.out.o1.cellAt k _ (bls_get hm2)
        have hs2 := hid (hnew.out k hm2)
        have hgk := hid (hgr.out k hlk wr hob.out)
        have hok2 := hso.out k
        have hfk := hid (hfe.out k)
        have hffl := hid (hfl0.out k hlk)
        clear hm hm2
        generalize treeT T s n k = t at *
        generalize hst : (orbS f n k).1 = sn at *
        generalize hos : (orbS f n k).2 = os at *
        have hsl2 := hid (show sn.length = n from by rw [← hst]; exact hsl.out k)
        replace hst := hid hst; replace hos := hid hos
        go_upto_region 8 with (first
          | ((with_reducible refine gate (N := 28) rfl ?_); refine load_mach rfl _ rfl w.heap.size rfl m rS.out.m2 ?_)
          | (go_at_call 113; (with_reducible refine (hgk.out).mono ?_); rintro e w4 ⟨g1, c1, g2, g3, g4, X, rfl, hlk, hT⟩; (have rS2 := ((rS.out.callOwn hT.bel hT.o3).newOwn [] 2 (by simp)).newBlk #[.slice (some ⟨g1, 0, none⟩) t.q.length c1, .slice (some ⟨g2, 0, none⟩) n n, .slice (some ⟨g3, 0, none⟩) n n, .slice (some ⟨g4, 0, none⟩) n n] 134); simp only [heap_alloc_size] at rS2; (have hsz4 := hid (show w.heap.size ≤ w4.heap.size + 1 from by have := (rS.out.callOwn hT.bel hT.o3).le; omega)); replace rS := hid rS2; clear hT hlk hgk rS2))
        replace rS := hid (show St w.heap.size w [Asn.own w.heap.size 2 (.slice (some ⟨w4.heap.size, 0, none⟩) 0 0) (ints (natI (orbT t.far 0))), Asn.own w.heap.size 4 (.slice (some ⟨w.heap.size + 1 + 1, 0, none⟩) n n) (bls (mkAll sn (orbT t.far 0))), Asn.blk (w4.heap.size + 1) #[.slice (some ⟨g1, 0, none⟩) t.q.length c1, .slice (some ⟨g2, 0, none⟩) n n, .slice (some ⟨g3, 0, none⟩) n n, .slice (some ⟨g4, 0, none⟩) n n] 134, Asn.own w.heap.size 2 (.slice (some ⟨g4, 0, none⟩) n n) (ints t.far), Asn.mat w.heap.size vo rows os, Asn.mb 27 w.heap.size m] _ from (rS.out.f4).f2)
        generalize (w4.alloc (Obj.cells #[] 2)).alloc _ = w5 at *
        generalize w4.heap.size = b4 at *
        generalize t.q.length = ql at *
        generalize t.far = fr at *
        go_wp2
        go_loopw [10, 11] (fun o i wi => ∃ (j : Nat) (vp : Value), j ≤ n ∧ i = .int .i64 j ∧ vp = o ∧ St w.heap.size w [Asn.own w.heap.size 2 vp (ints (natI (orbT fr j))), Asn.own w.heap.size 4 (.slice (some ⟨w.heap.size + 1 + 1, 0, none⟩) n n) (bls (mkAll sn (orbT fr j))), Asn.blk (b4 + 1) #[.slice (some ⟨g1, 0, none⟩) ql c1, .slice (some ⟨g2, 0, none⟩) n n, .slice (some ⟨g3, 0, none⟩) n n, .slice (some ⟨g4, 0, none⟩) n n] 134, Asn.own w.heap.size 2 (.slice (some ⟨g4, 0, none⟩) n n) (ints fr), Asn.mat w.heap.size vo rows os, Asn.mb 27 w.heap.size m] wi) (fun _ i _ => n - (intOf i).toNat)
        case atStart => exact ⟨0, _, Nat.zero_le _, rfl, rfl, rS.out⟩
        case round =>
          obtain ⟨j, vp, hj, rfl, rfl, zS⟩ := hrel
          clear rS
          have q3 := (show _ = some (Value.slice (some ⟨g4, 0, none⟩) n n) from cell_of_row _ _ 3 _ _ _ zS.k2)
          replace zS := hid zS
          by_cases hlj : j < n
          · have dj : decide ((j : Int) < (n : Int)) = true := decide_eq_true (by omega)
            obtain ⟨y, hy⟩ : ∃ y, fr[j]? = some y := ⟨_, List.getElem?_eq_getElem (by rw [hffl.out]; exact hlj)⟩
            have cy := zS.out.o3.cellAt j (.int .i64 y) (by simp [ints, hy])
            have hgy : fr.getD j 0 = y := by rw [List.getD_eq_getElem?_getD, hy]; rfl
            have hot := hid (orbT_take (far := fr) (j := j))
            have j0 : (0 : Int) ≤ (j : Int) := Int.natCast_nonneg _
            have j1 : (j : Int) < (n : Int) := by omega
            have hbl := hid (show (bls (mkAll sn (orbT fr j))).length = n by rw [bls_length, mkAll_len]; exact hsl2.out)
            rw [hgy] at hot
            by_cases hp : 0 ≤ y
            · have hot2 := hot.out
              rw [if_pos hp] at hot2
              replace hot2 := hid hot2
              have dp : decide (0 ≤ y) = true := decide_eq_true hp
              have fs := Own.frozenAt zS.out.o1 hbl.out j
              obtain ⟨bb, hbb⟩ : ∃ b, (mkAll sn (orbT fr j))[j]? = some b := ⟨_, List.getElem?_eq_getElem (by rw [mkAll_len, hsl2.out]; exact hlj)⟩
              have cbb := zS.out.o1.cellAt j _ (bls_get hbb)
              have hset := hid (bls_set (mkAll sn (orbT fr j)) j true)
              have hol := hid (show (ints (natI (orbT fr j))).length = (orbT fr j).length by rw [ints_length, natI_length])
              have hol2 := orbT_len fr j
              clear hbb hy hot hgy
              go_upto_region 13 with (fail)
              replace zS := hid ((zS.out.f1).setOwn hbl.out j (.bool true) hlj)
              rw [hset.out, ← mkAll_snoc, ← hot2.out] at zS
              clear q3 cbb fs
              generalize wr.setCell _ _ = wx at *
              generalize hoj : orbT fr (j + 1) = oj1 at *
              replace hoj := hid hoj
              go_wp2_with (first
                | ((with_reducible refine gate (N := 50) rfl ?_); refine St.app 32 2 (.int .i64 0) 8 Tryz.underlying32 info_i64 rfl (by omega) rfl _ _ rfl _ _ rfl zS.out.f1 _ rfl rfl (orbT fr j).length hol.out (by omega) ?_; intro gn cn w6 zS'; replace zS := hid zS'; clear zS'))
              rw [← ints_snoc, ← natI_snoc, ← hot2.out] at zS
              go_roundw
              case rel => exact ⟨j + 1, _, by omega, by go_num, rfl, by rw [hoj.out]; exact zS.out⟩
              case measure => simp [intOf]; omega
            · have hot2 := hot.out
              rw [if_neg hp] at hot2
              replace hot2 := hid hot2
              have dp : decide (0 ≤ y) = false := decide_eq_false hp
              clear hy hot hgy
              go_wp2
              go_roundw
              case rel => exact ⟨j + 1, _, by omega, by go_num, rfl, by rw [hot2.out]; exact zS.out⟩
              case measure => simp [intOf]; omega
          · obtain rfl : n = j := by omega
            have dj : decide ((n : Int) < (n : Int)) = false := decide_eq_false (by omega)
            rw [hfk.out] at zS
            clear q3
            obtain ⟨Ap, cpp, rfl, _, _⟩ := zS.out.o0.form
            generalize (ints (natI (f k))).length = lk at *
            go_wp2_with (first
              | ((with_reducible refine gate (N := 54) rfl ?_); refine St.appM rfl _ _ rfl _ _ rows os (natI (f k)) rfl zS.out.f4 rfl _ rfl (by omega) ?_; intro gn cn w7 zS'; replace zS := hid zS'; clear zS'))
            go_roundw
            case rel => exact ⟨k + 1, _, _, by omega, by go_num, rfl, by rw [hs2.out]; exact zS.out.f2.drop.f2.drop⟩
            case measure => simp [intOf]; omega
    · obtain rfl : k = n := by omega
      have dk : decide ((k : Int) < (k : Int)) = false := decide_eq_false (by omega)
      go_wp2
      go_ret
      exact ⟨_, rfl, ⟨_, rS.out.g0⟩, rS.out.bel⟩
end Go.Proofs.YthmcdfjijkecfaaGreat

/- LevelOrbits and IsTransitiveLevel: what the program and the reference answer. -/
namespace Go.Proofs.YthmcdfjijkecfaaGreat
open Go.RowKit
set_option linter.unusedVariables false
set_option linter.unusedSimpArgs false
-- @LONG

/-- The orbits of a level. -/
def orbL (m : Mach) (d s n : Nat) : List (List Int) := (orbS (fun k => orbT (treeT (lvT m d s n) s (pw d n) k).far (pw d n)) (pw d n) (pw d n)).2
open Classical in
/-- What LevelOrbits answers. -/
noncomputable def lvoAns (m : Mach) (n : Int) : List (List Int) × Int := if levelI m n = 0 then (orbL m m.L.toNat m.S.toNat n.toNat, 0) else ([], levelI m n)
theorem lvoAns_c {m : Mach} {n : Int} (h : levelI m n ≠ 0) : lvoAns m n = ([], levelI m n) := by unfold lvoAns; rw [if_neg h]
theorem lvoAns_0 {m : Mach} {d s n : Nat} (g : Good m d s) (h : levelI m n = 0) : lvoAns m n = (orbL m d s n, 0) := by unfold lvoAns; rw [if_pos h, g.L, g.S]; rfl
theorem lvoAns_len (m : Mach) (n : Int) : (lvoAns m n).1.length ≤ 243 ∧ ∀ r ∈ (lvoAns m n).1, r.length ≤ 243 := by
  by_cases h : levelI m n = 0
  · obtain ⟨d, s, n', gd, rfl, hn5, hnl, hpw⟩ := levelI_good h
    rw [lvoAns_0 gd h]
    exact ⟨Nat.le_trans (orbS_out _ _ _) hpw, fun r hr => orbS_rows (fun k _ => Nat.le_trans (orbT_len _ _) hpw) _ (Nat.le_refl _) r hr⟩
  · rw [lvoAns_c h]; exact ⟨Nat.zero_le _, fun r hr => by cases hr⟩
set_option maxHeartbeats 4000000 in
set_option maxRecDepth 100000 in
theorem implLvo_any (w : World) (m : Mach) (hk : m.Ok) (n : Int) :
    Calls Tryz.prog 22 #[.agg (mcells m), .int .i64 n] w fun e w' => ∃ v', e = .returned (.tuple #[v', .int .i64 (lvoAns m n).2]) ∧ MatD w' w.heap.size v' (lvoAns m n).1 ∧ Below w.heap.size w w' := by
  have hS := hid ((St.start w).newMB m 27)
  have hcode := hid (fun W => levelCode_any W m hk n)
  by_cases h0 : levelI m n = 0
  · obtain ⟨d, s, n, gd, rfl, hn5, hnl, hpw⟩ := levelI_good h0
    rw [h0] at hcode
    have hgr := hid (fun W hW => graph_any w.heap.size W m hW d s gd n (by omega) (by omega))
    have hor := hid (fun W G vA vB (hG : GB W G (pw d n) vA vB (tabA m d n s) (tabA (inv m d s) d n s)) => orbits_any W G (pw d n) s vA vB _ _ hG (pw_few gd.l2 gd.l3 hnl) (tabA_length _ _ _ _) (tabA_length _ _ _ _) gd.s1 gd.s16 (lvT m d s n) (fun p hp => lvT_A p hp) (fun p hp => lvT_B p hp) (fun j fr hj hf => lvT_lt gd j fr hj hf) hpw)
    rw [lvoAns_0 gd h0]
    have hoe := hid (show (orbS (fun k => orbT (treeT (lvT m d s n) s (pw d n) k).far (pw d n)) (pw d n) (pw d n)).2 = orbL m d s n from rfl)
    rw [hoe.out] at hor
    replace hk := hid hk; replace gd := hid gd
    clear h0 hoe
    generalize orbL m d s n = R at *
    generalize hM : pw d n = M at *
    replace hM := hid hM
    go_enter Tryz.func22, Tryz.ntmps22
    go_wp2_with (first
      | ((with_reducible refine gate (N := 7) rfl ?_); refine load_mach rfl _ rfl w.heap.size rfl m hS.out.m0 ?_)
      | (go_at_call 108; (with_reducible refine (hcode.out _).mono ?_); rintro e w1 ⟨rfl, hb⟩; replace hS := hid (hS.out.call hb); clear hb hcode)
      | (go_at_call 109; (with_reducible refine (hgr.out _ hS.out.m0).mono ?_); rintro e w2 ⟨vA, vB, rfl, hG, hb⟩; replace hS := hid (hS.out.call hb); have hor2 := hid (hor.out _ _ _ _ hG); clear hb hgr hor hG)
      | (go_at_call 115; (with_reducible refine (hor2.out).mono ?_); rintro e w3 ⟨v3, rfl, hMt, hb⟩; have hMt2 := hid (hMt.mono hS.out.le); replace hS := hid (hS.out.call hb); clear hb hor2 hMt))
    go_ret2
    exact ⟨_, rfl, hMt2.out, hS.out.bel⟩
  · rw [lvoAns_c h0]
    have dn : ((levelI m n) != 0) = true := by simpa using h0
    generalize levelI m n = cd at *
    replace hk := hid hk
    clear h0
    go_enter Tryz.func22, Tryz.ntmps22
    go_wp2_with (first
      | ((with_reducible refine gate (N := 7) rfl ?_); refine load_mach rfl _ rfl w.heap.size rfl m hS.out.m0 ?_)
      | (go_at_call 108; (with_reducible refine (hcode.out _).mono ?_); rintro e w1 ⟨rfl, hb⟩; replace hS := hid (hS.out.call hb); clear hb hcode))
    go_ret2
    exact ⟨_, rfl, ⟨[], ⟨Own.nil _ _ _, rfl, fun i r l hr => by simp at hr⟩, List.Pairwise.nil⟩, hS.out.bel⟩
set_option maxHeartbeats 2000000 in
set_option maxRecDepth 100000 in
theorem implTra_any (w : World) (m : Mach) (hk : m.Ok) (n : Int) :
    Calls Tryz.prog 23 #[.agg (mcells m), .int .i64 n] w fun e w' => e = .returned (.tuple #[.bool ((((lvoAns m n).1.length : Nat) : Int) == 1), .int .i64 (lvoAns m n).2]) ∧ Below w.heap.size w w' := by
  have hS := hid ((St.start w).newMB m 27)
  have hlv := hid (fun W => implLvo_any W m hk n)
  generalize (lvoAns m n).1 = M at *
  generalize (lvoAns m n).2 = cd at *
  replace hk := hid hk
  go_enter Tryz.func23, Tryz.ntmps23
  go_wp2_with (first
    | ((with_reducible refine gate (N := 9) rfl ?_); refine load_mach rfl _ rfl w.heap.size rfl m hS.out.m0 ?_)
    | (go_at_call 22; (with_reducible refine (hlv.out _).mono ?_); rintro e w3 ⟨v3, rfl, hMt, hb⟩; obtain ⟨A, cp, rfl⟩ := hMt.mat.form; replace hS := hid (hS.out.call hb); clear hb hlv hMt))
  go_ret2
  exact ⟨rfl, hS.out.bel⟩
set_option maxHeartbeats 4000000 in
set_option maxRecDepth 100000 in
theorem specLvo_any (w : World) (m : Mach) (hk : m.Ok) (n : Int) :
    Calls Tryz.prog 33 #[.agg (mcells m), .int .i64 n] w fun e w' => ∃ v', e = .returned (.tuple #[v', .int .i64 (lvoAns m n).2]) ∧ Mat w' w.heap.size v' (lvoAns m n).1 ∧ Below w.heap.size w w' := by
  have hS := hid ((St.start w).newMB m 27)
  have hcode := hid (fun W => l05Code_any W m hk n)
  by_cases h0 : levelI m n = 0
  · obtain ⟨d, s, n, gd, rfl, hn5, hnl, hpw⟩ := levelI_good h0
    rw [h0] at hcode
    have htb := hid (fun W => l05Tables_any W m d s gd hk n (by omega) (by omega))
    have hor := hid (fun W b v (hM : Mat W b v (tabA m d n s ++ tabA (inv m d s) d n s)) => l05Orbits_any W m d s gd b v _ hM (by rw [List.length_append, tabA_length, tabA_length]; omega) (pw d n) hpw (lvT m d s n) (fun p hp => lvT_M p hp) (fun j fr hj hf => lvT_lt gd j fr hj hf))
    rw [lvoAns_0 gd h0]
    have hoe := hid (show (orbS (fun k => orbT (treeT (lvT m d s n) s (pw d n) k).far (pw d n)) (pw d n) (pw d n)).2 = orbL m d s n from rfl)
    rw [hoe.out] at hor
    replace hk := hid hk; replace gd := hid gd
    clear h0 hoe
    generalize orbL m d s n = R at *
    generalize tabA m d n s ++ tabA (inv m d s) d n s = TM at *
    generalize hM : pw d n = M at *
    replace hM := hid hM
    go_enter Tryz.func33, Tryz.ntmps33
    go_upto_region 4 with (first
      | ((with_reducible refine gate (N := 7) rfl ?_); refine load_mach rfl _ rfl w.heap.size rfl m hS.out.m0 ?_)
      | (go_at_call 119; (with_reducible refine (hcode.out _).mono ?_); rintro e w1 ⟨rfl, hb⟩; replace hS := hid (hS.out.call hb); clear hb hcode))
    replace hS := hid hS.out.drew
    refine wp_region_heldL (L := [(4, (fun w' : World => MB w' 27 w.heap.size m))]) (by kernel_rfl) (HeldL.cons (fun _ => hS.out.m0) HeldL.nil) (fun hHeld => ?_)
    generalize w1.drew = wa at *
    refine wpAnyL_takeP (i := 0) 4 [] (v := (.agg (mcells m))) (fun w' : World => MB w' 27 w.heap.size m) rfl (by kernel_rfl) (by kernel_rfl) (by kernel_rfl) (by rfl) (by kernel_rfl) (by simp) (fun _ _ _ h => h) (Or.inl ⟨by rfl, ?_⟩) (by assumption) ?_
    · (intro W hW; exact exec_load _ rfl rfl (load_run hW))
    intro hHeld'
    clear hHeld; have hHeld := hHeld'; clear hHeld'
    try simp only [Act.put, List.getElem_toArray, List.getElem_cons_succ, List.getElem_cons_zero, List.setIfInBounds_toArray, List.set_cons_zero, List.set_cons_succ]
    refine wpAnyL_takeP (i := 1) 4 [3] (v := (.agg (mcells m))) (fun w' : World => MB w' 27 w.heap.size m) rfl (by kernel_rfl) (by kernel_rfl) (by kernel_rfl) (by rfl) (by kernel_rfl) (by simp) (fun _ _ _ h => h) (Or.inl ⟨by rfl, ?_⟩) (by assumption) ?_
    · (intro W hW; exact exec_load _ rfl rfl (load_run hW))
    intro hHeld'
    clear hHeld; have hHeld := hHeld'; clear hHeld'
    try simp only [Act.put, List.getElem_toArray, List.getElem_cons_succ, List.getElem_cons_zero, List.setIfInBounds_toArray, List.set_cons_zero, List.set_cons_succ]
    refine wpAnyL_take0 (i := 2) (v := ?_) rfl (by kernel_rfl) (by kernel_rfl) (by kernel_rfl) (by rfl) (fun _ _ _ h => h) (Or.inl ⟨by rfl, ?_⟩) (by assumption) ?_
    rotate_left
    · (intro W _; go_simp; (with_reducible rfl))
    intro hHeld'
    clear hHeld; have hHeld := hHeld'; clear hHeld'
    try simp only [Act.put, List.getElem_toArray, List.getElem_cons_succ, List.getElem_cons_zero, List.setIfInBounds_toArray, List.set_cons_zero, List.set_cons_succ]
    refine wpAnyL_ready (rs := [3]) (by kernel_rfl) (by simp) ?_
    refine AllReadyL.cons rfl (fun K hK => ?_) AllReadyL.nil
    go_simp
    (with_reducible refine (htb.out _).mono ?_)
    rintro e w3 ⟨v, rfl, hTM, hb⟩
    replace hS := hid (hS.out.call hb)
    clear hb
    go_simp
    refine hK.out _ _ (HeldL.cons (fun _ => hS.out.m0) HeldL.nil) (fun hHeld' => ?_)
    clear hK K hHeld; have hHeld := hHeld'; clear hHeld'
    try simp only [Act.put, List.getElem_toArray, List.getElem_cons_succ, List.getElem_cons_zero, List.setIfInBounds_toArray, List.set_cons_zero, List.set_cons_succ]
    refine wpAnyL_ready (rs := [4]) (by kernel_rfl) (by simp) ?_
    refine AllReadyL.cons rfl (fun K hK => ?_) AllReadyL.nil
    go_simp
    (with_reducible refine (hor.out _ _ _ hTM).mono ?_)
    rintro e w4 ⟨v4, rfl, hMt, hb⟩
    have hMt2 := hid (hMt.mono hS.out.le)
    replace hS := hid (hS.out.call hb)
    clear hb hTM hor
    skip
    go_simp
    refine hK.out _ _ (HeldL.cons (fun h => absurd h (by decide +kernel)) HeldL.nil) (fun hHeld' => ?_)
    clear hK K hHeld; have hHeld := hHeld'; clear hHeld'
    try simp only [Act.put, List.getElem_toArray, List.getElem_cons_succ, List.getElem_cons_zero, List.setIfInBounds_toArray, List.set_cons_zero, List.set_cons_succ]
    refine wpAnyL_take0 (i := 5) (v := ?_) rfl (by kernel_rfl) (by kernel_rfl) (by kernel_rfl) (by rfl) (fun _ _ _ h => h) (Or.inl ⟨by rfl, ?_⟩) (by assumption) ?_
    rotate_left
    · (intro W _; go_simp; (with_reducible rfl))
    intro hHeld'
    clear hHeld; have hHeld := hHeld'; clear hHeld'
    try simp only [Act.put, List.getElem_toArray, List.getElem_cons_succ, List.getElem_cons_zero, List.setIfInBounds_toArray, List.set_cons_zero, List.set_cons_succ]
    refine wpAnyL_take0 (i := 6) (v := ?_) rfl (by kernel_rfl) (by kernel_rfl) (by kernel_rfl) (by rfl) (fun _ _ _ h => h) (Or.inl ⟨by rfl, ?_⟩) (by assumption) ?_
    rotate_left
    · (intro W _; go_simp; (with_reducible rfl))
    intro hHeld'
    clear hHeld; have hHeld := hHeld'; clear hHeld'
    try simp only [Act.put, List.getElem_toArray, List.getElem_cons_succ, List.getElem_cons_zero, List.setIfInBounds_toArray, List.set_cons_zero, List.set_cons_succ]
    skip
    skip
    refine wpAnyL_done (by kernel_rfl) ?_ _
    go_wp2
    go_ret2
    exact ⟨_, rfl, hMt2.out, hS.out.bel⟩
  · rw [lvoAns_c h0]
    have dn : ((levelI m n) != 0) = true := by simpa using h0
    generalize levelI m n = cd at *
    replace hk := hid hk
    clear h0
    go_enter Tryz.func33, Tryz.ntmps33
    go_wp2_with (first
      | ((with_reducible refine gate (N := 7) rfl ?_); refine load_mach rfl _ rfl w.heap.size rfl m hS.out.m0 ?_)
      | (go_at_call 119; (with_reducible refine (hcode.out _).mono ?_); rintro e w1 ⟨rfl, hb⟩; replace hS := hid (hS.out.call hb); clear hb hcode))
    go_ret2
    exact ⟨_, rfl, Mat.nil _ _, hS.out.bel⟩
end Go.Proofs.YthmcdfjijkecfaaGreat

/- The tree of a word: its distances are those of the shortest walks, its ways lead there. -/
namespace Go.Proofs.YthmcdfjijkecfaaGreat
set_option linter.unusedVariables false
set_option linter.unusedSimpArgs false

/-- A walk of so many steps from k. -/
def Wlk (T : Nat → Nat → Nat) (s k : Nat) : Nat → Nat → Prop
  | 0, x => x = k
  | d + 1, x => ∃ y j, Wlk T s k d y ∧ j < 2 * s ∧ T j y = x
def Tr.F (t : Tr) (x : Nat) : Int := t.far.getD x 0
def Tr.W (t : Tr) (x : Nat) : List Int := t.ways.getD x []
/-- The table of a step. -/
def tabT (s : Nat) (st : Int) : Nat := if 0 < st then (st - 1).toNat else s + (-st - 1).toNat
/-- Where steps lead. -/
def runT (T : Nat → Nat → Nat) (s : Nat) : List Int → Nat → Nat
  | [], k => k
  | st :: u, k => runT T s u (T (tabT s st) k)
theorem runT_append (T : Nat → Nat → Nat) (s : Nat) (v : List Int) : ∀ (u : List Int) (k : Nat), runT T s (u ++ v) k = runT T s v (runT T s u k)
  | [], _ => rfl
  | st :: u, k => runT_append T s v u _
theorem tabT_stpT (s j : Nat) : tabT s (stpT s j) = j := by
  unfold tabT stpT
  by_cases h : j < s
  · rw [if_pos h, if_pos (by omega)]; omega
  · rw [if_neg h, if_neg (by omega)]; omega
theorem TrOk.F_cases {n : Nat} {t : Tr} (h : TrOk n t) {x : Nat} (hx : x < n) : (t.F x = -1 ∧ x ∉ t.q) ∨ (x ∈ t.q ∧ 0 ≤ t.F x) := by
  have e1 : t.far[x]? = some (t.F x) := by
    unfold Tr.F; rw [List.getD_eq_getElem?_getD, List.getElem?_eq_getElem (by rw [h.fl]; exact hx)]; rfl
  rcases h.fb x _ e1 with h1 | h1
  · exact .inl h1
  · exact .inr ⟨h1.1, h1.2.1⟩
theorem meetT_old {n : Nat} {t : Tr} (h : TrOk n t) {fr tx : Nat} {st : Int} (htx : tx ∈ t.q) : meetT t fr tx st = t := by
  unfold meetT
  rcases h.F_cases (h.qb tx htx) with h1 | h1
  · exact absurd htx h1.2
  · have := h1.2
    rw [if_neg (by unfold Tr.F at this; omega)]
theorem meetT_new {n : Nat} {t : Tr} (h : TrOk n t) {fr tx : Nat} {st : Int} (hn : tx < n) (htx : tx ∉ t.q) :
    (meetT t fr tx st).q = t.q ++ [tx] ∧ (∀ x, (meetT t fr tx st).F x = if x = tx then t.F fr + 1 else t.F x) ∧ (∀ x, (meetT t fr tx st).W x = if x = tx then t.W fr ++ [st] else t.W x) := by
  unfold meetT
  rcases h.F_cases hn with h1 | h1
  · have := h1.1
    rw [if_pos (by unfold Tr.F at this; omega)]
    refine ⟨rfl, fun x => ?_, fun x => ?_⟩
    · unfold Tr.F
      by_cases e : x = tx
      · subst e; rw [if_pos rfl]; simp [List.getD_eq_getElem?_getD, List.getElem?_set, h.fl, hn]
      · rw [if_neg e]; simp [List.getD_eq_getElem?_getD, List.getElem?_set, Ne.symm e]
    · unfold Tr.W
      by_cases e : x = tx
      · subst e; rw [if_pos rfl]; simp [List.getD_eq_getElem?_getD, List.getElem?_set, h.wl, hn]
      · rw [if_neg e]; simp [List.getD_eq_getElem?_getD, List.getElem?_set, Ne.symm e]
  · exact absurd h1.1 htx

/-- A step by one of 2 s tables. -/
def StpOk (s : Nat) (st : Int) : Prop := ∃ j, j < 2 * s ∧ st = stpT s j
/-- What holds of a tree when i words of its queue are done, and j steps from the next one. -/
structure TrP (T : Nat → Nat → Nat) (s k : Nat) (t : Tr) (i j : Nat) : Prop where
  root : t.F k = 0 ∧ t.q[0]? = some k
  wk : ∀ x ∈ t.q, ∃ d : Nat, t.F x = d ∧ Wlk T s k d x
  srt : t.q.Pairwise fun x y => t.F x ≤ t.F y
  bnd : ∀ x, t.q[i]? = some x → ∀ y ∈ t.q, t.F y ≤ t.F x + 1
  nb : ∀ a x, t.q[a]? = some x → ∀ j', (a < i ∧ j' < 2 * s) ∨ (a = i ∧ j' < j) → T j' x ∈ t.q ∧ t.F (T j' x) ≤ t.F x + 1
  way : ∀ x ∈ t.q, t.F x = (t.W x).length ∧ runT T s (t.W x) k = x ∧ ∀ st ∈ t.W x, StpOk s st
section
variable {T : Nat → Nat → Nat} {s n k : Nat} {t : Tr}
theorem TrP.start (hk : k < n) : TrP T s k (tr0 n k) 0 0 := by
  have e0 : (tr0 n k).F k = 0 := by simp [tr0, Tr.F, List.getD_eq_getElem?_getD, List.getElem?_set, hk]
  have ew : (tr0 n k).W k = [] := by simp [tr0, Tr.W, List.getD_eq_getElem?_getD, hk]
  have em : ∀ x, x ∈ (tr0 n k).q → x = k := fun x hx => by simpa [tr0] using hx
  refine ⟨⟨e0, rfl⟩, fun x hx => ?_, by simp [tr0], fun x hx y hy => ?_, fun a x ha j' h => ?_, fun x hx => ?_⟩
  · rw [em x hx]; exact ⟨0, e0, rfl⟩
  · rw [em y hy, em x (List.mem_of_getElem? hx)]; omega
  · omega
  · rw [em x hx, e0, ew]; exact ⟨rfl, rfl, fun st hst => by cases hst⟩
theorem TrP.meet {i j fr : Nat} (h : TrP T s k t i j) (ok : TrOk n t) (hfr : t.q[i]? = some fr) (hj : j < 2 * s) (hT : T j fr < n) : TrP T s k (meetT t fr (T j fr) (stpT s j)) i (j + 1) := by
  have hfm := List.mem_of_getElem? hfr
  by_cases hm : T j fr ∈ t.q
  · rw [meetT_old ok hm]
    refine ⟨h.root, h.wk, h.srt, h.bnd, fun a x ha j' hj' => ?_, h.way⟩
    by_cases e : a = i ∧ j' = j
    · obtain ⟨rfl, rfl⟩ := e
      rw [hfr] at ha
      obtain rfl : fr = x := by injection ha
      exact ⟨hm, h.bnd fr hfr _ hm⟩
    · exact h.nb a x ha j' (by omega)
  · obtain ⟨eq, eF, eW⟩ := meetT_new (st := stpT s j) (fr := fr) ok hT hm
    generalize meetT t fr (T j fr) (stpT s j) = t' at *
    have eF' : ∀ x ∈ t.q, t'.F x = t.F x := fun x hx => by rw [eF, if_neg (fun e : x = T j fr => hm (e ▸ hx))]
    have eW' : ∀ x ∈ t.q, t'.W x = t.W x := fun x hx => by rw [eW, if_neg (fun e : x = T j fr => hm (e ▸ hx))]
    have eN : t'.F (T j fr) = t.F fr + 1 := by rw [eF, if_pos rfl]
    have eM : t'.W (T j fr) = t.W fr ++ [stpT s j] := by rw [eW, if_pos rfl]
    have hle := h.bnd fr hfr
    have hil : i < t.q.length := (List.getElem?_eq_some_iff.1 hfr).1
    refine ⟨⟨?_, ?_⟩, fun x hx => ?_, ?_, fun x hx y hy => ?_, fun a x ha j' hj' => ?_, fun x hx => ?_⟩
    · rw [eF' _ (List.mem_of_getElem? h.root.2)]; exact h.root.1
    · rw [eq, List.getElem?_append_left (by omega)]; exact h.root.2
    · rw [eq] at hx
      rcases List.mem_append.1 hx with hx | hx
      · rw [eF' x hx]; exact h.wk x hx
      · rw [List.mem_singleton.1 hx, eN]
        obtain ⟨d, hd, hw⟩ := h.wk fr hfm
        exact ⟨d + 1, by omega, fr, j, hw, hj, rfl⟩
    · rw [eq, List.pairwise_append]
      refine ⟨?_, List.pairwise_singleton _ _, fun a ha b hb => ?_⟩
      · exact (List.Pairwise.and_mem.1 h.srt).imp fun ⟨ha, hb, hab⟩ => by rw [eF' _ ha, eF' _ hb]; exact hab
      · rw [List.mem_singleton.1 hb, eN, eF' a ha]; exact hle a ha
    · rw [eq, List.getElem?_append_left hil, hfr] at hx
      obtain rfl : fr = x := by injection hx
      rw [eF' fr hfm]
      rw [eq] at hy
      rcases List.mem_append.1 hy with hy | hy
      · rw [eF' y hy]; exact hle y hy
      · rw [List.mem_singleton.1 hy, eN]; omega
    · have key : ∀ z, z ∈ t.q ∧ t.F z ≤ t.F x + 1 → x ∈ t.q → z ∈ t'.q ∧ t'.F z ≤ t'.F x + 1 := fun z hz hx => by
        rw [eF' z hz.1, eF' x hx, eq]; exact ⟨List.mem_append_left _ hz.1, hz.2⟩
      have hai : a < t.q.length := by omega
      rw [eq, List.getElem?_append_left hai] at ha
      have hxm := List.mem_of_getElem? ha
      by_cases e : a = i ∧ j' = j
      · obtain ⟨rfl, rfl⟩ := e
        rw [hfr] at ha
        obtain rfl : fr = x := by injection ha
        rw [eN, eF' fr hfm, eq]
        exact ⟨by simp, by omega⟩
      · exact key _ (h.nb a x ha j' (by omega)) hxm
    · rw [eq] at hx
      rcases List.mem_append.1 hx with hx | hx
      · rw [eF' x hx, eW' x hx]; exact h.way x hx
      · obtain ⟨h1, h2, h3⟩ := h.way fr hfm
        rw [List.mem_singleton.1 hx, eN, eM, runT_append, h2]
        refine ⟨by simp only [List.length_append, List.length_singleton]; omega, ?_, fun st hst => ?_⟩
        · show T (tabT s (stpT s j)) fr = T j fr
          rw [tabT_stpT]
        · rcases List.mem_append.1 hst with hst | hst
          · exact h3 st hst
          · exact ⟨j, hj, List.mem_singleton.1 hst⟩
theorem TrP.rnd {i fr : Nat} (h : TrP T s k t i 0) (ok : TrOk n t) (hfr : t.q[i]? = some fr) (hT : ∀ j, j < 2 * s → T j fr < n) :
    ∀ j, j ≤ 2 * s → TrP T s k (rndT T s t fr j) i j
  | 0, _ => h
  | j + 1, hj => (TrP.rnd h ok hfr hT j (by omega)).meet (rndT_ok ok (List.mem_of_getElem? hfr) hT j (by omega)).1 (rndT_get hfr j) (by omega) (hT j (by omega))
theorem TrP.next {i : Nat} (h : TrP T s k t i (2 * s)) : TrP T s k t (i + 1) 0 := by
  refine ⟨h.root, h.wk, h.srt, fun x hx y hy => ?_, fun a x ha j' hj' => h.nb a x ha j' (by omega), h.way⟩
  by_cases hi : i < t.q.length
  · have hfr : t.q[i]? = some t.q[i] := List.getElem?_eq_getElem hi
    have h1 := h.bnd _ hfr y hy
    obtain ⟨hi1, hx1⟩ := List.getElem?_eq_some_iff.1 hx
    have h2 := List.pairwise_iff_getElem.1 h.srt i (i + 1) hi hi1 (by omega)
    rw [hx1] at h2
    omega
  · rw [List.getElem?_eq_none (by omega)] at hx; cases hx
theorem growT_P (hk : k < n) (hT : ∀ j fr, j < 2 * s → fr < n → T j fr < n) : ∀ i, TrP T s k (growT T s n k i) i 0
  | 0 => TrP.start hk
  | i + 1 => by
    have ih := growT_P hk hT i
    have ok := growT_ok hk hT i
    cases h : (growT T s n k i).q[i]? with
    | some fr =>
      rw [growT_step h]
      exact (ih.rnd ok h (fun j hj => hT j fr hj (ok.qb fr (List.mem_of_getElem? h))) _ (Nat.le_refl _)).next
    | none =>
      rw [growT, h]
      dsimp only
      refine ⟨ih.root, ih.wk, ih.srt, fun x hx => ?_, fun a x ha j' hj' => ih.nb a x ha j' ?_, ih.way⟩
      · rw [List.getElem?_eq_none (by have := List.getElem?_eq_none_iff.1 h; omega)] at hx; cases hx
      · rcases Nat.lt_or_ge a i with h1 | h1
        · left; omega
        · rw [List.getElem?_eq_none (by have := List.getElem?_eq_none_iff.1 h; omega)] at ha; cases ha
/-- What the whole tree tells. -/
structure TrD (T : Nat → Nat → Nat) (s n k : Nat) (t : Tr) : Prop where
  ok : TrOk n t
  kq : k ∈ t.q
  k0 : t.F k = 0
  wk : ∀ x ∈ t.q, ∃ d : Nat, t.F x = d ∧ Wlk T s k d x
  nb : ∀ x ∈ t.q, ∀ j, j < 2 * s → T j x ∈ t.q ∧ t.F (T j x) ≤ t.F x + 1
  way : ∀ x ∈ t.q, t.F x = (t.W x).length ∧ runT T s (t.W x) k = x ∧ ∀ st ∈ t.W x, StpOk s st
theorem treeT_D (hk : k < n) (hT : ∀ j fr, j < 2 * s → fr < n → T j fr < n) : TrD T s n k (treeT T s n k) := by
  have ok : TrOk n (treeT T s n k) := growT_ok hk hT n
  have h : TrP T s k (treeT T s n k) n 0 := growT_P hk hT n
  refine ⟨ok, List.mem_of_getElem? h.root.2, h.root.1, h.wk, fun x hx j hj => ?_, h.way⟩
  obtain ⟨a, ha, rfl⟩ := List.getElem_of_mem hx
  exact h.nb a _ (List.getElem?_eq_getElem ha) j (.inl ⟨Nat.lt_of_lt_of_le ha ok.ql, hj⟩)
theorem TrD.min (h : TrD T s n k t) : ∀ d x, Wlk T s k d x → x ∈ t.q ∧ t.F x ≤ d
  | 0, x, hx => by
    have e : x = k := hx
    rw [e, h.k0]; exact ⟨h.kq, Int.le_refl _⟩
  | d + 1, x, hx => by
    obtain ⟨y, j, hy, hj, rfl⟩ := hx
    obtain ⟨h1, h2⟩ := h.min d y hy
    obtain ⟨h3, h4⟩ := h.nb y h1 j hj
    exact ⟨h3, by omega⟩
theorem Wlk.lt (hk : k < n) (hT : ∀ j fr, j < 2 * s → fr < n → T j fr < n) : ∀ d x, Wlk T s k d x → x < n
  | 0, x, h => by have e : x = k := h; omega
  | d + 1, x, h => by
    obtain ⟨y, j, hy, hj, rfl⟩ := h
    exact hT j y hj (Wlk.lt hk hT d y hy)
theorem Wlk.cons {j k' : Nat} (hj : j < 2 * s) (e : T j k' = k) : ∀ d x, Wlk T s k d x → Wlk T s k' (d + 1) x
  | 0, x, h => by have e' : x = k := h; exact ⟨k', j, rfl, hj, by rw [e, e']⟩
  | d + 1, x, h => by
    obtain ⟨y, i, hy, hi, rfl⟩ := h
    exact ⟨y, i, Wlk.cons hj e d y hy, hi, rfl⟩
/-- Tables forward, then those that lead back. -/
def Bak (T : Nat → Nat → Nat) (s n : Nat) : Prop := ∀ j i, j < s → i < n → T (s + j) (T j i) = i ∧ T j (T (s + j) i) = i
theorem Bak.one (h : Bak T s n) {j i : Nat} (hj : j < 2 * s) (hi : i < n) : ∃ j', j' < 2 * s ∧ T j' (T j i) = i := by
  by_cases e : j < s
  · exact ⟨s + j, by omega, (h j i e hi).1⟩
  · have := (h (j - s) i (by omega) hi).2
    rw [show s + (j - s) = j by omega] at this
    exact ⟨j - s, by omega, this⟩
theorem Wlk.rev (hb : Bak T s n) (hk : k < n) (hT : ∀ j fr, j < 2 * s → fr < n → T j fr < n) : ∀ d x, Wlk T s k d x → Wlk T s x d k
  | 0, x, h => by have e : x = k := h; exact e.symm
  | d + 1, x, h => by
    obtain ⟨y, j, hy, hj, rfl⟩ := h
    obtain ⟨j', hj', e⟩ := hb.one hj (Wlk.lt hk hT d y hy)
    exact Wlk.cons hj' e d k (Wlk.rev hb hk hT d y hy)
/-- Distances do not depend on the direction. -/
theorem far_sym {l : Nat} (hb : Bak T s n) (hk : k < n) (hl : l < n) (hT : ∀ j fr, j < 2 * s → fr < n → T j fr < n) :
    (treeT T s n k).F l = (treeT T s n l).F k ∧ (l ∈ (treeT T s n k).q ↔ k ∈ (treeT T s n l).q) := by
  have D := treeT_D hk hT
  have E := treeT_D hl hT
  have half : ∀ {a b : Nat} {t t' : Tr}, a < n → b < n → TrD T s n a t → TrD T s n b t' → b ∈ t.q → a ∈ t'.q ∧ t'.F a ≤ t.F b := fun ha hb' hD hE hm => by
    obtain ⟨d, hd, hw⟩ := hD.wk _ hm
    have := hE.min d _ (Wlk.rev hb ha hT d _ hw)
    rw [hd]; exact this
  by_cases hm : l ∈ (treeT T s n k).q
  · obtain ⟨h1, h2⟩ := half hk hl D E hm
    obtain ⟨h3, h4⟩ := half hl hk E D h1
    exact ⟨by omega, ⟨fun _ => h1, fun _ => hm⟩⟩
  · have hm' : k ∉ (treeT T s n l).q := fun h => hm (half hl hk E D h).1
    rcases D.ok.F_cases hl with h1 | h1
    · rcases E.ok.F_cases hk with h2 | h2
      · exact ⟨by rw [h1.1, h2.1], ⟨fun h => absurd h hm, fun h => absurd h hm'⟩⟩
      · exact absurd h2.1 hm'
    · exact absurd h1.1 hm
/-- Being joined. -/
theorem Wlk.trans {b : Nat} (d : Nat) (h : Wlk T s k d b) : ∀ e x, Wlk T s b e x → Wlk T s k (d + e) x
  | 0, x, h' => by have e : x = b := h'; rw [e]; exact h
  | e + 1, x, h' => by
    obtain ⟨y, j, hy, hj, rfl⟩ := h'
    exact ⟨y, j, Wlk.trans d h e y hy, hj, rfl⟩
theorem TrD.mem_iff (h : TrD T s n k t) (x : Nat) : x ∈ t.q ↔ ∃ d, Wlk T s k d x :=
  ⟨fun hx => (h.wk x hx).elim fun d hd => ⟨d, hd.2⟩, fun ⟨d, hd⟩ => (h.min d x hd).1⟩
end
end Go.Proofs.YthmcdfjijkecfaaGreat

/- Levels: orbits part them, distances are the same both ways, and levels with one orbit have a diameter. -/
namespace Go.Proofs.YthmcdfjijkecfaaGreat
set_option linter.unusedVariables false
set_option linter.unusedSimpArgs false

theorem lvT_bak {m : Mach} {l s n : Nat} (g : Good m l s) : Bak (lvT m l s n) s (pw l n) := fun j i hj hi => by
  unfold lvT both
  rw [if_neg (by omega), if_pos hj, show s + j - s = j by omega]
  exact ⟨pf_inv g j n i hj hi, inv_pf g j n i hj hi⟩
theorem mkAll_getD {n : Nat} (o : List Nat) (hb : ∀ x ∈ o, x < n) (s : List Bool) (hs : s.length = n) (x : Nat) : (mkAll s o).getD x false = (s.getD x false || decide (x ∈ o)) := by
  induction o generalizing s with
  | nil => simp [mkAll]
  | cons y o ih =>
    show (mkAll (s.set y true) o).getD x false = _
    rw [ih (fun z hz => hb z (by simp [hz])) _ (by rw [List.length_set]; exact hs)]
    have hy := hb y (by simp)
    by_cases e : x = y
    · subst e; simp [List.getD_eq_getElem?_getD, List.getElem?_set, hs, hy]
    · simp [List.getD_eq_getElem?_getD, List.getElem?_set, Ne.symm e, e]
section
variable {T : Nat → Nat → Nat} {s n : Nat}
theorem orbT_mem {t : Tr} (h : TrOk n t) (x : Nat) : x ∈ orbT t.far n ↔ x ∈ t.q := by
  unfold orbT
  rw [List.mem_filter, List.mem_range]
  constructor
  · rintro ⟨hx, hd⟩
    rcases h.F_cases hx with h1 | h1
    · have := of_decide_eq_true hd; have := h1.1; unfold Tr.F at this; omega
    · exact h1.1
  · intro hx
    have hb := h.qb x hx
    rcases h.F_cases hb with h1 | h1
    · exact absurd hx h1.2
    · exact ⟨hb, decide_eq_true h1.2⟩
/-- What holds of the orbits before k: each word below, once. -/
structure OrbP (f : Nat → List Nat) (n k : Nat) (S : List Bool × List (List Int)) : Prop where
  seen : ∀ x, x < n → (S.1.getD x false = true ↔ ∃ k', k' < k ∧ x ∈ f k')
  nd : S.2.flatten.Nodup
  mem : ∀ z, z ∈ S.2.flatten ↔ ∃ (x : Nat) (k' : Nat), z = (x : Int) ∧ k' < k ∧ x ∈ f k'
theorem natI_mem {l : List Nat} {z : Int} : z ∈ natI l ↔ ∃ x : Nat, z = (x : Int) ∧ x ∈ l := by
  unfold natI
  rw [List.mem_map]
  exact ⟨fun ⟨x, h1, h2⟩ => ⟨x, h2.symm, h1⟩, fun ⟨x, h1, h2⟩ => ⟨x, h2, h1.symm⟩⟩
theorem natI_nd {l : List Nat} (h : l.Nodup) : (natI l).Nodup := by
  unfold natI
  exact List.Pairwise.map _ (fun a b hab e => hab (Int.ofNat.inj e)) h
theorem orbS_P {f : Nat → List Nat} (hr : ∀ k, k < n → k ∈ f k) (hlt : ∀ k, k < n → ∀ x ∈ f k, x < n) (hn : ∀ k, k < n → (f k).Nodup) (htr : ∀ a b x, a < n → b < n → b ∈ f a → (x ∈ f b ↔ x ∈ f a)) :
    ∀ k, k ≤ n → OrbP f n k (orbS f n k)
  | 0, _ => ⟨fun x hx => by simp [orbS, List.getD_eq_getElem?_getD, List.getElem?_replicate, hx], by simp [orbS], fun z => by simp [orbS]⟩
  | k + 1, hk => by
    have ih := orbS_P hr hlt hn htr k (by omega)
    have hsl := orbS_len f n k
    by_cases h : (orbS f n k).1.getD k false = true
    · rw [orbS, if_pos h]
      obtain ⟨k', hk', hm⟩ := (ih.seen k (by omega)).1 h
      have key : ∀ x, (∃ j, j < k + 1 ∧ x ∈ f j) ↔ ∃ j, j < k ∧ x ∈ f j := fun x => by
        constructor
        · rintro ⟨j, hj, hx⟩
          by_cases e : j = k
          · subst e; exact ⟨k', hk', (htr k' j x (by omega) (by omega) hm).1 hx⟩
          · exact ⟨j, by omega, hx⟩
        · rintro ⟨j, hj, hx⟩; exact ⟨j, by omega, hx⟩
      refine ⟨fun x hx => (ih.seen x hx).trans (key x).symm, ih.nd, fun z => (ih.mem z).trans ?_⟩
      constructor
      · rintro ⟨x, j, e, hj, hx⟩; exact ⟨x, j, e, by omega, hx⟩
      · rintro ⟨x, j, e, hj, hx⟩
        obtain ⟨j', hj', hx'⟩ := (key x).1 ⟨j, hj, hx⟩
        exact ⟨x, j', e, hj', hx'⟩
    · rw [orbS, if_neg h]
      refine ⟨fun x hx => ?_, ?_, fun z => ?_⟩
      · show (mkAll (orbS f n k).1 (f k)).getD x false = true ↔ _
        rw [mkAll_getD (f k) (hlt k (by omega)) _ hsl]
        rw [Bool.or_eq_true, decide_eq_true_eq, ih.seen x hx]
        constructor
        · rintro (⟨j, hj, hx⟩ | hx)
          · exact ⟨j, by omega, hx⟩
          · exact ⟨k, by omega, hx⟩
        · rintro ⟨j, hj, hx⟩
          by_cases e : j = k
          · subst e; exact .inr hx
          · exact .inl ⟨j, by omega, hx⟩
      · show ((orbS f n k).2 ++ [natI (f k)]).flatten.Nodup
        rw [List.flatten_append]
        simp only [List.flatten_cons, List.flatten_nil, List.append_nil]
        refine List.nodup_append.2 ⟨ih.nd, natI_nd (hn k (by omega)), fun a ha b hb e => ?_⟩
        subst e
        obtain ⟨x, j, rfl, hj, hx⟩ := (ih.mem a).1 ha
        obtain ⟨y, e, hy⟩ := natI_mem.1 hb
        obtain rfl : x = y := by omega
        refine h ((ih.seen k (by omega)).2 ⟨j, hj, ?_⟩)
        have h1 := (htr k x k (by omega) (hlt k (by omega) x hy) hy).2 (hr k (by omega))
        exact (htr j x k (by omega) (hlt k (by omega) x hy) hx).1 h1
      · show z ∈ ((orbS f n k).2 ++ [natI (f k)]).flatten ↔ _
        rw [List.flatten_append, List.mem_append, ih.mem z]
        simp only [List.flatten_cons, List.flatten_nil, List.append_nil]
        rw [natI_mem]
        constructor
        · rintro (⟨x, j, e, hj, hx⟩ | ⟨x, e, hx⟩)
          · exact ⟨x, j, e, by omega, hx⟩
          · exact ⟨x, k, e, by omega, hx⟩
        · rintro ⟨x, j, e, hj, hx⟩
          by_cases e' : j = k
          · subst e'; exact .inr ⟨x, e, hx⟩
          · exact .inl ⟨x, j, e, by omega, hx⟩
end
/-- Numbers below n, each once. -/
structure Parts (M : List (List Int)) (n : Nat) : Prop where
  nd : M.flatten.Nodup
  lt : ∀ z ∈ M.flatten, ∃ x : Nat, z = (x : Int) ∧ x < n
  len : M.flatten.length = n
theorem flat_get {α : Type} : ∀ (M : List (List α)) (i j : Nat) (r : List α) (x : α), M[i]? = some r → r[j]? = some x → M.flatten[(M.take i).flatten.length + j]? = some x
  | [], i, j, r, x, h, _ => by simp at h
  | a :: M, 0, j, r, x, h, h2 => by
    simp only [List.getElem?_cons_zero] at h
    injection h with h
    subst h
    have hj := (List.getElem?_eq_some_iff.1 h2).1
    simp only [List.take_zero, List.flatten_nil, List.length_nil, Nat.zero_add, List.flatten_cons]
    rw [List.getElem?_append_left hj]; exact h2
  | a :: M, i + 1, j, r, x, h, h2 => by
    have ih := flat_get M i j r x (by simpa using h) h2
    simp only [List.take_succ_cons, List.flatten_cons, List.length_append]
    rw [Nat.add_assoc, List.getElem?_append_right (by omega), show a.length + ((M.take i).flatten.length + j) - a.length = (M.take i).flatten.length + j by omega]
    exact ih
theorem flat_next {α : Type} : ∀ (M : List (List α)) (i : Nat) (r : List α), M[i]? = some r → (M.take (i + 1)).flatten.length = (M.take i).flatten.length + r.length
  | [], i, r, h => by simp at h
  | a :: M, 0, r, h => by
    simp only [List.getElem?_cons_zero] at h
    injection h with h
    subst h; simp
  | a :: M, i + 1, r, h => by
    have ih := flat_next M i r (by simpa using h)
    simp only [List.take_succ_cons, List.flatten_cons, List.length_append] at ih ⊢
    rw [ih]; omega
theorem nd_len {n : Nat} {l : List Int} (h1 : l.Nodup) (h2 : ∀ z, z ∈ l ↔ ∃ x : Nat, z = (x : Int) ∧ x < n) : l.length = n := by
  have hp : l.Perm (natI (List.range n)) := (List.perm_ext_iff_of_nodup h1 (natI_nd List.nodup_range)).2 fun z => by
    rw [h2, natI_mem]
    simp only [List.mem_range]
  rw [hp.length_eq, natI_length, List.length_range]
/-- The numbers of all parts, one behind the other. -/
def fl (M : List (List Int)) : List Nat := M.flatten.map Int.toNat
theorem Parts.get {M : List (List Int)} {n p : Nat} {z : Int} (h : Parts M n) (hz : M.flatten[p]? = some z) :
    ∃ x : Nat, z = (x : Int) ∧ x < n ∧ (mkAll (List.replicate n false) ((fl M).take p))[x]? = some false ∧ mkAll (List.replicate n false) ((fl M).take (p + 1)) = (mkAll (List.replicate n false) ((fl M).take p)).set x true := by
  obtain ⟨x, rfl, hx⟩ := h.lt z (List.mem_of_getElem? hz)
  have ho : (fl M)[p]? = some x := by unfold fl; rw [List.getElem?_map, hz]; rfl
  have hb : ∀ y ∈ (fl M).take p, y < n := fun y hy => by
    have hy' := List.mem_of_mem_take hy
    unfold fl at hy'
    obtain ⟨z, hz, rfl⟩ := List.mem_map.1 hy'
    obtain ⟨x', rfl, hx'⟩ := h.lt z hz
    exact hx'
  have hnd : (fl M).Nodup := by
    unfold fl
    refine List.pairwise_map.2 ((List.Pairwise.and_mem.1 h.nd).imp fun {a b} hab e => ?_)
    obtain ⟨ha, hb, hne⟩ := hab
    obtain ⟨x1, rfl, _⟩ := h.lt a ha
    obtain ⟨x2, rfl, _⟩ := h.lt b hb
    simp at e; omega
  have hni : x ∉ (fl M).take p := fun hm => by
    obtain ⟨i, hi, e⟩ := List.getElem_of_mem hm
    rw [List.length_take] at hi
    obtain ⟨hp, e2⟩ := List.getElem?_eq_some_iff.1 ho
    rw [List.getElem_take] at e
    exact (List.pairwise_iff_getElem.1 hnd i p (by omega) hp (by omega)) (e.trans e2.symm)
  have hg := mkAll_getD ((fl M).take p) hb (List.replicate n false) (by simp) x
  have hl : (mkAll (List.replicate n false) ((fl M).take p)).length = n := by rw [mkAll_len]; simp
  refine ⟨x, rfl, hx, ?_, mkAll_take ho⟩
  rw [List.getElem?_eq_getElem (by omega)]
  rw [List.getD_eq_getElem?_getD, List.getElem?_eq_getElem (by omega)] at hg
  simp only [Option.getD_some] at hg
  rw [hg]
  simp [hni, hx]
section
variable {m : Mach} {d s n : Nat}
theorem far_far (m : Mach) (d s n k : Nat) : farL m d s n k = (treeT (lvT m d s n) s (pw d n) k).far := rfl
theorem orbL_P (g : Good m d s) (k : Nat) (hk : k ≤ pw d n) : OrbP (fun k => orbT (treeT (lvT m d s n) s (pw d n) k).far (pw d n)) (pw d n) k (orbS (fun k => orbT (treeT (lvT m d s n) s (pw d n) k).far (pw d n)) (pw d n) k) := by
  have hT : ∀ j fr, j < 2 * s → fr < pw d n → lvT m d s n j fr < pw d n := fun j fr hj hf => lvT_lt g j fr hj hf
  have D := fun k (hk : k < pw d n) => treeT_D hk hT
  refine orbS_P (fun k hk => ?_) (fun k hk x hx => orbT_lt x hx) (fun k hk => List.Nodup.sublist List.filter_sublist List.nodup_range) (fun a b x ha hb hab => ?_) k hk
  · exact (orbT_mem (D k hk).ok k).2 (D k hk).kq
  · rw [orbT_mem (D a ha).ok] at hab
    rw [orbT_mem (D b hb).ok, orbT_mem (D a ha).ok, (D b hb).mem_iff, (D a ha).mem_iff]
    obtain ⟨e, he⟩ := ((D a ha).mem_iff b).1 hab
    have he' := Wlk.rev (lvT_bak g) ha hT e b he
    exact ⟨fun ⟨c, hc⟩ => ⟨e + c, Wlk.trans e he c x hc⟩, fun ⟨c, hc⟩ => ⟨e + c, Wlk.trans e he' c x hc⟩⟩
theorem orbL_parts (g : Good m d s) : Parts (orbL m d s n) (pw d n) := by
  have hT : ∀ j fr, j < 2 * s → fr < pw d n → lvT m d s n j fr < pw d n := fun j fr hj hf => lvT_lt g j fr hj hf
  have h := orbL_P (n := n) g (pw d n) (Nat.le_refl _)
  have hm : ∀ z, z ∈ (orbL m d s n).flatten ↔ ∃ x : Nat, z = (x : Int) ∧ x < pw d n := fun z => by
    refine (h.mem z).trans ⟨?_, ?_⟩
    · rintro ⟨x, k, e, hk, hx⟩; exact ⟨x, e, orbT_lt x hx⟩
    · rintro ⟨x, e, hx⟩
      have D := treeT_D hx hT
      exact ⟨x, x, e, hx, (orbT_mem D.ok x).2 D.kq⟩
  exact ⟨h.nd, fun z hz => (hm z).1 hz, nd_len h.nd hm⟩
/-- One orbit: all words are reached. -/
def AllR (m : Mach) (d s n : Nat) : Prop := ∀ k x, k < pw d n → x < pw d n → x ∈ (treeT (lvT m d s n) s (pw d n) k).q
theorem orbS_one {f : Nat → List Nat} {n : Nat} : ∀ k, 1 ≤ k → (orbS f n k).2.length ≥ 1 ∨ (orbS f n 0).1.getD 0 false = true
  | 0, h => by omega
  | 1, _ => by
    by_cases h : (orbS f n 0).1.getD 0 false = true
    · exact .inr h
    · left; unfold orbS; rw [if_neg h]; simp
  | k + 2, _ => by
    rcases orbS_one (f := f) (n := n) (k + 1) (by omega) with h | h
    · left
      rw [orbS]
      split
      · exact h
      · simp
    · exact .inr h
theorem orbL_pos (hp : 0 < pw d n) : 1 ≤ (orbL m d s n).length := by
  rcases orbS_one (f := fun k => orbT (treeT (lvT m d s n) s (pw d n) k).far (pw d n)) (n := pw d n) (pw d n) hp with h | h
  · exact h
  · simp [orbS, List.getD_eq_getElem?_getD, List.getElem?_replicate, hp] at h
theorem orbS_mono {f : Nat → List Nat} {n k : Nat} : ∀ j, (orbS f n k).2.length ≤ (orbS f n (k + j)).2.length
  | 0 => Nat.le_refl _
  | j + 1 => by
    have ih := orbS_mono (f := f) (n := n) (k := k) j
    show _ ≤ (orbS f n (k + j + 1)).2.length
    rw [orbS]
    split
    · exact ih
    · simp; omega
theorem orbS_first {f : Nat → List Nat} {n : Nat} (hn : 0 < n) : orbS f n 1 = (mkAll (List.replicate n false) (f 0), [natI (f 0)]) := by
  rw [orbS, if_neg (by simp [orbS, List.getD_eq_getElem?_getD, List.getElem?_replicate, hn])]
  rfl
theorem orbL_all (g : Good m d s) (hp : 0 < pw d n) : (orbL m d s n).length = 1 ↔ AllR m d s n := by
  have hT : ∀ j fr, j < 2 * s → fr < pw d n → lvT m d s n j fr < pw d n := fun j fr hj hf => lvT_lt g j fr hj hf
  have D := fun k (hk : k < pw d n) => treeT_D hk hT
  constructor
  · intro h1 a x ha hx
    -- all are in the first orbit
    have hfirst : orbL m d s n = [natI (orbT (treeT (lvT m d s n) s (pw d n) 0).far (pw d n))] := by
      have hgo : ∀ j, (orbS (fun k => orbT (treeT (lvT m d s n) s (pw d n) k).far (pw d n)) (pw d n) (1 + j)).2.length ≤ 1 → (orbS (fun k => orbT (treeT (lvT m d s n) s (pw d n) k).far (pw d n)) (pw d n) (1 + j)).2 = [natI (orbT (treeT (lvT m d s n) s (pw d n) 0).far (pw d n))] := by
        intro j
        induction j with
        | zero => intro _; rw [Nat.add_zero, orbS_first hp]
        | succ j ih =>
          intro hl
          rw [show 1 + (j + 1) = (1 + j) + 1 by omega] at hl ⊢
          have h2 := orbS_mono (f := fun k => orbT (treeT (lvT m d s n) s (pw d n) k).far (pw d n)) (n := pw d n) (k := 1 + j) 1
          have ih' := ih (by omega)
          rw [orbS] at hl ⊢
          split
          · exact ih'
          · rename_i hne
            rw [if_neg hne] at hl
            rw [List.length_append, ih'] at hl
            simp at hl
      have := hgo (pw d n - 1)
      rw [show 1 + (pw d n - 1) = pw d n by omega] at this
      exact this (by unfold orbL at h1; omega)
    have hin : ∀ y, y < pw d n → y ∈ (treeT (lvT m d s n) s (pw d n) 0).q := fun y hy => by
      have hP := orbL_parts (n := n) g
      have hmem : ((y : Nat) : Int) ∈ (orbL m d s n).flatten := by
        have h := orbL_P (n := n) g (pw d n) (Nat.le_refl _)
        exact (h.mem _).2 ⟨y, y, rfl, hy, (orbT_mem (D y hy).ok y).2 (D y hy).kq⟩
      rw [hfirst] at hmem
      simp only [List.flatten_cons, List.flatten_nil, List.append_nil] at hmem
      obtain ⟨y', e, hy'⟩ := natI_mem.1 hmem
      obtain rfl : y = y' := by omega
      exact (orbT_mem (D 0 hp).ok y).1 hy'
    obtain ⟨e, he⟩ := ((D 0 hp).mem_iff a).1 (hin a ha)
    obtain ⟨c, hc⟩ := ((D 0 hp).mem_iff x).1 (hin x hx)
    exact ((D a ha).mem_iff x).2 ⟨e + c, Wlk.trans e (Wlk.rev (lvT_bak g) hp hT e a he) c x hc⟩
  · intro h
    have hgo : ∀ j, 1 + j ≤ pw d n → (orbS (fun k => orbT (treeT (lvT m d s n) s (pw d n) k).far (pw d n)) (pw d n) (1 + j)).2.length = 1 := by
      intro j
      induction j with
      | zero => intro _; rw [Nat.add_zero, orbS_first hp]; rfl
      | succ j ih =>
        intro hj
        have ih' := ih (by omega)
        have hP := orbL_P (n := n) g (1 + j) (by omega)
        rw [show 1 + (j + 1) = (1 + j) + 1 by omega, orbS, if_pos ((hP.seen (1 + j) (by omega)).2 ⟨0, by omega, (orbT_mem (D 0 hp).ok (1 + j)).2 (h 0 (1 + j) hp (by omega))⟩)]
        exact ih'
    have := hgo (pw d n - 1) (by omega)
    rw [show 1 + (pw d n - 1) = pw d n by omega] at this
    exact this
theorem far_mem {t : Tr} {N : Nat} (h : TrOk N t) : -1 ∈ t.far ↔ ∃ x, x < N ∧ x ∉ t.q := by
  constructor
  · intro hm
    obtain ⟨x, hx, e⟩ := List.getElem_of_mem hm
    have hx' : x < N := by rw [← h.fl]; exact hx
    refine ⟨x, hx', ?_⟩
    rcases h.F_cases hx' with h1 | h1
    · exact h1.2
    · have h2 := h1.2; unfold Tr.F at h2; rw [List.getD_eq_getElem?_getD, List.getElem?_eq_getElem hx, e] at h2; simp at h2
  · rintro ⟨x, hx, hn⟩
    rcases h.F_cases hx with h1 | h1
    · have h2 := h1.1; unfold Tr.F at h2
      rw [List.getD_eq_getElem?_getD, List.getElem?_eq_getElem (by rw [h.fl]; exact hx)] at h2
      exact List.mem_of_getElem (by simpa using h2)
    · exact absurd h1.1 hn
theorem diaL_some {f : Nat → List Int} : ∀ k, (∀ j, j < k → -1 ∉ f j) → ∃ o, diaL f k = some o ∧ ∀ j, j < k → ∀ x ∈ f j, x ≤ o
  | 0, _ => ⟨0, rfl, fun j hj => by omega⟩
  | k + 1, h => by
    obtain ⟨o, ho, hx⟩ := diaL_some k (fun j hj => h j (by omega))
    refine ⟨(f k).foldl max o, diaL_step ho (h k (by omega)), fun j hj x hxm => ?_⟩
    have hmax : ∀ (l : List Int) (a x : Int), x ∈ l → x ≤ l.foldl max a := by
      intro l
      induction l with
      | nil => intro a x hx; cases hx
      | cons y l ih =>
        intro a x hx
        rcases List.mem_cons.1 hx with rfl | hx
        · exact Int.le_trans (Int.le_max_right a x) (foldl_max_ge l _)
        · exact ih _ x hx
    by_cases e : j = k
    · subst e; exact hmax _ _ _ hxm
    · exact Int.le_trans (hx j (by omega) x hxm) (foldl_max_ge _ _)
theorem dia_all (g : Good m d s) : (AllR m d s n ↔ (diaR (diaL (farL m d s n) (pw d n))).2 = 0) ∧ (AllR m d s n → ∀ k, k < pw d n → ∀ x ∈ farL m d s n k, 0 ≤ x ∧ x ≤ (diaR (diaL (farL m d s n) (pw d n))).1) := by
  have ok := fun k (hk : k < pw d n) => farL_ok (n := n) g hk
  have hno : AllR m d s n → ∀ j, j < pw d n → -1 ∉ farL m d s n j := fun h j hj hm => by
    obtain ⟨x, hx, hq⟩ := (far_mem (ok j hj)).1 hm
    exact hq (h j x hj hx)
  refine ⟨⟨fun h => ?_, fun h k x hk hx => ?_⟩, fun h k hk x hx => ?_⟩
  · obtain ⟨o, ho, _⟩ := diaL_some (f := farL m d s n) (pw d n) (hno h)
    rw [ho]; rfl
  · apply Classical.byContradiction
    intro hn
    have hb : -1 ∈ farL m d s n k := (far_mem (ok k hk)).2 ⟨x, hx, hn⟩
    rw [diaL_bad hk hb] at h
    cases h
  · obtain ⟨o, ho, hle⟩ := diaL_some (f := farL m d s n) (pw d n) (hno h)
    rw [ho]
    refine ⟨?_, hle k hk x hx⟩
    rcases (ok k hk).far_cases hx with h1 | h1
    · subst h1; exact absurd hx (hno h k hk)
    · exact h1.1
end
/-- What a level tells, all at once. -/
theorem lev_law {m : Mach} {n k : Int} (h : (disAns m n k).2 = 0) : ∃ (N K : Nat) (D : Nat → List Int), 0 < N ∧ N ≤ 243 ∧ k = (K : Int) ∧ K < N ∧ (∀ x : Nat, x < N → disAns m n (x : Int) = (D x, 0) ∧ (D x).length = N) ∧
    (lvoAns m n).2 = 0 ∧ Parts (lvoAns m n).1 N ∧ ((diaAns m n).2 = 0 ↔ (lvoAns m n).1.length = 1) ∧ (D K).getD K 0 = 0 ∧ (∀ x : Nat, x < N → (D x).getD K 0 = (D K).getD x 0) ∧
    ((lvoAns m n).1.length = 1 → ∀ i : Nat, i < N → 0 ≤ (D K).getD i 0 ∧ (D K).getD i 0 ≤ (diaAns m n).1) := by
  by_cases h0 : levelI m n = 0
  · by_cases hk : inLv m n k
    · obtain ⟨d, s, n', gd, rfl, hn5, hnl, hpw⟩ := levelI_good h0
      obtain ⟨K, rfl⟩ := Int.eq_ofNat_of_zero_le hk.1
      have hK : K < pw d n' := by have := hk.2; rw [gd.L] at this; simp only [Int.toNat_natCast] at this; omega
      have hT : ∀ j fr, j < 2 * s → fr < pw d n' → lvT m d s n' j fr < pw d n' := fun j fr hj hf => lvT_lt gd j fr hj hf
      have hp : 0 < pw d n' := by omega
      rw [lvoAns_0 gd h0, diaAns_0 gd h0]
      have hda := dia_all (n := n') gd
      have hol := orbL_all (n := n') gd hp
      refine ⟨pw d n', K, farL m d s n', hp, hpw, rfl, hK, fun x hx => ⟨disAns_0 gd h0 hx, (farL_ok gd hx).fl⟩, rfl, orbL_parts gd, hda.1.symm.trans hol.symm, (treeT_D hK hT).k0, fun x hx => (far_sym (lvT_bak gd) hx hK hT).1, fun h1 i hi => ?_⟩
      have hfl := (farL_ok (n := n') gd hK).fl
      refine hda.2 (hol.1 h1) K hK _ ?_
      rw [List.getD_eq_getElem?_getD]
      have hi' : i < (farL m d s n' K).length := by rw [far_far, hfl]; exact hi
      rw [List.getElem?_eq_getElem hi']
      exact List.getElem_mem hi'
    · rw [disAns_2 h0 hk] at h; cases h
  · rw [disAns_c h0] at h; exact absurd h h0
end Go.Proofs.YthmcdfjijkecfaaGreat

/- A slice of bytes as an argument. -/
namespace Go.Proofs.YthmcdfjijkecfaaGreat
open Go.RowKit
set_option linter.unusedVariables false
set_option linter.unusedSimpArgs false

/-- A slice of bytes that was handed in. -/
def ArgB (W : World) (v : Value) (l : List Nat) : Prop :=
  ∃ A c, v = .slice A l.length c ∧ ((A = none ∧ l = []) ∨ ∃ a : Addr, A = some a ∧ ∀ i x, l[i]? = some x → x < 256 ∧ W.cell? (a.add i) = some (.int .u8 (x : Nat)) ∧ (a.add i).block < W.heap.size)
theorem ArgB.below {W W' : World} {v : Value} {l : List Nat} (h : ArgB W v l) (hb : Below W.heap.size W W') : ArgB W' v l := by
  obtain ⟨A, c, rfl, h | ⟨a, rfl, hc⟩⟩ := h
  · exact ⟨A, c, rfl, .inl h⟩
  · exact ⟨_, c, rfl, .inr ⟨a, rfl, fun i x hx => ⟨(hc i x hx).1, (hb.cell (hc i x hx).2.2).trans (hc i x hx).2.1, Nat.lt_of_lt_of_le (hc i x hx).2.2 hb.size⟩⟩⟩
theorem laidOutB' : laidOutB Tryz.prog = true := by kernel_rfl
theorem cell_ltB {W : World} {a : Addr} {v : Value} (h : W.cell? a = some v) : a.block < W.heap.size := by
  rcases Nat.lt_or_ge a.block W.heap.size with h1 | h1
  · exact h1
  · exfalso
    unfold World.cell? at h
    rw [Array.getElem?_eq_none h1] at h
    simp at h
theorem cellsL_u8 : Tryz.prog.cellsOf 5 = 1 := by kernel_rfl
theorem readable_bytes : Tryz.prog.readableRec 22 = true := by kernel_rfl
set_option maxRecDepth 1000000 in
theorem open_argB {H : Type} {enc : TypeId × Value → H} {W : World} {b0 : Nat} {v : Value} {d : DataW H} {p : List MemPlace} (hval : Value.okWide Tryz.prog W .any b0 22 v) (h : DataW.Trod enc Tryz.prog W 0 (fun _ => true) true 22 v d p) : ∃ l, ArgB W v l := by
  obtain ⟨a0, len, cap, rfl⟩ := Go.WideShapes.okWide_slice Tryz.underlying22 hval
  obtain ⟨fuel, hf⟩ := h
  rcases Go.ChangeShapes.open_ints Tryz.underlying22 Tryz.underlying5 cellsL_u8 hf with ⟨hcs, _⟩ | ⟨a, len', cap', zs, hcs, _, hl, _, hz, _, hcell, hwf⟩
  · simp [Value.cells] at hcs
    obtain ⟨rfl, rfl, rfl⟩ := hcs
    exact ⟨[], none, 0, rfl, .inl ⟨rfl, rfl⟩⟩
  · simp [Value.cells] at hcs
    obtain ⟨rfl, rfl, rfl⟩ := hcs
    simp only [if_true] at hz
    have hlen : ((zs.take len).map Int.toNat).length = len := by rw [List.length_map, List.length_take]; omega
    refine ⟨(zs.take len).map Int.toNat, some a, cap, by rw [hlen], .inr ⟨a, rfl, fun i x hx => ?_⟩⟩
    have hi := (List.getElem?_eq_some_iff.1 hx).1
    rw [hlen] at hi
    rw [List.getElem?_map, List.getElem?_take_of_lt hi] at hx
    have hc := hcell i (by omega)
    obtain ⟨z, hz1, hz2⟩ := Option.map_eq_some_iff.1 hx
    rw [List.getD_eq_getElem?_getD, hz1] at hc
    have hw := hwf z (List.mem_of_getElem? hz1)
    unfold Lit.wf at hw
    rw [Bool.and_eq_true, decide_eq_true_eq, decide_eq_true_eq] at hw
    have e1 : IntKind.u8.min = 0 := by decide
    have e2 : IntKind.u8.max = 255 := by decide
    rw [e1, e2] at hw
    have e3 : ((x : Nat) : Int) = z := by rw [← hz2]; omega
    exact ⟨by omega, by rw [e3]; exact hc, cell_ltB hc⟩
end Go.Proofs.YthmcdfjijkecfaaGreat

/- Numbers drawn from a code: the reference's source. -/
namespace Go.Proofs.YthmcdfjijkecfaaGreat
open Go.RowKit
set_option linter.unusedVariables false
set_option linter.unusedSimpArgs false
-- @LONG

/-- A source: its code, how far it is read, its hash. -/
def Asn.src (S : Nat) (v : Value) (n : Nat) : Asn :=
  ⟨fun k => k = S, fun w => ∃ a h : Nat, w.heap[S]? = some (.cells #[v, .int .i64 a, .int .u64 h] 196 (0, 0)) ∧ a ≤ n ∧ h < 18446744073709551616,
   fun ⟨a, h, h1, h2⟩ hk => ⟨a, h, (hk S rfl).trans h1, h2⟩, fun ⟨a, h, h1, _⟩ k hk => hk ▸ (Array.getElem?_eq_some_iff.1 h1).1⟩
theorem St.srcBlk {base S n : Nat} {w0 w : World} {L : List Asn} {v : Value} (h : St base w0 (Asn.src S v n :: L) w) : ∃ a x : Nat, a ≤ n ∧ x < 18446744073709551616 ∧ St base w0 (Asn.blk S #[v, .int .i64 a, .int .u64 x] 196 :: L) w := by
  obtain ⟨⟨a, x, h1, h2, h3⟩, hf, hL⟩ := h.star
  exact ⟨a, x, h2, h3, h.bel, h.le, h1, hf, hL⟩
theorem St.blkSrc {base S n a x : Nat} {w0 w : World} {L : List Asn} {v : Value} (h : St base w0 (Asn.blk S #[v, .int .i64 a, .int .u64 x] 196 :: L) w) (ha : a ≤ n) (hx : x < 18446744073709551616) : St base w0 (Asn.src S v n :: L) w :=
  ⟨h.bel, h.le, ⟨a, x, h.star.1, ha, hx⟩, h.star.2.1, h.star.2.2⟩
theorem u64_nat (x : Int) : ∃ y : Nat, IntKind.u64.wrap x = (y : Int) ∧ y < 18446744073709551616 := by
  have h1 : 0 ≤ IntKind.u64.wrap x ∧ IntKind.u64.wrap x < 18446744073709551616 := by
    have e : IntKind.u64.wrap x = x % 18446744073709551616 := by
      unfold IntKind.wrap
      simp [IntKind.signed, IntKind.bits]
    rw [e]; omega
  exact ⟨(IntKind.u64.wrap x).toNat, by omega, by omega⟩
theorem and24 (y : Nat) (hy : y < 18446744073709551616) : ∃ z : Nat, bits .and .u64 ((y : Int) / 8589934592) 16777215 = (z : Int) ∧ z ≤ 16777215 := by
  have h := u64_and_nat (y / 8589934592) 16777215 (by omega) (by omega)
  have e : ((y / 8589934592 : Nat) : Int) = (y : Int) / 8589934592 := by omega
  rw [e] at h
  exact ⟨_, h, Nat.and_le_right⟩
set_option maxHeartbeats 2000000 in
set_option maxRecDepth 100000 in
theorem l01Next_any (w0 : World) (L : List Asn) (w : World) (S : Nat) (v : Value) (l : List Nat) (hv : ArgB w0 v l) (hl : l.length ≤ 4096) (hSb : w0.heap.size ≤ S) (n : Int) (hn : n < 9223372036854775808)
    (hS : St w0.heap.size w0 (Asn.src S v l.length :: L) w) :
    Calls Tryz.prog 130 #[.pointer (some ⟨S, 0, none⟩), .int .i64 n] w fun e w' => ∃ r : Int, e = .returned (.int .i64 r) ∧ 0 ≤ r ∧ (r < n ∨ r = 0) ∧ St w0.heap.size w0 (Asn.src S v l.length :: L) w' := by
  have hv' := hid hv
  obtain ⟨A, c, rfl, hA⟩ := hv
  obtain ⟨a, x, ha, hx, hB⟩ := hS.srcBlk
  by_cases h1 : n < 1
  · have d1 : decide (n < 1) = true := decide_eq_true h1
    replace hS := hid hS
    clear hB
    go_enter Tryz.func130, Tryz.ntmps130
    go_wp2
    go_ret
    exact ⟨0, rfl, by omega, .inr rfl, hS.out⟩
  · have d1 : decide (n < 1) = false := decide_eq_false h1
    have c2 := (show w.cell? ⟨S, 2, none⟩ = some (.int .u64 x) from cell_of_row _ _ 2 _ _ _ hB.k0)
    have f2 := frozen_of_row _ _ 2 _ _ hB.k0
    replace hB := hid hB
    clear hS
    go_enter Tryz.func130, Tryz.ntmps130
    go_upto_region 4 with (fail)
    obtain ⟨y, hy, hy2⟩ := u64_nat (IntKind.u64.wrap ((x : Int) * 6364136223846793005) + 1442695040888963407)
    rw [hy]
    clear hy
    replace hB := hid (show St w0.heap.size w0 (Asn.blk S #[.slice A l.length c, .int .i64 a, .int .u64 y] 196 :: L) _ from hB.out.setBlk hSb 2 (.int .u64 y))
    clear c2 f2
    generalize w.setCell _ _ = w1 at *
    have c2 := (show w1.cell? ⟨S, 2, none⟩ = some (.int .u64 y) from cell_of_row _ _ 2 _ _ _ hB.out.k0)
    have c1 := (show w1.cell? ⟨S, 1, none⟩ = some (.int .i64 a) from cell_of_row _ _ 1 _ _ _ hB.out.k0)
    have c0 := (show w1.cell? ⟨S, 0, none⟩ = some (.slice A l.length c) from cell_of_row _ _ 0 _ _ _ hB.out.k0)
    have f1 := frozen_of_row _ _ 1 _ _ hB.out.k0
    go_upto_region 5 with (fail)
    obtain ⟨z, hz, hz2⟩ := and24 y hy2
    rw [hz]
    clear hz
    rw [w64 (show -9223372036854775808 ≤ (z : Int) by omega) (show (z : Int) ≤ 9223372036854775807 by omega)]
    have dz : ¬ n = 0 := by omega
    by_cases hlt : a < l.length
    · have da : decide ((a : Int) < (l.length : Int)) = true := decide_eq_true (by omega)
      obtain ⟨g, rfl, hc⟩ : ∃ g : Addr, A = some g ∧ ∀ i x, l[i]? = some x → x < 256 ∧ w0.cell? (g.add i) = some (.int .u8 (x : Nat)) ∧ (g.add i).block < w0.heap.size := by
        rcases hA with ⟨_, h⟩ | ⟨g, h, hh⟩
        · rw [h] at hlt; simp at hlt
        · exact ⟨g, h, hh⟩
      obtain ⟨b, hb⟩ : ∃ b, l[a]? = some b := ⟨_, List.getElem?_eq_getElem hlt⟩
      obtain ⟨hb1, hb2, hb3⟩ := hc a b hb
      have cb := (hB.out.bel.cell hb3).trans hb2
      have a0 : (0 : Int) ≤ (a : Int) := Int.natCast_nonneg _
      have a1 : (a : Int) < (l.length : Int) := by omega
      have ew : wrap64 ((z : Int) + (b : Int)) = (z : Int) + b := w64 (by omega) (by omega)
      have ew1 : wrap64 ((a : Int) + 1) = (a : Int) + 1 := w64 (by omega) (by omega)
      have ewb : wrap64 (b : Int) = (b : Int) := w64 (by omega) (by omega)
      have hr1 := Int.emod_nonneg ((z : Int) + b) (show n ≠ 0 by omega)
      have hr2 := Int.emod_lt_of_pos ((z : Int) + b) (show 0 < n by omega)
      have m1 : Int.tmod ((z : Int) + (b : Int)) n = ((z : Int) + b) % n := Int.tmod_eq_emod_of_nonneg (Int.add_nonneg (Int.natCast_nonneg _) (Int.natCast_nonneg _))
      clear hA hc hb hb2 hb3
      replace hy2 := hid hy2; replace hx := hid hx; replace hn := hid hn; replace hz2 := hid hz2
      go_quiet (fail)
      go_upto_region 6 with (fail)
      go_quiet (fail)
      rw [ew]
      obtain ⟨w3, hw3, hB3⟩ : ∃ w3, (World.drewN (World.drewN w1 _) nq) = w3 ∧ St w0.heap.size w0 (Asn.blk S #[.slice (some g) l.length c, .int .i64 a, .int .u64 y] 196 :: L) w3 := ⟨_, rfl, (hB.out.drewN _).drewN _⟩
      rw [hw3]
      replace hB := hid hB3
      clear hw3 hB3 c0 c1 c2 f1 cb
      have c1 := (show w3.cell? ⟨S, 1, none⟩ = some (.int .i64 a) from cell_of_row _ _ 1 _ _ _ hB.out.k0)
      have f1 := frozen_of_row _ _ 1 _ _ hB.out.k0
      go_upto_region 8 with (fail)
      replace hB := hid (show St w0.heap.size w0 (Asn.blk S #[.slice (some g) l.length c, .int .i64 ((a : Int) + 1), .int .u64 y] 196 :: L) _ from hB.out.setBlk hSb 1 (.int .i64 ((a : Int) + 1)))
      generalize w3.setCell _ _ = w4 at *
      have ea : (a : Int) + 1 = ((a + 1 : Nat) : Int) := rfl
      rw [ea] at hB
      clear c1 f1 ew ew1 ewb
      go_wp2
      go_ret
      exact ⟨((z : Int) + b) % n, by first | rfl | (rw [m1]), hr1, .inl hr2, (hB.out.blkSrc (by omega) hy2.out)⟩
    · have da : decide ((a : Int) < (l.length : Int)) = false := decide_eq_false (by omega)
      have hr1 := Int.emod_nonneg (z : Int) (show n ≠ 0 by omega)
      have hr2 := Int.emod_lt_of_pos (z : Int) (show 0 < n by omega)
      have m1 : Int.tmod (z : Int) n = (z : Int) % n := Int.tmod_eq_emod_of_nonneg (Int.natCast_nonneg _)
      go_quiet (fail)
      go_wp2
      go_ret
      exact ⟨(z : Int) % n, by first | rfl | (rw [m1]), hr1, .inl hr2, ((hB.out.drewN _).blkSrc ha hy2)⟩
end Go.Proofs.YthmcdfjijkecfaaGreat

/- Numbers drawn from a code: one of some, near a range. -/
namespace Go.Proofs.YthmcdfjijkecfaaGreat
open Go.RowKit
set_option linter.unusedVariables false
set_option linter.unusedSimpArgs false
-- @LONG

set_option maxHeartbeats 2000000 in
set_option maxRecDepth 100000 in
theorem l01Pick_any (w0 : World) (L : List Asn) (w : World) (S : Nat) (v : Value) (l : List Nat) (hv : ArgB w0 v l) (hl : l.length ≤ 4096) (hSb : w0.heap.size ≤ S) (b2 : Nat) (v2 : Value) (M : List Int) (hM : 1 ≤ M.length) (hMl : M.length ≤ 1000)
    (hS : St w0.heap.size w0 (Asn.src S v l.length :: Asn.own b2 2 v2 (ints M) :: L) w) :
    Calls Tryz.prog 158 #[.pointer (some ⟨S, 0, none⟩), v2] w fun e w' => ∃ r : Int, e = .returned (.int .i64 r) ∧ r ∈ M ∧ St w0.heap.size w0 (Asn.src S v l.length :: Asn.own b2 2 v2 (ints M) :: L) w' := by
  obtain ⟨g, c, rfl, _, _⟩ := hS.o1.blk (fun e => by have h := congrArg List.length e; rw [ints_length, List.length_nil] at h; omega)
  rw [ints_length] at hS ⊢
  have hnx := hid (fun W (hW : St w0.heap.size w0 (Asn.src S v l.length :: Asn.own b2 2 (.slice (some ⟨g, 0, none⟩) M.length c) (ints M) :: L) W) => l01Next_any w0 _ W S v l hv hl hSb (M.length : Nat) (by omega) hW)
  have hget := hid (fun (r : Int) (h0 : 0 ≤ r) (h1 : r < (M.length : Nat) ∨ r = 0) => (show ∃ (j : Nat) (x : Int), r = (j : Nat) ∧ j < M.length ∧ M[j]? = some x ∧ x ∈ M from by
    obtain ⟨j, rfl⟩ := Int.eq_ofNat_of_zero_le h0
    have hj : j < M.length := by omega
    exact ⟨j, M[j], rfl, hj, List.getElem?_eq_getElem hj, List.getElem_mem hj⟩))
  replace hS := hid hS
  replace hv := hid hv
  generalize hn : M.length = n at *
  go_enter Tryz.func158, Tryz.ntmps158
  go_wp2_with (first
    | (go_at_call 130; (with_reducible refine (hnx.out _ hS.out).mono ?_); rintro e w1 ⟨r, rfl, hr0, hr1, hS'⟩; obtain ⟨j, x, rfl, hj, hx, hxm⟩ := hget.out r hr0 hr1; (have cx := hS'.o1.cellAt j (.int .i64 x) (by simp [ints, hx])); (have j0 : (0 : Int) ≤ (j : Int) := Int.natCast_nonneg _); (have j1 : (j : Int) < (n : Int) := by omega); replace hxm := hid hxm; replace hS := hid hS'; clear hS' hx hr0 hr1))
  go_ret
  exact ⟨x, rfl, hxm.out, hS.out⟩
set_option maxHeartbeats 2000000 in
set_option maxRecDepth 100000 in
theorem l01Near_any (w0 : World) (L : List Asn) (w : World) (S : Nat) (v : Value) (l : List Nat) (hv : ArgB w0 v l) (hl : l.length ≤ 4096) (hSb : w0.heap.size ≤ S) (n : Int) (hn0 : -1 ≤ n) (hn : n ≤ 1000000)
    (hS : St w0.heap.size w0 (Asn.src S v l.length :: L) w) :
    Calls Tryz.prog 140 #[.pointer (some ⟨S, 0, none⟩), .int .i64 n] w fun e w' => ∃ r : Int, e = .returned (.int .i64 r) ∧ Hid (-4611686018427387904 ≤ r ∧ r ≤ 1099511627776) ∧ St w0.heap.size w0 (Asn.src S v l.length :: L) w' := by
  have hnx := hid (fun W k (hk : k < 9223372036854775808) (hW : St w0.heap.size w0 (Asn.src S v l.length :: L) W) => l01Next_any w0 _ W S v l hv hl hSb k hk hW)
  have hpk := hid (fun W b v2 (hW : St w0.heap.size w0 (Asn.src S v l.length :: Asn.own b 2 v2 (ints [-1, n + 1, 1099511627776, -4611686018427387904]) :: L) W) => l01Pick_any w0 L W S v l hv hl hSb b v2 [-1, n + 1, 1099511627776, -4611686018427387904] (by simp only [List.length_cons, List.length_nil]; omega) (by simp only [List.length_cons, List.length_nil]; omega) hW)
  have hk14 := hid (show (14 : Int) < 9223372036854775808 by omega)
  have hkn := hid (show n + 1 < 9223372036854775808 by omega)
  have ew : wrap64 (n + 1) = n + 1 := w64 (by omega) (by omega)
  have hrg := hid (fun r (hr : r ∈ [-1, n + 1, (1099511627776 : Int), -4611686018427387904]) => (show -4611686018427387904 ≤ r ∧ r ≤ 1099511627776 from by
    simp only [List.mem_cons, List.not_mem_nil, or_false] at hr
    rcases hr with rfl | rfl | rfl | rfl <;> omega))
  have hrn := hid (fun (r : Int) (h0 : 0 ≤ r) (h1 : r < n + 1 ∨ r = 0) => (show -4611686018427387904 ≤ r ∧ r ≤ 1099511627776 from by omega))
  replace hS := hid hS
  replace hv := hid hv
  replace hn := hid hn; replace hn0 := hid hn0
  go_enter Tryz.func140, Tryz.ntmps140
  go_wp2_with (first
    | (go_at_call 130; (with_reducible refine (hnx.out _ _ hk14.out hS.out).mono ?_); rintro e w1 ⟨r, rfl, hr0, hr1, hS'⟩; replace hS := hid hS'; clear hS' hr0 hr1 hk14)
    | (go_at_call 130; rw [ew]; (with_reducible refine (hnx.out _ _ hkn.out hS.out).mono ?_); rintro e w2 ⟨q, rfl, hr0, hr1, hS'⟩; (have hq := hid (hrn.out q hr0 hr1)); replace hS := hid hS'; clear hS' hr0 hr1 hkn)
    | (go_at_call 158; rw [ew]; (have hS2 := (hS.out.newOwn [.int .i64 (-1), .int .i64 (n + 1), .int .i64 1099511627776, .int .i64 (-4611686018427387904)] 2 (by simp)).f1); (with_reducible refine (hpk.out _ _ _ hS2).mono ?_); rintro e w2 ⟨q, rfl, hr0, hS'⟩; (have hq := hid (hrg.out q hr0)); replace hS := hid (hS'.f1.drop); clear hS' hS2 hr0))
  all_goals go_ret
  all_goals exact ⟨_, rfl, hq, hS.out⟩
end Go.Proofs.YthmcdfjijkecfaaGreat

/- The source of a code. -/
namespace Go.Proofs.YthmcdfjijkecfaaGreat
open Go.RowKit
set_option linter.unusedVariables false
set_option linter.unusedSimpArgs false
-- @LONG

theorem built_src (A : Option Addr) (n c : Nat) (x : Int) : Tryz.prog.built 196 [(0, .slice A n c), (2, .int .u64 x)] = some #[.slice A n c, .int .i64 0, .int .u64 x] := by kernel_rfl
set_option maxHeartbeats 2000000 in
set_option maxRecDepth 100000 in
theorem l01From_any (w : World) (v : Value) (l : List Nat) (hv : ArgB w v l) (hl : l.length ≤ 4096) :
    Calls Tryz.prog 104 #[v] w fun e w' => e = .returned (.pointer (some ⟨w.heap.size, 0, none⟩)) ∧ St w.heap.size w [Asn.src w.heap.size v l.length] w' := by
  have hv' := hid hv
  obtain ⟨A, c, rfl, hA⟩ := hv
  have hbs := fun (x : Int) => built_src A l.length c x
  obtain ⟨y0, hy0, hy02⟩ := u64_nat (11927 + IntKind.u64.wrap (l.length : Int))
  have hS0 := hid ((St.start w).newBlk #[.slice A l.length c, .int .i64 0, .int .u64 y0] 196)
  have hby := hid (fun i (hi : i < l.length) => (show ∃ (g : Addr) (b : Nat), A = some g ∧ b < 256 ∧ w.cell? (g.add i) = some (.int .u8 (b : Nat)) ∧ (g.add i).block < w.heap.size from by
    rcases hA with ⟨_, h⟩ | ⟨g, h, hh⟩
    · rw [h] at hi; simp at hi
    · obtain ⟨h1, h2, h3⟩ := hh i _ (List.getElem?_eq_getElem hi)
      exact ⟨g, _, h, h1, h2, h3⟩))
  clear hA
  replace hy02 := hid hy02
  generalize hn : l.length = n at *
  go_enter Tryz.func104, Tryz.ntmps104
  go_wp2
  have hS1 := (St.start w).newBlk #[.slice A n c, .int .i64 0, .int .u64 (11927 + (n : Int))] 196
  clear hS0
  generalize w.alloc (.cells #[.slice A n c, .int .i64 0, .int .u64 (11927 + (n : Int))] 196) = w1 at *
  have e1 : 11927 + (n : Int) = ((11927 + n : Nat) : Int) := by omega
  rw [e1] at hS1
  replace hS1 := hid ((show St w.heap.size w [Asn.blk w.heap.size #[.slice A n c, .int .i64 ((0 : Nat) : Int), .int .u64 ((11927 + n : Nat) : Int)] 196] w1 from hS1).blkSrc (n := n) (Nat.zero_le _) (by omega))
  go_loopw [4] (fun i wr => ∃ k : Nat, k ≤ n ∧ i = .int .i64 k ∧ St w.heap.size w [Asn.src w.heap.size (.slice A n c) n] wr) (fun i _ => n - (intOf i).toNat)
  case atStart => exact ⟨0, Nat.zero_le _, rfl, hS1.out⟩
  case round =>
    obtain ⟨k, hk, rfl, rS⟩ := hrel
    clear hS1
    by_cases hlt : k < n
    · have dk : decide ((k : Int) < (n : Int)) = true := decide_eq_true (by omega)
      have dk2 : decide ((k : Int) < 4096) = true := decide_eq_true (by omega)
      obtain ⟨a, x, ha, hx, hB⟩ := rS.srcBlk
      obtain ⟨g, b, rfl, hb, hb2, hb3⟩ := hby.out k hlt
      have cb := (hB.bel.cell hb3).trans hb2
      have c2 := (show wr.cell? ⟨w.heap.size, 2, none⟩ = some (.int .u64 x) from cell_of_row _ _ 2 _ _ _ hB.k0)
      have f2 := frozen_of_row _ _ 2 _ _ hB.k0
      have k0 : (0 : Int) ≤ (k : Int) := Int.natCast_nonneg _
      have k1 : (k : Int) < (n : Int) := by omega
      replace hB := hid hB; replace hx := hid hx
      clear rS hb2 hb3
      go_upto_region 5 with (fail)
      go_region
      obtain ⟨y, hy, hy2⟩ := u64_nat (IntKind.u64.wrap (IntKind.u64.wrap ((x : Int) * 1099511628211) + (b : Int)) + 59)
      rw [hy]
      replace hB := hid ((show St w.heap.size w [Asn.blk w.heap.size #[.slice (some g) n c, .int .i64 a, .int .u64 y] 196] _ from hB.out.setBlk (Nat.le_refl _) 2 (.int .u64 y)).drew)
      generalize World.drew _ = w5 at *
      clear hy c2 f2 cb
      replace hy2 := hid hy2
      go_wp2
      go_roundw
      case rel => exact ⟨k + 1, by omega, by go_num, hB.out.blkSrc ha hy2.out⟩
      case measure => simp [intOf]; omega
    · obtain rfl : k = n := by omega
      have dk : decide ((k : Int) < (k : Int)) = false := decide_eq_false (by omega)
      replace rS := hid rS
      go_wp2
      go_ret
      exact ⟨rfl, rS.out⟩
end Go.Proofs.YthmcdfjijkecfaaGreat

/- Draws from a source: states, words, levels. -/
namespace Go.Proofs.YthmcdfjijkecfaaGreat
open Go.RowKit
set_option linter.unusedVariables false
set_option linter.unusedSimpArgs false
-- @LONG

/-- The ground of a draw: the world in which the source was made, and its code. -/
structure Dg (w0 : World) (S : Nat) (v : Value) (l : List Nat) : Prop where
  hv : ArgB w0 v l
  hl : l.length ≤ 4096
  hS : w0.heap.size ≤ S
/-- A number drawn near a range. -/
def I64 (r : Int) : Prop := -4611686018427387904 ≤ r ∧ r ≤ 1099511627776
theorem mm_range (x a b : Int) (h : a ≤ b) : a ≤ min (max x a) b ∧ min (max x a) b ≤ b := by omega
section
variable {w0 w : World} {S : Nat} {v : Value} {l : List Nat} {L : List Asn}
theorem Dg.next (D : Dg w0 S v l) (n : Int) (hn : n ≤ 1000000000) (hS : St w0.heap.size w0 (Asn.src S v l.length :: L) w) :
    Calls Tryz.prog 130 #[.pointer (some ⟨S, 0, none⟩), .int .i64 n] w fun e w' => ∃ r : Nat, e = .returned (.int .i64 r) ∧ ((r : Int) < n ∨ r = 0) ∧ St w0.heap.size w0 (Asn.src S v l.length :: L) w' := by
  refine (l01Next_any w0 L w S v l D.hv D.hl D.hS n (by omega) hS).mono ?_
  rintro e w' ⟨r, rfl, h0, h1, h2⟩
  obtain ⟨r, rfl⟩ := Int.eq_ofNat_of_zero_le h0
  exact ⟨r, rfl, by omega, h2⟩
theorem Dg.pick (D : Dg w0 S v l) {b2 : Nat} {v2 : Value} (M : List Int) (hM : 1 ≤ M.length) (hMl : M.length ≤ 1000) (hS : St w0.heap.size w0 (Asn.src S v l.length :: Asn.own b2 2 v2 (ints M) :: L) w) :
    Calls Tryz.prog 158 #[.pointer (some ⟨S, 0, none⟩), v2] w fun e w' => ∃ r : Int, e = .returned (.int .i64 r) ∧ r ∈ M ∧ St w0.heap.size w0 (Asn.src S v l.length :: L) w' :=
  (l01Pick_any w0 L w S v l D.hv D.hl D.hS b2 v2 M hM hMl hS).mono fun e w' ⟨r, h1, h2, h3⟩ => ⟨r, h1, h2, h3.f1.drop⟩
theorem Dg.near (D : Dg w0 S v l) (n : Int) (h0 : -1 ≤ n) (h1 : n ≤ 1000000) (hS : St w0.heap.size w0 (Asn.src S v l.length :: L) w) :
    Calls Tryz.prog 140 #[.pointer (some ⟨S, 0, none⟩), .int .i64 n] w fun e w' => ∃ r : Int, e = .returned (.int .i64 r) ∧ Hid (I64 r) ∧ St w0.heap.size w0 (Asn.src S v l.length :: L) w' :=
  l01Near_any w0 L w S v l D.hv D.hl D.hS n h0 h1 hS
/-- The list of a pick, made behind the source. -/
theorem St.list (h : St w0.heap.size w0 (Asn.src S v l.length :: L) w) (cs : List Value) (hm : cs.length ≤ 1000000) : St w0.heap.size w0 (Asn.src S v l.length :: Asn.own w0.heap.size 2 (.slice (some ⟨w.heap.size, 0, none⟩) cs.length cs.length) cs :: L) (w.alloc (.cells cs.toArray 2)) := (h.newOwn cs 2 hm).f1
set_option maxHeartbeats 2000000 in
set_option maxRecDepth 100000 in
theorem Dg.state (D : Dg w0 S v l) (m : Mach) (hS : St w0.heap.size w0 (Asn.src S v l.length :: L) w) :
    Calls Tryz.prog 139 #[.pointer (some ⟨S, 0, none⟩), .agg (mcells m)] w fun e w' => ∃ r : Int, e = .returned (.int .i64 r) ∧ Hid (I64 r) ∧ St w0.heap.size w0 (Asn.src S v l.length :: L) w' := by
  have hN := hid (fun W L n (h0 : -1 ≤ n) (h1 : n ≤ 1000000) hW => D.near (w := W) (L := L) n h0 h1 hW)
  replace hS := hid (hS.newMB m 27).f1
  have cS := hS.out.m1.cS
  clear D
  go_enter Tryz.func139, Tryz.ntmps139
  go_wp2_with (first
    | (go_at_call 140; (with_reducible refine (hN.out _ _ _ (by (repeat' split) <;> omega) (by (repeat' split) <;> omega) hS.out).mono ?_); rintro e w1 ⟨r, rfl, hr, hS'⟩; clear hS; have hS := hid hS'.f1.drop; clear hS' cS))
  all_goals go_ret
  all_goals exact ⟨_, rfl, hr, hS.out⟩
set_option maxHeartbeats 2000000 in
set_option maxRecDepth 100000 in
theorem Dg.level (D : Dg w0 S v l) (hS : St w0.heap.size w0 (Asn.src S v l.length :: L) w) :
    Calls Tryz.prog 106 #[.pointer (some ⟨S, 0, none⟩)] w fun e w' => ∃ r : Int, e = .returned (.int .i64 r) ∧ Hid (I64 r) ∧ St w0.heap.size w0 (Asn.src S v l.length :: L) w' := by
  have hN := hid (fun W L n (h0 : -1 ≤ n) (h1 : n ≤ 1000000) hW => D.near (w := W) (L := L) n h0 h1 hW)
  have hP := hid (fun W L b2 v2 M hM hMl hW => D.pick (w := W) (L := L) (b2 := b2) (v2 := v2) M hM hMl hW)
  have h5 := hid (show (-1 : Int) ≤ 5 ∧ (5 : Int) ≤ 1000000 by omega)
  have hrg := hid (fun (x r : Int) (hx : I64 x) (hr : r ∈ [0, 1, 2, 2, 3, 3, x]) => (show I64 r from by
    unfold I64 at hx ⊢
    simp only [List.mem_cons, List.not_mem_nil, or_false] at hr
    rcases hr with rfl | rfl | rfl | rfl | rfl | rfl | rfl <;> omega))
  replace hS := hid hS
  clear D
  go_enter Tryz.func106, Tryz.ntmps106
  go_wp2_with (first
    | (go_at_call 140; (with_reducible refine (hN.out _ _ _ h5.out.1 h5.out.2 hS.out).mono ?_); rintro e w1 ⟨x, rfl, hx, hS'⟩; replace hS := hid hS'; clear hS')
    | (go_at_call 158; (have hS2 := hS.out.list [.int .i64 0, .int .i64 1, .int .i64 2, .int .i64 2, .int .i64 3, .int .i64 3, .int .i64 x] (by simp)); (with_reducible refine (hP.out _ _ _ _ [0, 1, 2, 2, 3, 3, x] (by simp) (by simp) hS2).mono ?_); rintro e w2 ⟨r, rfl, hr, hS'⟩; (have hr' := hid (hrg.out _ _ hx.out hr)); replace hS := hid hS'; clear hS' hS2 hr))
  go_ret
  exact ⟨_, rfl, hr', hS.out⟩
set_option maxHeartbeats 2000000 in
set_option maxRecDepth 100000 in
theorem Dg.word (D : Dg w0 S v l) (d n : Int) (hn : n ≤ 41) (hS : St w0.heap.size w0 (Asn.src S v l.length :: L) w) :
    Calls Tryz.prog 132 #[.pointer (some ⟨S, 0, none⟩), .int .i64 d, .int .i64 n] w fun e w' => ∃ u : List Nat, e = .returned (.string (wstr u)) ∧ Hid (u.length ≤ 41 ∧ (∀ x ∈ u, x < 3) ∧ u.length = n.toNat) ∧ St w0.heap.size w0 (Asn.src S v l.length :: L) w' := by
  have hN := hid (fun W L n (h0 : n ≤ 1000000000) hW => D.next (w := W) (L := L) n h0 hW)
  have hS0 := hid ((hS.newOwn [] 5 (by simp)).f1)
  clear hS D
  obtain ⟨N, hN0, hNn⟩ : ∃ N : Nat, N ≤ 41 ∧ N = n.toNat := ⟨n.toNat, by omega, rfl⟩
  go_enter Tryz.func132, Tryz.ntmps132
  go_wp2
  go_loopw [2, 7] (fun i o wr => ∃ (u : List Nat) (k : Int), i = .int .i64 k ∧ k ≤ 41 ∧ u.length + k.toNat = N ∧ Hid (∀ x ∈ u, x < 3) ∧ St w0.heap.size w0 (Asn.src S v l.length :: Asn.own w0.heap.size 5 o (wb u) :: L) wr) (fun i _ _ => (intOf i).toNat)
  case atStart => exact ⟨[], n, rfl, hn, by simp; omega, hid (fun x hx => by cases hx), hS0.out⟩
  case round =>
    obtain ⟨u, k, rfl, hk1, hk3, hu, rS⟩ := hrel
    clear hS0
    replace rS := hid rS
    by_cases hlt : 0 < k
    · have dk : decide (0 < k) = true := decide_eq_true hlt
      have hul : u.length ≤ 41 := by omega
      go_wp2_with (first
        | (go_at_call 130; (with_reducible refine (hN.out _ _ _ (by (repeat' split) <;> omega) rS.out).mono ?_); rintro e w1 ⟨x, rfl, hx, hS'⟩; (have hx3 : x < 3 := (by revert hx; (repeat' split) <;> omega)); (have e1 : wrap64 (48 + (x : Int)) = 48 + (x : Int) := w64 (by omega) (by omega)); replace rS := hid hS'.f1; clear hS' hx hN)
        | ((with_reducible refine gate (N := 22) rfl ?_); (refine St.app 22 5 (.int .u8 0) 1 Tryz.underlying22 info_u8 rfl (by omega) rfl _ _ rfl _ _ rfl rS.out (.int .u8 (48 + (x : Int))) rfl rfl u.length (wb_length u) (by omega) ?_; intro gn cap w2 hO2; replace rS := hid hO2.f1; clear hO2)))
      all_goals go_roundw
      all_goals first
        | (exact ⟨u ++ [x], k - 1, rfl, by omega, by simp; omega, hid (fun y hy => (List.mem_append.1 hy).elim (hu.out y) fun hy => by rw [List.mem_singleton.1 hy]; exact hx3), by rw [wb_snoc]; exact rS.out⟩)
        | (simp only [intOf]; omega)
    · have dk : decide (0 < k) = false := decide_eq_false hlt
      have hconv := rS.out.o1.conv
      have hun : u.length = n.toNat := by omega
      replace rS := hid rS.out.f1.drop
      go_wp2
      go_ret
      exact ⟨u, rfl, hid ⟨by omega, hu.out, hun⟩, rS.out⟩
end
end Go.Proofs.YthmcdfjijkecfaaGreat
