/- What the proof of FnPortraits leans on, part 26 of 26. -/
import Derived.Test.YtbmkkaecfogmoaaZFnPortraitsY
import Derived.Deep.CutBlock
/- The reference's number of a permutation. -/
namespace Go.Proofs.Ytbmkkaecfogmoaa
open Go.RowKit
set_option linter.unusedVariables false
set_option linter.unusedSimpArgs false
-- @LONG

theorem prms_in {d : Nat} (hd : d = 2 ∨ d = 3) {r : List Int} (h : r ∈ prms d) : (∀ x ∈ r, 0 ≤ x ∧ x ≤ (d : Int) - 1) ∧ r.Nodup := by
  rcases hd with rfl | rfl
  · have e : prms 2 = [[0, 1], [1, 0]] := rfl
    rw [e] at h
    simp only [List.mem_cons, List.not_mem_nil, or_false] at h
    rcases h with rfl | rfl <;> decide
  · have e : prms 3 = [[0, 1, 2], [0, 2, 1], [1, 0, 2], [1, 2, 0], [2, 0, 1], [2, 1, 0]] := rfl
    rw [e] at h
    simp only [List.mem_cons, List.not_mem_nil, or_false] at h
    rcases h with rfl | rfl | rfl | rfl | rfl | rfl <;> decide
theorem pnu_mem {row : List Int} (h : row.length = 2 ∨ row.length = 3) (hp : ¬ pnm row < 0) : row ∈ prms row.length := by
  have h1 := (idxP_any (fun p => decide (p = row)) (prms row.length) 0 (Int.le_refl _)).1 (by unfold pnm at hp; omega)
  rw [List.any_eq_true] at h1
  obtain ⟨p, hp, e⟩ := h1
  have : p = row := by simpa using e
  subst this; exact hp
theorem pnu_len {row : List Int} (h : ¬ (row.length = 2 ∨ row.length = 3)) : pnuAns row = (0, 2) := by
  unfold pnuAns pnI; rw [if_neg h, if_pos (by decide)]
theorem pnu_bad1 {row : List Int} (h : row.length = 2 ∨ row.length = 3) {x : Int} (hx : x ∈ row) (hn : ¬ (0 ≤ x ∧ x ≤ (row.length : Int) - 1)) : pnuAns row = (0, 2) := by
  unfold pnuAns
  rw [pnI_of h, if_pos]
  apply Classical.byContradiction
  intro hp
  exact hn ((prms_in h (pnu_mem h hp)).1 x hx)
theorem pnu_bad2 {row : List Int} (h : row.length = 2 ∨ row.length = 3) {i j : Nat} {x : Int} (hij : i < j) (hi : row[i]? = some x) (hj : row[j]? = some x) : pnuAns row = (0, 2) := by
  unfold pnuAns
  rw [pnI_of h, if_pos]
  apply Classical.byContradiction
  intro hp
  have hn := (prms_in h (pnu_mem h hp)).2
  obtain ⟨a1, b1⟩ := List.getElem?_eq_some_iff.1 hi
  obtain ⟨a2, b2⟩ := List.getElem?_eq_some_iff.1 hj
  exact absurd (b1.trans b2.symm) (List.pairwise_iff_getElem.1 hn i j a1 a2 hij)
theorem pnu_good {d : Nat} (hd : d = 2 ∨ d = 3) (F : Nat → Nat) (hF : ∀ x, x < d → F x < d) (hi : ∀ x y, x < y → y < d → F x ≠ F y) : ∃ i, i < cnt d ∧ pnuAns ((List.range d).map fun x => ((F x : Nat) : Int)) = (((i : Nat) : Int), 0) ∧ ∀ x, x < d → pim d i x = F x := by
  have key : ∃ i, i < cnt d ∧ pnm ((List.range d).map fun x => ((F x : Nat) : Int)) = (i : Nat) ∧ ∀ x, x < d → pim d i x = F x := by
    rcases hd with rfl | rfl
    · obtain ⟨i, h1, h2, h3, h4⟩ := pq_two _ _ (hF 0 (by omega)) (hF 1 (by omega)) (hi 0 1 (by omega) (by omega))
      refine ⟨i, h1, h2, fun x hx => ?_⟩
      have : x = 0 ∨ x = 1 := by omega
      rcases this with rfl | rfl
      · exact h3
      · exact h4
    · obtain ⟨i, h1, h2, h3, h4, h5⟩ := pq_three _ _ _ (hF 0 (by omega)) (hF 1 (by omega)) (hF 2 (by omega)) (hi 0 1 (by omega) (by omega)) (hi 0 2 (by omega) (by omega)) (hi 1 2 (by omega) (by omega))
      refine ⟨i, h1, h2, fun x hx => ?_⟩
      have : x = 0 ∨ x = 1 ∨ x = 2 := by omega
      rcases this with rfl | rfl | rfl
      · exact h3
      · exact h4
      · exact h5
  obtain ⟨i, h1, h2, h3⟩ := key
  refine ⟨i, h1, ?_, h3⟩
  unfold pnuAns
  rw [pnI_of (by simpa using hd), h2, if_neg (by omega)]
set_option maxHeartbeats 8000000 in
set_option maxRecDepth 100000 in
theorem specPnu_any (w : World) (b0 : Nat) (v : Value) (row : List Int) (hO : Own w b0 2 v (ints row)) (hll : row.length < 1000000) :
    Calls Try.prog 44 #[v] w fun e w' => e = .returned (.tuple #[.int .i64 (pnuAns row).1, .int .i64 (pnuAns row).2]) ∧ Below w.heap.size w w' := by
  have hil := ints_length row
  obtain ⟨A, ca, rfl, _, _⟩ := hO.form
  rw [hil] at hO ⊢
  have hS := hid (St.start w)
  by_cases hd : row.length = 2 ∨ row.length = 3
  · have hw := hid (fun W (hW : Below w.heap.size w W) => (hO.mono (Nat.zero_le _)).below hW)
    have hcell := hid (fun W (hW : Below w.heap.size w W) i x (hx : row[i]? = some x) => (show ∃ g, A = some ⟨g, 0, none⟩ ∧ W.cell? ⟨g, i, none⟩ = some (.int .i64 x) from by
      have hO2 := hw.out W hW
      obtain ⟨g, c, he, _, _⟩ := hO2.blk (fun e => by have h1 := congrArg List.length e; rw [ints_length, List.length_nil] at h1; have := (List.getElem?_eq_some_iff.1 hx).1; omega)
      injection he with e1 e2 e3
      subst e1
      exact ⟨g, rfl, hO2.cellAt i _ (by simp [ints, hx])⟩))
    have hIn := hid (fun x W => l01In_any x 0 ((row.length : Int) - 1) (decide (0 ≤ x ∧ x ≤ (row.length : Int) - 1)) rfl W)
    have hb1 := hid (fun x hx hn => pnu_bad1 (row := row) hd (x := x) hx hn)
    have hb2 := hid (fun i j x hij hi hj => pnu_bad2 (row := row) hd (i := i) (j := j) (x := x) hij hi hj)
    have hgd := hid (fun (hall : ∀ x ∈ row, 0 ≤ x ∧ x ≤ (row.length : Int) - 1) (hinj : ∀ i j, i < j → j < row.length → (row.getD i 0).toNat ≠ (row.getD j 0).toNat) => (show ∃ i, i < cnt row.length ∧ pnuAns row = (((i : Nat) : Int), 0) ∧ ∀ x, x < row.length → pim row.length i x = (row.getD x 0).toNat from by
      have hF : ∀ x, x < row.length → 0 ≤ row.getD x 0 ∧ row.getD x 0 ≤ (row.length : Int) - 1 := fun x hx => by
        rw [List.getD_eq_getElem?_getD, List.getElem?_eq_getElem hx]
        exact hall _ (List.getElem_mem hx)
      obtain ⟨i, h1, h2, h3⟩ := pnu_good hd (fun x => (row.getD x 0).toNat) (fun x hx => by have := hF x hx; omega) hinj
      refine ⟨i, h1, ?_, h3⟩
      have e : ((List.range row.length).map fun x => (((row.getD x 0).toNat : Nat) : Int)) = row := by
        apply List.ext_getElem?
        intro j
        rw [List.getElem?_map]
        by_cases hj : j < row.length
        · rw [List.getElem?_range hj, List.getElem?_eq_getElem hj]
          have := hF j hj
          rw [List.getD_eq_getElem?_getD, List.getElem?_eq_getElem hj] at this
          show some ((((row.getD j 0).toNat : Nat) : Int)) = _
          rw [List.getD_eq_getElem?_getD, List.getElem?_eq_getElem hj]
          have h0 : 0 ≤ row[j] := this.1
          show some (((row[j].toNat : Nat) : Int)) = some row[j]
          rw [Int.toNat_of_nonneg h0]
        · rw [List.getElem?_eq_none (by simpa using hj), List.getElem?_eq_none (by simpa using hj)]; rfl
      rw [e] at h2
      exact h2))
    have hnu := hid (fun (i : Nat) (hi : i < cnt row.length) (F : Nat → Nat) (hF : ∀ x, x < row.length → pim row.length i x = F x) W => (by
      have h2 := l03Number_lit row.length i hd hi _ _ _ rfl rfl rfl W
      have e : #[Value.int .u8 (pim row.length i 0 : Nat), .int .u8 (pim row.length i 1 : Nat), .int .u8 (pim row.length i 2 : Nat)] = up3 F row.length := by
        rcases hd with h | h
        · rw [h] at hi hF ⊢
          unfold up3; rw [pim_22 i hi, hF 0 (by omega), hF 1 (by omega)]; rfl
        · rw [h] at hi hF ⊢
          unfold up3; rw [hF 0 (by omega), hF 1 (by omega), hF 2 (by omega)]; rfl
      rw [e] at h2
      exact h2 : Calls Try.prog 144 #[.int .i64 row.length, .agg (up3 F row.length).toList.toArray] W fun e w' => e = .returned (.int .i64 (i : Nat)) ∧ Below W.heap.size W w'))
    obtain ⟨F, hFe⟩ : ∃ F : Nat → Nat, F = fun x => (row.getD x 0).toNat := ⟨_, rfl⟩
    have hFx := hid (fun i => (show (row.getD i 0).toNat = F i by rw [hFe]))
    clear hFe
    simp only [hFx.out] at hgd
    have hget := hid (fun i (hi : i < row.length) => (show row[i]? = some (row.getD i 0) by rw [List.getD_eq_getElem?_getD, List.getElem?_eq_getElem hi]; rfl))
    generalize hR : pnuAns row = R at *
    clear hR
    have hl23 : row.length = 2 ∨ row.length = 3 := hd
    have e1 : IntKind.i64.wrap ((row.length : Int) - 1) = (row.length : Int) - 1 := IntWalk.i64_in _ (by omega)
    have e1' : wrap64 ((row.length : Int) - 1) = (row.length : Int) - 1 := w64 (by omega) (by omega)
    replace hO := hid hO
    have hge := hid hS.out.le
    generalize hN : row.length = N at *
    replace hN := hid hN
    have hd3 : 2 ≤ N ∧ N ≤ 3 := by omega
    by_cases hN2 : N = 2
    · have dA : ((N : Int) != 2) = false := by simp; omega
      have dA' : (N != 2) = false := by simpa using hN2
      replace hN2 := hid hN2; replace hl23 := hid hl23
      go_enter Try.func44, Try.ntmps44
      go_upto_region 4 with (fail)
      have hS4 := ((hS.out.newBlk #[.int .u8 0, .int .u8 0, .int .u8 0] 24).newBlk #[.bool false, .bool false, .bool false] 150)
      simp only [heap_alloc_size] at hS4
      replace hS4 := hid (show St w.heap.size w [Asn.blk (w.heap.size + 1) (mt3 F 0) 150, Asn.blk w.heap.size (up3 F 0) 24] _ from hS4)
      clear hS
      generalize World.alloc (World.alloc w _) _ = w3 at *
      go_wp2
      go_loopw [6] (fun i wr => ∃ x : Nat, x ≤ N ∧ i = .int .i64 x ∧ Hid ((∀ y, y < x → 0 ≤ row.getD y 0 ∧ row.getD y 0 ≤ (N : Int) - 1) ∧ ∀ y z, y < z → z < x → F y ≠ F z) ∧ St w.heap.size w [Asn.blk (w.heap.size + 1) (mt3 F x) 150, Asn.blk w.heap.size (up3 F x) 24] wr) (fun i _ => N - (intOf i).toNat)
      case atStart => exact ⟨0, Nat.zero_le _, rfl, hid ⟨fun y h => absurd h (Nat.not_lt_zero _), fun y z _ h => absurd h (Nat.not_lt_zero _)⟩, hS4.out⟩
      case round =>
        obtain ⟨x, hx, rfl, hdx, rS⟩ := hrel
        clear hS4
        by_cases hlx : x < N
        · have dx : decide ((x : Int) < (N : Int)) = true := decide_eq_true (by omega)
          have hgx := hget.out x hlx
          have hFv := hFx.out x
          have hFy := hid (fun y (hy : y < x) => (show row[y]? = some (row.getD y 0) from hget.out y (by omega)))
          obtain ⟨ga, hA, c0⟩ := hcell.out wr rS.bel _ _ hgx
          subst hA
          have hcx := hid (fun W (hW : Below w.heap.size w W) => (show W.cell? ⟨ga, x, none⟩ = some (.int .i64 (row.getD x 0)) from by
            obtain ⟨g', hA', c⟩ := hcell.out W hW _ _ hgx
            injection hA' with e
            injection e with e1
            subst e1; exact c))
          have hmem := hid (List.mem_of_getElem? hgx)
          have hb2x := hid (fun y (hy : y < x) (hyr : 0 ≤ row.getD y 0) (hxr : 0 ≤ row.getD x 0) (e : F y = F x) => hb2.out y x (row.getD x 0) hy (by rw [hget.out y (by omega)]; exact congrArg some ((Int.toNat_of_nonneg hyr).symm.trans (by rw [hFx.out y, e, ← hFx.out x]; exact Int.toNat_of_nonneg hxr))) (hget.out x hlx))
          have hxI := hid (hIn.out (row.getD x 0))
          have hb1x := hid (hb1.out (row.getD x 0) hmem.out)
          have hdy := hid (fun y (hy : y < x) => (hdx.out.1 y hy).1)
          have hdx3 := hid (fun (h : 0 ≤ row.getD x 0 ∧ row.getD x 0 ≤ (N : Int) - 1) y (hy : y < x + 1) => (show 0 ≤ row.getD y 0 ∧ row.getD y 0 ≤ (N : Int) - 1 from by
            by_cases e : y = x
            · subst e; exact h
            · exact hdx.out.1 y (by omega)))
          have x0 : (0 : Int) ≤ (x : Int) := Int.natCast_nonneg _
          have x1 : (x : Int) < (N : Int) := by omega
          have x2 : (x : Int) < 3 := by omega
          generalize row.getD x 0 = xv at *
          by_cases hr : 0 ≤ xv ∧ xv ≤ (N : Int) - 1
          · rw [decide_eq_true hr] at hxI
            have hdx3' := hid (hdx3.out hr)
            obtain ⟨yv, rfl⟩ := Int.eq_ofNat_of_zero_le hr.1
            have hFe : F x = yv := by rw [← hFv]; rfl
            have hy3 : yv < 3 := by omega
            have y0 : (0 : Int) ≤ (yv : Int) := Int.natCast_nonneg _
            have y1 : (yv : Int) < 3 := by omega
            have c1 := (cell_of_row _ _ yv _ _ _ rS.k0).trans (mt3_at F x yv hy3)
            have hmi := hid (mt_iff F x yv)
            have hms := hid (mt3_set F x (by omega))
            have hus := hid (up3_set F x (by omega))
            rw [hFe] at hms hus
            have s3 : IntKind.u8.wrap (yv : Int) = (yv : Int) := u8_in _ (by omega)
            have s4 : ((yv : Int) % 256) = (yv : Int) := by omega
            clear hdx3 hFv hb1x
            cases hb : mt F x yv with
            | true =>
              rw [hb] at c1
              have hH := hid (show R = (0, 2) from by
                obtain ⟨y, hy, e⟩ := hmi.out.1 hb
                exact hb2x.out y hy (hdy.out y hy) hr.1 (e.trans hFe.symm))
              replace rS := hid rS
              clear hb hms hus hmi hb2x
              go_wp2_with (
                (go_at_call 91; (with_reducible refine (hxI.out _).mono ?_); rintro e w' ⟨rfl, rfl⟩))
              go_ret2
              exact ⟨by rw [hH.out]; rfl, rS.out.bel⟩
            | false =>
              rw [hb] at c1
              have hdx2 := hid (show ∀ y z, y < z → z < x + 1 → F y ≠ F z from fun y z hyz hz e => by
                by_cases ez : z = x
                · subst ez
                  have := hmi.out.2 ⟨y, hyz, e.trans hFe⟩
                  rw [hb] at this; cases this
                · exact hdx.out.2 y z hyz (by omega) e)
              have f1 := frozen_of_row _ _ yv _ _ rS.k0
              have rS2 := rS.setBlk (Nat.le_succ _) yv (.bool true)
              rw [hms.out] at rS2
              have c3 := hcx.out _ rS2.bel
              replace rS2 := rS2.f1
              have c2 := (cell_of_row _ _ x _ _ _ rS2.k0).trans (up3_at F x (by omega))
              have f2 := frozen_of_row _ _ x _ _ rS2.k0
              have rS3 := rS2.setBlk (Nat.le_refl _) x (.int .u8 (yv : Nat))
              rw [hus.out] at rS3
              replace rS3 := hid rS3.f1
              clear rS2 rS hb hms hus hmi hb2x
              go_wp2_with (
                (go_at_call 91; (with_reducible refine (hxI.out _).mono ?_); rintro e w' ⟨rfl, rfl⟩))
              go_roundw
              case rel => exact ⟨x + 1, by omega, by go_num, hid ⟨hdx3'.out, hdx2.out⟩, rS3.out⟩
              case measure => simp [intOf]; omega
          · rw [decide_eq_false hr] at hxI
            have hH := hid (hb1x.out hr)
            replace rS := hid rS
            clear hb2x hb1x
            go_wp2_with (
              (go_at_call 91; (with_reducible refine (hxI.out _).mono ?_); rintro e w' ⟨rfl, rfl⟩))
            go_ret2
            exact ⟨by rw [hH.out]; rfl, rS.out.bel⟩
        · obtain rfl : x = N := by omega
          have dx : decide ((x : Int) < (x : Int)) = false := decide_eq_false (by omega)
          obtain ⟨i, hi, hRi, hpi⟩ := hgd.out (fun y hy => by
            obtain ⟨a, ha⟩ := List.getElem?_of_mem hy
            have hax : a < x := by have := (List.getElem?_eq_some_iff.1 ha).1; have := hN.out; omega
            have h1 := hdx.out.1 a hax
            have h2 := hget.out a hax
            rw [ha] at h2
            rw [Option.some.inj h2]; exact h1) (fun a b hab hb => hdx.out.2 a b hab hb)
          have hnui := hid (hnu.out i hi F hpi)
          have hrg := hid (show wr.rangeAt w.heap.size 0 (up3 F x).toList from fun j v hv => (cell_of_row _ _ (0 + j) _ _ _ rS.k1).trans (by rw [Nat.zero_add]; simpa using hv))
          have hrl := hid (show (up3 F x).toList.length = 3 from rfl)
          replace rS := hid rS
          replace hRi := hid hRi
          clear hpi
          generalize (up3 F x).toList = RL at *
          go_wp2_with (first
            | ((with_reducible refine gate (N := 54) rfl ?_); refine wpList_load_mid rfl 24 _ rfl w.heap.size 0 rfl _ _ hrg.out Try.underlying24 rfl (by rw [hrl.out]; exact sz_b3) ?_)
            | (go_at_call 144; (with_reducible refine (hnui.out _).mono ?_); rintro e w4 ⟨rfl, hb⟩; replace rS := hid (rS.out.call hb); clear hb))
          go_ret2
          exact ⟨by rw [hRi.out]; rfl, rS.out.bel⟩
    · have dA : ((N : Int) != 2) = true := by simp; omega
      have dA' : (N != 2) = true := by simpa using hN2
      have dB : ((N : Int) != 3) = false := by simp; omega
      have dB' : (N != 3) = false := by simp; omega
      replace hN2 := hid hN2; replace hl23 := hid hl23
      go_enter Try.func44, Try.ntmps44
      go_upto_region 4 with (fail)
      have hS4 := ((hS.out.newBlk #[.int .u8 0, .int .u8 0, .int .u8 0] 24).newBlk #[.bool false, .bool false, .bool false] 150)
      simp only [heap_alloc_size] at hS4
      replace hS4 := hid (show St w.heap.size w [Asn.blk (w.heap.size + 1) (mt3 F 0) 150, Asn.blk w.heap.size (up3 F 0) 24] _ from hS4)
      clear hS
      generalize World.alloc (World.alloc w _) _ = w3 at *
      go_wp2
      go_loopw [6] (fun i wr => ∃ x : Nat, x ≤ N ∧ i = .int .i64 x ∧ Hid ((∀ y, y < x → 0 ≤ row.getD y 0 ∧ row.getD y 0 ≤ (N : Int) - 1) ∧ ∀ y z, y < z → z < x → F y ≠ F z) ∧ St w.heap.size w [Asn.blk (w.heap.size + 1) (mt3 F x) 150, Asn.blk w.heap.size (up3 F x) 24] wr) (fun i _ => N - (intOf i).toNat)
      case atStart => exact ⟨0, Nat.zero_le _, rfl, hid ⟨fun y h => absurd h (Nat.not_lt_zero _), fun y z _ h => absurd h (Nat.not_lt_zero _)⟩, hS4.out⟩
      case round =>
        obtain ⟨x, hx, rfl, hdx, rS⟩ := hrel
        clear hS4
        by_cases hlx : x < N
        · have dx : decide ((x : Int) < (N : Int)) = true := decide_eq_true (by omega)
          have hgx := hget.out x hlx
          have hFv := hFx.out x
          have hFy := hid (fun y (hy : y < x) => (show row[y]? = some (row.getD y 0) from hget.out y (by omega)))
          obtain ⟨ga, hA, c0⟩ := hcell.out wr rS.bel _ _ hgx
          subst hA
          have hcx := hid (fun W (hW : Below w.heap.size w W) => (show W.cell? ⟨ga, x, none⟩ = some (.int .i64 (row.getD x 0)) from by
            obtain ⟨g', hA', c⟩ := hcell.out W hW _ _ hgx
            injection hA' with e
            injection e with e1
            subst e1; exact c))
          have hmem := hid (List.mem_of_getElem? hgx)
          have hb2x := hid (fun y (hy : y < x) (hyr : 0 ≤ row.getD y 0) (hxr : 0 ≤ row.getD x 0) (e : F y = F x) => hb2.out y x (row.getD x 0) hy (by rw [hget.out y (by omega)]; exact congrArg some ((Int.toNat_of_nonneg hyr).symm.trans (by rw [hFx.out y, e, ← hFx.out x]; exact Int.toNat_of_nonneg hxr))) (hget.out x hlx))
          have hxI := hid (hIn.out (row.getD x 0))
          have hb1x := hid (hb1.out (row.getD x 0) hmem.out)
          have hdy := hid (fun y (hy : y < x) => (hdx.out.1 y hy).1)
          have hdx3 := hid (fun (h : 0 ≤ row.getD x 0 ∧ row.getD x 0 ≤ (N : Int) - 1) y (hy : y < x + 1) => (show 0 ≤ row.getD y 0 ∧ row.getD y 0 ≤ (N : Int) - 1 from by
            by_cases e : y = x
            · subst e; exact h
            · exact hdx.out.1 y (by omega)))
          have x0 : (0 : Int) ≤ (x : Int) := Int.natCast_nonneg _
          have x1 : (x : Int) < (N : Int) := by omega
          have x2 : (x : Int) < 3 := by omega
          generalize row.getD x 0 = xv at *
          by_cases hr : 0 ≤ xv ∧ xv ≤ (N : Int) - 1
          · rw [decide_eq_true hr] at hxI
            have hdx3' := hid (hdx3.out hr)
            obtain ⟨yv, rfl⟩ := Int.eq_ofNat_of_zero_le hr.1
            have hFe : F x = yv := by rw [← hFv]; rfl
            have hy3 : yv < 3 := by omega
            have y0 : (0 : Int) ≤ (yv : Int) := Int.natCast_nonneg _
            have y1 : (yv : Int) < 3 := by omega
            have c1 := (cell_of_row _ _ yv _ _ _ rS.k0).trans (mt3_at F x yv hy3)
            have hmi := hid (mt_iff F x yv)
            have hms := hid (mt3_set F x (by omega))
            have hus := hid (up3_set F x (by omega))
            rw [hFe] at hms hus
            have s3 : IntKind.u8.wrap (yv : Int) = (yv : Int) := u8_in _ (by omega)
            have s4 : ((yv : Int) % 256) = (yv : Int) := by omega
            clear hdx3 hFv hb1x
            cases hb : mt F x yv with
            | true =>
              rw [hb] at c1
              have hH := hid (show R = (0, 2) from by
                obtain ⟨y, hy, e⟩ := hmi.out.1 hb
                exact hb2x.out y hy (hdy.out y hy) hr.1 (e.trans hFe.symm))
              replace rS := hid rS
              clear hb hms hus hmi hb2x
              go_wp2_with (
                (go_at_call 91; (with_reducible refine (hxI.out _).mono ?_); rintro e w' ⟨rfl, rfl⟩))
              go_ret2
              exact ⟨by rw [hH.out]; rfl, rS.out.bel⟩
            | false =>
              rw [hb] at c1
              have hdx2 := hid (show ∀ y z, y < z → z < x + 1 → F y ≠ F z from fun y z hyz hz e => by
                by_cases ez : z = x
                · subst ez
                  have := hmi.out.2 ⟨y, hyz, e.trans hFe⟩
                  rw [hb] at this; cases this
                · exact hdx.out.2 y z hyz (by omega) e)
              have f1 := frozen_of_row _ _ yv _ _ rS.k0
              have rS2 := rS.setBlk (Nat.le_succ _) yv (.bool true)
              rw [hms.out] at rS2
              have c3 := hcx.out _ rS2.bel
              replace rS2 := rS2.f1
              have c2 := (cell_of_row _ _ x _ _ _ rS2.k0).trans (up3_at F x (by omega))
              have f2 := frozen_of_row _ _ x _ _ rS2.k0
              have rS3 := rS2.setBlk (Nat.le_refl _) x (.int .u8 (yv : Nat))
              rw [hus.out] at rS3
              replace rS3 := hid rS3.f1
              clear rS2 rS hb hms hus hmi hb2x
              go_wp2_with (
                (go_at_call 91; (with_reducible refine (hxI.out _).mono ?_); rintro e w' ⟨rfl, rfl⟩))
              go_roundw
              case rel => exact ⟨x + 1, by omega, by go_num, hid ⟨hdx3'.out, hdx2.out⟩, rS3.out⟩
              case measure => simp [intOf]; omega
          · rw [decide_eq_false hr] at hxI
            have hH := hid (hb1x.out hr)
            replace rS := hid rS
            clear hb2x hb1x
            go_wp2_with (
              (go_at_call 91; (with_reducible refine (hxI.out _).mono ?_); rintro e w' ⟨rfl, rfl⟩))
            go_ret2
            exact ⟨by rw [hH.out]; rfl, rS.out.bel⟩
        · obtain rfl : x = N := by omega
          have dx : decide ((x : Int) < (x : Int)) = false := decide_eq_false (by omega)
          obtain ⟨i, hi, hRi, hpi⟩ := hgd.out (fun y hy => by
            obtain ⟨a, ha⟩ := List.getElem?_of_mem hy
            have hax : a < x := by have := (List.getElem?_eq_some_iff.1 ha).1; have := hN.out; omega
            have h1 := hdx.out.1 a hax
            have h2 := hget.out a hax
            rw [ha] at h2
            rw [Option.some.inj h2]; exact h1) (fun a b hab hb => hdx.out.2 a b hab hb)
          have hnui := hid (hnu.out i hi F hpi)
          have hrg := hid (show wr.rangeAt w.heap.size 0 (up3 F x).toList from fun j v hv => (cell_of_row _ _ (0 + j) _ _ _ rS.k1).trans (by rw [Nat.zero_add]; simpa using hv))
          have hrl := hid (show (up3 F x).toList.length = 3 from rfl)
          replace rS := hid rS
          replace hRi := hid hRi
          clear hpi
          generalize (up3 F x).toList = RL at *
          go_wp2_with (first
            | ((with_reducible refine gate (N := 54) rfl ?_); refine wpList_load_mid rfl 24 _ rfl w.heap.size 0 rfl _ _ hrg.out Try.underlying24 rfl (by rw [hrl.out]; exact sz_b3) ?_)
            | (go_at_call 144; (with_reducible refine (hnui.out _).mono ?_); rintro e w4 ⟨rfl, hb⟩; replace rS := hid (rS.out.call hb); clear hb))
          go_ret2
          exact ⟨by rw [hRi.out]; rfl, rS.out.bel⟩
  · have hH := hid (pnu_len hd)
    have d2 : ((row.length : Int) != 2) = true := by simp; omega
    have d3 : ((row.length : Int) != 3) = true := by simp; omega
    replace hO := hid hO
    clear hll
    generalize row.length = N at *
    generalize pnuAns row = R at *
    go_enter Try.func44, Try.ntmps44
    go_wp2
    go_ret2
    exact ⟨by rw [hH.out]; rfl, hS.out.bel⟩
end Go.Proofs.Ytbmkkaecfogmoaa

/- Draws of FnPortraits: inverses, level permutations, permutations. -/
namespace Go.Proofs.Ytbmkkaecfogmoaa
open Go.RowKit
set_option linter.unusedVariables false
set_option linter.unusedSimpArgs false
-- @LONG

set_option maxHeartbeats 2000000 in
set_option maxRecDepth 100000 in
theorem drInv_any (w : World) (v : Value) (l : List Nat) (hv : ArgB w v l) (hl : l.length ≤ 4096) :
    Calls Try.prog 38 #[v] w fun e w' => ∃ (d n : Int) (u : Value) (g : List Int), e = .returned (.tuple #[.int .i64 d, .int .i64 n, u]) ∧ Hid (-10 ≤ d ∧ d ≤ 10 ∧ -10 ≤ n ∧ n ≤ 10 ∧ g.length ≤ 50) ∧ Own w' w.heap.size 2 u (ints g) ∧ Below w.heap.size w w' := by
  have hdr := hid (drIsp_any w v l hv hl)
  obtain ⟨A, c, rfl, _⟩ := hv
  go_enter Try.func38, Try.ntmps38
  go_wp2_with (
    (go_at_call 130; (with_reducible refine (hdr.out).mono ?_); rintro e w1 ⟨d, n, u, g, rfl, hd, hO, hb⟩; replace hO := hid hO; replace hb := hid hb))
  go_ret3
  exact ⟨d, n, u, g, rfl, hd, hO.out, hb.out⟩
set_option maxHeartbeats 4000000 in
set_option maxRecDepth 100000 in
theorem drPnu_any (w : World) (v : Value) (l : List Nat) (hv : ArgB w v l) (hl : l.length ≤ 4096) :
    Calls Try.prog 42 #[v] w fun e w' => ∃ (u : Value) (g : List Int), e = .returned u ∧ Hid (g.length ≤ 50) ∧ Own w' w.heap.size 2 u (ints g) ∧ Below w.heap.size w w' := by
  have h23 := hid (fun (r : Int) (h : r ∈ [2, 3, (3 : Int)]) => (show ∃ d : Nat, r = d ∧ (d = 2 ∨ d = 3) from by
    simp only [List.mem_cons, List.not_mem_nil, or_false] at h
    rcases h with rfl | rfl | rfl
    · exact ⟨2, rfl, .inl rfl⟩
    · exact ⟨3, rfl, .inr rfl⟩
    · exact ⟨3, rfl, .inr rfl⟩))
  have hS := hid (St.start w)
  have hfr := hid (fun W L hW => Dg.from (w := w) (W := W) (L := L) hv hl hW)
  replace hv := hid hv
  obtain ⟨A, c, rfl, _⟩ := hv.out
  go_enter Try.func42, Try.ntmps42
  go_upto_region 3 with (first
    | (go_at_call 78; (with_reducible refine (hfr.out _ _ hS.out).mono ?_); rintro e w1 ⟨S, rfl, D, hS'⟩; replace hS := hid hS'; clear hS')
    | (go_at_call 133; (have hS2 := hS.out.list [.int .i64 2, .int .i64 3, .int .i64 3] (by simp)); (with_reducible refine (D.out.pick [2, 3, 3] (by simp) (by simp) hS2).mono ?_); rintro e w4 ⟨r, rfl, hr, hS'⟩; (obtain ⟨d, rfl, hd⟩ := h23.out r hr); replace hS := hid hS'; clear hS' hS2 hr))
  have hct := hid (fun W => l03Count_any d hd W)
  have hc6 : 0 < cnt d ∧ cnt d ≤ 6 := by rcases hd with rfl | rfl <;> decide
  have him := hid (fun k (hk : k < cnt d) W => (by have h := l03Images_any d k hd hk W; rw [row3] at h; exact h : Calls Try.prog 140 #[.int .i64 d, .int .i64 k] W fun e w' => e = .returned (.agg #[.int .u8 (pim d k 0 : Nat), .int .u8 (pim d k 1 : Nat), .int .u8 (pim d k 2 : Nat)]) ∧ Below W.heap.size W w'))
  have hpl := hid (fun k x (hk : k < cnt d) (hx : x < 3) => pim_256 d k x hd hk hx)
  have hd2 : 2 ≤ d ∧ d ≤ 3 := by omega
  have hrow := hid (fun k x (hx : x < 3) => (show #[Value.int .u8 (pim d k 0 : Nat), .int .u8 (pim d k 1 : Nat), .int .u8 (pim d k 2 : Nat)][x]? = some (.int .u8 (pim d k x : Nat)) from by
    have : x = 0 ∨ x = 1 ∨ x = 2 := by omega
    rcases this with rfl | rfl | rfl <;> rfl))
  replace hd := hid hd
  generalize cnt d = C at *
  go_upto_region 4 with (first
    | (go_at_call 141; (with_reducible refine (hct.out _).mono ?_); rintro e w' ⟨rfl, rfl⟩)
    | (go_at_call 132; (with_reducible refine (D.out.next _ (by omega) hS.out).mono ?_); rintro e w5 ⟨z, rfl, hz, hS'⟩; (have hz2 : z < C := by omega); replace hS := hid hS'; clear hS' hz)
    | (go_at_call 140; (with_reducible refine (him.out z hz2 _).mono ?_); rintro e w6 ⟨rfl, hb⟩; replace hS := hid (hS.out.call hb); clear hb))
  have hS2 := ((hS.out.newOwn [] 2 (by simp)).newBlk #[.int .u8 (pim d z 0 : Nat), .int .u8 (pim d z 1 : Nat), .int .u8 (pim d z 2 : Nat)] 24)
  simp only [heap_alloc_size, List.length_nil] at hS2
  have hrw := hid (hrow.out z)
  have hpz := hid (fun x hx => hpl.out z x hz2 hx)
  generalize #[Value.int .u8 (pim d z 0 : Nat), .int .u8 (pim d z 1 : Nat), .int .u8 (pim d z 2 : Nat)] = RW at *
  clear hS
  replace hS := hid hS2.f2.s1
  clear hS2
  generalize w6.heap.size = b6 at *
  generalize World.alloc (World.alloc w6 _) _ = w7 at *
  go_wp2
  go_loopw [6, 7] (fun o i wr => ∃ (x : Nat) (g : List Int), x ≤ d ∧ i = .int .i64 x ∧ g.length = x ∧ St w.heap.size w [Asn.src S (.slice A l.length c) l.length, Asn.own w.heap.size 2 o (ints g), Asn.blk (b6 + 1) RW 24] wr) (fun _ i _ => d - (intOf i).toNat)
  case atStart => exact ⟨0, [], Nat.zero_le _, rfl, rfl, hS.out⟩
  case round =>
    obtain ⟨x, g, hx, rfl, hgl, rS⟩ := hrel
    clear hS
    have hil := hid ((ints_length g).trans hgl)
    by_cases hlx : x < d
    · have dx : decide ((x : Int) < (d : Int)) = true := decide_eq_true (by omega)
      have c0 := (cell_of_row _ _ x _ _ _ rS.k2).trans (hrw.out x (by omega))
      have hpv := hpz.out x (by omega)
      have x0 : (0 : Int) ≤ (x : Int) := Int.natCast_nonneg _
      have x1 : (x : Int) < 3 := by omega
      generalize pim d z x = pv at *
      have s1 : IntKind.i64.wrap (pv : Int) = (pv : Int) := IntWalk.i64_in _ (by omega)
      replace rS := hid rS
      go_wp2_with (
        ((with_reducible refine gate (N := 31) rfl ?_); (refine St.app 29 2 (.int .i64 0) 8 Try.underlying29 info_i64 rfl (by omega) rfl _ _ rfl _ _ rfl rS.out.f1 _ rfl rfl x hil.out (by omega) ?_; intro gn cap w8 hO2; replace rS := hid hO2.f1; clear hO2)))
      go_roundw
      case rel => exact ⟨x + 1, g ++ [(pv : Int)], by omega, by go_num, by simp; omega, by rw [ints_snoc]; exact rS.out⟩
      case measure => simp [intOf]; omega
    · obtain rfl : x = d := by omega
      have dx : decide ((x : Int) < (x : Int)) = false := decide_eq_false (by omega)
      replace rS := hid rS.f2.drop
      obtain ⟨ga, ca, rfl, _, _⟩ := rS.out.o1.blk (fun e => by have h1 := congrArg List.length e; rw [hil.out, List.length_nil] at h1; omega)
      rw [hil.out] at rS ⊢
      go_upto_region 9 with (
        (go_at_call 132; (with_reducible refine (D.out.next 12 (by omega) rS.out).mono ?_); rintro e w2 ⟨z2, rfl, _, hS'⟩; replace rS := hid hS'; clear hS'))
      have i0 : (0 : Int) < (x : Int) := by omega
      by_cases z0 : z2 = 0
      · subst z0
        obtain ⟨c0, hc0⟩ : ∃ c0, (ints g)[0]? = some c0 := ⟨_, List.getElem?_eq_getElem (by rw [hil.out]; omega)⟩
        go_wp2_with (
          (go_at_call 142; (with_reducible refine (D.out.near 2 (by omega) (by omega) rS.out).mono ?_); rintro e w3 ⟨r, rfl, hr, hS'⟩; (have co := Own.cellAt hS'.o1 0 c0 hc0); (have fo := Own.frozenAt hS'.o1 hil.out 0); replace rS := hid (hS'.f1.setOwn hil.out 0 (.int .i64 r) (by omega)).f1; clear hS' hr))
        go_ret
        exact ⟨_, g.set 0 r, rfl, hid (by rw [List.length_set]; omega), by rw [show ints (g.set 0 r) = (ints g).set 0 (.int .i64 r) from by simp [ints, List.map_set]]; exact rS.out.o1, rS.out.bel⟩
      · have d0 : ((z2 : Int) == 0) = false := by simp; omega
        by_cases z1 : z2 = 1
        · subst z1
          go_wp2_with (
            ((with_reducible refine gate (N := 44) rfl ?_); (refine St.app 29 2 (.int .i64 0) 8 Try.underlying29 info_i64 rfl (by omega) rfl _ _ rfl _ _ rfl rS.out.f1 _ rfl rfl x hil.out (by omega) ?_; intro gn cap w3 hO2; replace rS := hid hO2.f1; clear hO2)))
          go_ret
          exact ⟨_, g ++ [3], rfl, hid (by simp; omega), by rw [ints_snoc]; exact rS.out.o1, rS.out.bel⟩
        · have d1 : ((z2 : Int) == 1) = false := by simp; omega
          go_wp2
          go_ret
          exact ⟨_, g, rfl, hid (by omega), rS.out.o1, rS.out.bel⟩
set_option maxHeartbeats 4000000 in
set_option maxRecDepth 100000 in
theorem drPop_any (w : World) (v : Value) (l : List Nat) (hv : ArgB w v l) (hl : l.length ≤ 4096) :
    Calls Try.prog 36 #[v] w fun e w' => ∃ (d n : Int) (u : Value) (g : List Int), e = .returned (.tuple #[.int .i64 d, .int .i64 n, u]) ∧ Hid (-10 ≤ d ∧ d ≤ 10 ∧ -10 ≤ n ∧ n ≤ 10 ∧ g.length ≤ 300) ∧ Own w' w.heap.size 2 u (ints g) ∧ Below w.heap.size w w' := by
  have hdr := hid (fun W (hW : Below w.heap.size w W) => drIsp_any W v l (hv.below hW) hl)
  have hS0 := hid (St.start w)
  have hvb := hid (fun W (hW : Below w.heap.size w W) => hv.below hW)
  have hl2 : (3 :: l).length ≤ 5000 := by simp; omega
  have hby : ∀ x ∈ 3 :: l, x < 256 := fun x hx => by
    rcases List.mem_cons.1 hx with rfl | hx
    · decide
    · obtain ⟨A, c, _, ⟨_, h⟩ | ⟨a, _, h⟩⟩ := hv
      · rw [h] at hx; cases hx
      · obtain ⟨i, hi⟩ := List.getElem?_of_mem hx
        exact (h i x hi).1
  have hfr := hid (fun b w1 v1 (h : Own w1 b 5 v1 ([.int .u8 3] ++ bts l)) => (Dg.from5 (w := w1) (W := w1) (L := []) (Own.argB (l := 3 :: l) h hby) hl2 (St.start w1)))
  clear hl2 hby
  replace hv := hid hv
  obtain ⟨A, c, rfl, _⟩ := hv.out
  go_enter Try.func36, Try.ntmps36
  go_upto_region 3 with (first
    | (go_at_call 130; (with_reducible refine (hdr.out _ (Below.refl _ _)).mono ?_); rintro e w4 ⟨d, n, u, g, rfl, hd, hO, hb⟩; replace hS0 := hid ((hS0.out.callOwn hb hO).newOwn [.int .u8 3] 5 (by simp)); clear hb hO)
    | ((with_reducible refine gate (N := 21) rfl ?_); refine St.appB rfl _ _ rfl _ _ rfl hS0.out _ l rfl (hvb.out _ hS0.out.bel) (by omega) (by simp) ?_; intro v1 w1 hS'; replace hS0 := hid hS'; clear hS')
    | (go_at_call 78; (with_reducible refine (hfr.out _ _ _ hS0.out.o0).mono ?_); rintro e w2 ⟨S, rfl, D, hS'⟩; have hS := hid hS'; clear hS'))
  have hU := hid (hS0.out.o1)
  have hB1 := hid hS0.out.bel
  clear hS0 hvb hfr hdr
  have hdb := hd.out
  have hip := hid (fun W b h => specIsP_any W d n b u g h (by omega))
  by_cases hD : IsD d n ∧ IsP d.toNat n.toNat g
  · rw [decide_eq_true hD] at hip
    obtain ⟨hD1, hgP⟩ := hD
    obtain ⟨d, n, rfl, rfl, hd23, hn1, hn4⟩ := hD1.nat
    have hgP : IsP d n g := hgP
    have hpe := hid (fun W b h => l03Permutation_any W d n hd23 hn4 b u g h hgP)
    have hN5 := pw5 (n := n) hd23 (by omega)
    have hN1 := pw_pos d (by omega) n
    have hPl : ((prtP d g n).map Int.ofNat).length = pw d n := by rw [List.length_map, prtP, pmF_length]
    have hnp := hid (nats_ints (prtP d g n))
    rw [hnp.out] at hpe
    generalize (prtP d g n).map Int.ofNat = G at *
    generalize pw d n = N at *
    replace hgP := hid hgP; replace hD1 := hid hD1; replace hd23 := hid hd23
    have hil := hid ((ints_length G).trans hPl)
    go_upto_region 6 with (first
      | (go_at_call 30; (with_reducible refine (hip.out _ _ (hU.out.below hS.out.bel)).mono ?_); rintro e w3 ⟨rfl, hb⟩; replace hS := hid (hS.out.call hb); clear hip; clear hb)
      | (go_at_call 131; (with_reducible refine (hpe.out _ _ (hU.out.below hS.out.bel)).mono ?_); rintro e w4 ⟨v6, rfl, hO6, hb⟩; replace hS := hid (hS.out.callOwn hb hO6).f1; clear hb hO6))
    obtain ⟨gp, cp, rfl, _, _⟩ := hS.out.o1.blk (fun e => by have h1 := congrArg List.length e; rw [hil.out, List.length_nil] at h1; omega)
    rw [hil.out] at hS ⊢
    have hend := hid (fun W (M : List Int) (hM : M.length = N) (h : St w1.heap.size w1 [Asn.src S v1 (3 :: l).length, Asn.own w1.heap.size 2 (.slice (some ⟨gp, 0, none⟩) N cp) (ints M)] W) => (show ∃ (d' n' : Int) (u' : Value) (g' : List Int), Ending.returned (.tuple #[.int .i64 d, .int .i64 n, .slice (some ⟨gp, 0, none⟩) N cp]) = .returned (.tuple #[.int .i64 d', .int .i64 n', u']) ∧ Hid (-10 ≤ d' ∧ d' ≤ 10 ∧ -10 ≤ n' ∧ n' ≤ 10 ∧ g'.length ≤ 300) ∧ Own W w.heap.size 2 u' (ints g') ∧ Below w.heap.size w W from
      ⟨d, n, _, M, rfl, hid (by omega), h.o1.mono hB1.out.size, hB1.out.trans (h.bel.mono hB1.out.size)⟩))
    go_upto_region 7 with (
      (go_at_call 132; (with_reducible refine (D.out.next 6 (by omega) hS.out).mono ?_); rintro e w5 ⟨z, rfl, _, hS'⟩; replace hS := hid hS'; clear hS'))
    have hat := hid (fun i (hi : i < N) => (show ∃ a, G[i]? = some a from ⟨_, List.getElem?_eq_getElem (by omega)⟩))
    by_cases z0 : z = 0
    · subst z0
      have mk1 : True := trivial
      go_upto_region 9 with (first
        | (go_at_call 132; clear mk1; (with_reducible refine (D.out.next (N : Int) (by omega) hS.out).mono ?_); rintro e w6 ⟨i, rfl, hi, hS'⟩; (have hiN : i < N := by omega); replace hS := hid hS'; clear hS' hi)
        | (go_at_call 132; (with_reducible refine (D.out.next (N : Int) (by omega) hS.out).mono ?_); rintro e w7 ⟨j, rfl, hj, hS'⟩; (have hjN : j < N := by omega); replace hS := hid hS'; clear hS' hj))
      obtain ⟨a, ha⟩ := hat.out i hiN
      obtain ⟨b, hb⟩ := hat.out j hjN
      have i0 : (0 : Int) ≤ (i : Int) := Int.natCast_nonneg _
      have i1 : (i : Int) < (N : Int) := by omega
      have j0 : (0 : Int) ≤ (j : Int) := Int.natCast_nonneg _
      have j1 : (j : Int) < (N : Int) := by omega
      have e1 : ∀ (M : List Int) (k : Nat) (x : Int), (ints M).set k (.int .i64 x) = ints (M.set k x) := fun M k x => by simp [ints, List.map_set]
      have c1 := hS.out.o1.cellAt i (.int .i64 a) (by simp [ints, ha])
      have c2 := hS.out.o1.cellAt j (.int .i64 b) (by simp [ints, hb])
      have f1 := Own.frozenAt hS.out.o1 hil.out i
      have hS2 := hS.out.f1.setOwn hil.out i (.int .i64 b) hiN
      rw [e1] at hS2
      have hl2 : (ints (G.set i b)).length = N := by rw [ints_length, List.length_set]; exact hPl
      obtain ⟨x3, h3⟩ : ∃ x3, (ints (G.set i b))[j]? = some x3 := ⟨_, List.getElem?_eq_getElem (by omega)⟩
      have c3 := hS2.o0.cellAt j x3 h3
      have f3 := Own.frozenAt hS2.o0 hl2 j
      have hS3 := hS2.setOwn hl2 j (.int .i64 a) hjN
      rw [e1] at hS3
      replace hS3 := hid hS3.f1
      clear hS hS2 h3
      go_wp2
      go_ret3
      exact hend.out _ _ (by rw [List.length_set, List.length_set]; exact hPl) hS3.out
    · have d0 : ((z : Int) == 0) = false := by simp; omega
      by_cases z1 : z = 1
      · subst z1
        go_upto_if 66 with (
          (go_at_call 132; (with_reducible refine (D.out.next 3 (by omega) hS.out).mono ?_); rintro e w6 ⟨y, rfl, _, hS'⟩; replace hS := hid hS'; clear hS'))
        by_cases y0 : y = 0
        · subst y0
          obtain ⟨a, ha⟩ := hat.out 0 (by omega)
          have i1 : (0 : Int) < (N : Int) := by omega
          go_wp2_with (
            (go_at_call 133; (have hS2 := hS.out.list [.int .i64 (-1), .int .i64 0, .int .i64 (N : Int)] (by simp)); (with_reducible refine (D.out.pick [-1, 0, (N : Int)] (by simp) (by simp) hS2).mono ?_); rintro e w7 ⟨r, rfl, hr, hS'⟩; (have co := Own.cellAt hS'.o1 0 (.int .i64 a) (by simp [ints, ha])); (have fo := Own.frozenAt hS'.o1 hil.out 0); replace hS := hid (hS'.f1.setOwn hil.out 0 (.int .i64 r) (by omega)).f1; clear hS' hS2 hr))
          go_ret3
          exact hend.out _ (G.set 0 r) (by rw [List.length_set]; exact hPl) (by rw [show ints (G.set 0 r) = (ints G).set 0 (.int .i64 r) from by simp [ints, List.map_set]]; exact hS.out)
        · have dy : ((y : Int) == 0) = false := by simp; omega
          go_wp2
          go_ret3
          exact hend.out _ _ hPl hS.out
      · have d1 : ((z : Int) == 1) = false := by simp; omega
        go_wp2
        go_ret3
        exact hend.out _ _ hPl hS.out
  · rw [decide_eq_false hD] at hip
    clear hD
    go_wp2_with (
      (go_at_call 30; (with_reducible refine (hip.out _ _ (hU.out.below hS.out.bel)).mono ?_); rintro e w3 ⟨rfl, hb⟩; replace hS := hid (hS.out.call hb); clear hip; clear hb))
    go_ret3
    exact ⟨d, n, u, g, rfl, hid (by omega), (hU.out.below hS.out.bel).mono (Nat.le_refl _), hB1.out.trans (hS.out.bel.mono hB1.out.size)⟩
end Go.Proofs.Ytbmkkaecfogmoaa

/- FnPortraits: the walk. -/
namespace Go.Proofs.Ytbmkkaecfogmoaa
open Go.RowKit
set_option linter.unusedVariables false
set_option linter.unusedSimpArgs false
-- @LONG

theorem mulAns_len (d n : Int) (A B : List Int) : (mulAns d n A B).1.length ≤ 40 := by
  rcases pcode2_cases d n A B with hp | ⟨hp, a, b, rfl, rfl, hd, h1, h4, hA, hB⟩
  · unfold mulAns; rw [if_neg hp]; simp
  · rw [mul_of hd h1 h4 hA hB]
    show (prtF _ _ _).length ≤ 40
    unfold prtF; rw [byL_length]; exact (start_le hd h4).1
theorem ivpAns_len (d n : Int) (g : List Int) : (ivpAns d n g).1.length ≤ 40 := by
  by_cases h : pcode d n [g] = 0
  · rcases pcode_cases d n g with hp | hp | ⟨hp, d, n, rfl, rfl, hd, hn1, hn4, hgp⟩
    · rw [hp] at h; cases h
    · rw [hp] at h; cases h
    · rw [ivpAns_0 hp]
      show (prtF _ _ _).length ≤ 40
      unfold prtF; rw [byL_length]; exact (start_le hd hn4).1
  · rw [ivpAns_c h]; simp
theorem porAns_len (d n : Int) (L : List Int) : (porAns d n L).1.length ≤ 40 := by
  by_cases hD : IsD d n
  · obtain ⟨d, n, rfl, rfl, hd, hn1, hn4⟩ := hD.nat
    cases h : (rfm d n L).2 with
    | false => rw [porAns_0 hD h]; simp
    | true =>
      rw [porAns_1 hD h]
      unfold rfm at h ⊢
      split
      · show (pfC _ _ _).length ≤ 40
        unfold pfC; rw [byL_length]; exact (start_le hd hn4).1
      · simp
  · rw [porAns_d hD]; simp
set_option maxHeartbeats 20000000 in
set_option maxRecDepth 100000 in
theorem portraits_law (w : World) (v : Value) (l : List Nat) (hv : ArgB w v l) :
    Calls Try.prog 5 #[v] w fun e w' => e = .returned (.bool true) ∧ Below w.heap.size w w' := by
  have hbg := hid (big_any w v l hv)
  by_cases hl : l.length ≤ 4096
  · have dl : decide (4096 < l.length) = false := decide_eq_false (by omega)
    rw [dl] at hbg
    have hdr := hid (fun W (hW : Below w.heap.size w W) => drMul_any W v l (hv.below hW) hl)
    have hdr2 := hid (fun W (hW : Below w.heap.size w W) => drPop_any W v l (hv.below hW) hl)
    have hdr3 := hid (fun W (hW : Below w.heap.size w W) => drInv_any W v l (hv.below hW) hl)
    have hdr4 := hid (fun W (hW : Below w.heap.size w W) => drAcp_any W v l (hv.below hW) hl)
    have hdr5 := hid (fun W (hW : Below w.heap.size w W) => drPnu_any W v l (hv.below hW) hl)
    have hwd := hid (fun W (hW : Below w.heap.size w W) (d n : Nat) h1 h2 h3 => word5_any W v l (hv.below hW) hl d n h1 h2 h3)
    have hlk := hid likeInts_any
    have hac := hid implActp_any
    have hia := hid implAcp_any
    have hsa := hid specAcp_any
    have hmu := hid implMul_any
    have hms := hid specMul_any
    have hii := hid implInv_any
    have hsi := hid specInv_any
    have hip := hid implPor_any
    have hsp := hid specPor_any
    have hin := hid implPnu_any
    have hsn := hid specPnu_any
    have hpo := hid implPop_any
    have hsm := hid sum_any
    have hi1 := hid (fun W d n b v g (h : Own W b 2 v (ints g)) (hl : g.length < 2000000) => isPortrait_any W d n b v g h hl _ rfl)
    have hi2 := hid specIsP_any
    have hcy := hid (fun (x : Int) => (show (x != x) = false by simp))
    have hcb := hid (fun (x : Bool) => (show (x != x) = false by simp))
    have hB := hid (Below.refl w.heap.size w)
    have hml := hid mulAns_len; have hil := hid ivpAns_len; have hpl := hid porAns_len
    replace hv := hid hv
    obtain ⟨A0, c0, rfl, _⟩ := hv.out
    go_enter Try.func5, Try.ntmps5
    go_upto_region 6 with (first
      | (go_at_call 8; (with_reducible refine (hbg.out).mono ?_); rintro e w1 ⟨rfl, rfl⟩)
      | (go_at_call 26; (with_reducible refine (hdr.out _ hB.out).mono ?_); rintro e w1 ⟨d, n, u1, u2, g1, g2, rfl, hF, hO1, hO2, hb⟩; have hU1 := hid (hO1.mono (Nat.zero_le _)); have hU2 := hid (hO2.mono (Nat.zero_le _)); replace hB := hid (hB.out.trans (hb.mono hB.out.size)); clear hb hO1 hO2)
      | (go_at_call 27; (with_reducible refine (hmu.out _ d n u1 u2 g1 g2 hU1.out hU2.out (by have := hF.out; omega) (by have := hF.out; omega)).mono ?_); rintro e w2 ⟨u3, rfl, hO3, hb⟩; have hU3 := hid (hO3.mono (Nat.zero_le _)); replace hU1 := hid (hU1.out.below hb); replace hU2 := hid (hU2.out.below hb); replace hB := hid (hB.out.trans (hb.mono hB.out.size)); clear hb hO3)
      | (go_at_call 28; (with_reducible refine (hms.out _ d n u1 u2 g1 g2 hU1.out hU2.out (by have := hF.out; omega) (by have := hF.out; omega)).mono ?_); rintro e w3 ⟨u4, rfl, hO3, hb⟩; have hU4 := hid (hO3.mono (Nat.zero_le _)); replace hU1 := hid (hU1.out.below hb); replace hU2 := hid (hU2.out.below hb); replace hU3 := hid (hU3.out.below hb); replace hB := hid (hB.out.trans (hb.mono hB.out.size)); clear hb hO3))
    have hL := hid (fun h => prs_law (d := d) (n := n) (A := g1) (B := g2) h)
    have h3l := hid (Nat.le_trans (hml.out d n g1 g2) (show 40 ≤ 1000000 by omega))
    have q1 := hcy.out (mulAns d n g1 g2).2
    have q2 := hcb.out (decide (IsD d n ∧ IsP d.toNat n.toNat g1))
    generalize hg3 : (mulAns d n g1 g2).1 = g3 at *
    replace hg3 := hid hg3
    generalize hmc : (mulAns d n g1 g2).2 = mc at *
    replace hmc := hid hmc
    have hpi := hid (fun W h => hi1.out W d n 0 u1 g1 h (by have := hF.out; omega))
    have hps := hid (fun W h => hi2.out W d n 0 u1 g1 h (by have := hF.out; omega))
    generalize decide (IsD d n ∧ IsP d.toNat n.toNat g1) = isp at *
    go_upto_if 105 with (first
      | (go_at_call 14; (with_reducible refine (hlk.out _ _ _ _ _ g3 hU3.out hU4.out h3l.out).mono ?_); rintro e w4 ⟨rfl, hb⟩; replace hU1 := hid (hU1.out.below hb); replace hU2 := hid (hU2.out.below hb); replace hU3 := hid (hU3.out.below hb); replace hB := hid (hB.out.trans (hb.mono hB.out.size)); clear hb hU4)
      | (go_at_call 29; (with_reducible refine (hpi.out _ hU1.out).mono ?_); rintro e w5 ⟨rfl, hb⟩; replace hU1 := hid (hU1.out.below hb); replace hU2 := hid (hU2.out.below hb); replace hU3 := hid (hU3.out.below hb); replace hB := hid (hB.out.trans (hb.mono hB.out.size)); clear hb)
      | (go_at_call 30; (with_reducible refine (hps.out _ hU1.out).mono ?_); rintro e w6 ⟨rfl, hb⟩; replace hU1 := hid (hU1.out.below hb); replace hU2 := hid (hU2.out.below hb); replace hU3 := hid (hU3.out.below hb); replace hB := hid (hB.out.trans (hb.mono hB.out.size)); clear hb))
    clear q1 q2 hpi hps
    go_cut [11, 12, 13, 14, 15, 16, 17, 18, 19, 20, 21, 22, 23, 24, 25, 26, 27, 28, 29, 30, 31] from 106 (fun _ _ _ _ _ _ _ _ _ _ _ _ _ _ _ _ _ _ _ _ _ wr => Below w.heap.size w wr)
    case first =>
      as_aux_lemma =>
        by_cases h0 : mc = 0
        · subst h0
          obtain ⟨d, n, P, Q, C, E, Z, rfl, rfl, hd, hn1, hn4, hA, hBp, eP, hP, hact, eQ, eC, eQ2, hQ, hC, eE, hE, eZ, hZ, hZs, eR⟩ := hL.out rfl
          have e3 : g3 = P := by rw [← hg3.out, eP]
          subst e3
          have hs40 := (start_le hd hn4).1
          have lA : g1.length ≤ 40 := by rw [hA.1]; exact hs40
          have lB : g2.length ≤ 40 := by rw [hBp.1]; exact hs40
          have lP : g3.length ≤ 40 := by rw [hP.1]; exact hs40
          have lC : C.length ≤ 40 := by rw [hC.1]; exact hs40
          have lQ : Q.length ≤ 1000000 := by rw [hQ.1]; omega
          have lE : E.length ≤ 40 := by rw [hE.1]; exact hs40
          have lZ : Z.length ≤ 40 := by rw [hZ.1]; exact hs40
          have hZr : ∀ x ∈ Z, 0 ≤ x ∧ x ≤ 1000000000 := fun x hx => by
            have h := hZ.2 x hx
            have : cnt d ≤ 6 := by rcases hd with h | h <;> rw [h] <;> decide
            omega
          have hd3 : 1 ≤ d ∧ d ≤ 3 := by omega
          have hK := hid (fun W (hW : Below w6.heap.size w6 W) => (show Own W 0 2 u1 (ints g1) ∧ Own W 0 2 u2 (ints g2) ∧ Own W 0 2 u3 (ints g3) from ⟨hU1.out.below hW, hU2.out.below hW, hU3.out.below hW⟩))
          have hS := hid (St.start w6)
          have hBB := hid (fun W (hW : Below w6.heap.size w6 W) => hB.out.trans (hW.mono hB.out.size))
          clear hU1 hU2 hU3 hL hF hg3 hmc h3l
          go_upto_region 10 with (
            (go_at_call 15; (with_reducible refine (hwd.out _ (hBB.out _ hS.out.bel) d n hd3.1 hd3.2 (by omega)).mono ?_); rintro e w10 ⟨u, rfl, hu1, hu2, hb⟩; replace hS := hid (hS.out.call hb); clear hb))
          have hau := actP_lt hd hA u hu2 (by omega)
          have hal := actP_length d g1 u
          have pA := hid (fun W h => hac.out W d n hd hn1 hn4 0 u1 g1 h hA u hu2 (by omega))
          have pB := hid (fun W h => hac.out W d n hd hn1 hn4 0 u2 g2 h hBp (actP d g1 u) hau (by omega))
          have pC := hid (fun W h => (by have h := hac.out W d n hd hn1 hn4 0 u3 g3 h hP u hu2 (by omega); rw [hact u (by omega) hu2] at h; exact h : Calls Try.prog 31 #[.int .i64 d, .int .i64 n, u3, .string (wstr u)] W fun e w' => e = .returned (.tuple #[.string (wstr (actP d g2 (actP d g1 u))), .int .i64 0]) ∧ Below W.heap.size W w'))
          have pQ := hid (fun W h1 h2 => (by have h := hmu.out W d n u3 u1 g3 g1 h1 h2 (by omega) (by omega); rw [eQ] at h; exact h : Calls Try.prog 27 #[.int .i64 d, .int .i64 n, u3, u1] W fun e w' => ∃ v, e = .returned (.tuple #[v, .int .i64 0]) ∧ Own w' W.heap.size 2 v (ints Q) ∧ Below W.heap.size W w'))
          have pCC := hid (fun W h1 h2 => (by have h := hmu.out W d n u2 u1 g2 g1 h1 h2 (by omega) (by omega); rw [eC] at h; exact h : Calls Try.prog 27 #[.int .i64 d, .int .i64 n, u2, u1] W fun e w' => ∃ v, e = .returned (.tuple #[v, .int .i64 0]) ∧ Own w' W.heap.size 2 v (ints C) ∧ Below W.heap.size W w'))
          have pQ2 := hid (fun W b v' (h1 : Own W 0 2 u1 (ints g1)) (h2 : Own W b 2 v' (ints C)) => (by have h := hmu.out W d n u1 v' g1 C h1 (h2.mono (Nat.zero_le _)) (by omega) (by omega); rw [eQ2] at h; exact h : Calls Try.prog 27 #[.int .i64 d, .int .i64 n, u1, v'] W fun e w' => ∃ v, e = .returned (.tuple #[v, .int .i64 0]) ∧ Own w' W.heap.size 2 v (ints Q) ∧ Below W.heap.size W w'))
          have pE := hid (fun W h1 => (by have h := hii.out W d n 0 u1 g1 h1 (by omega); rw [eE] at h; exact h : Calls Try.prog 32 #[.int .i64 d, .int .i64 n, u1] W fun e w' => ∃ v, e = .returned (.tuple #[v, .int .i64 0]) ∧ Own w' W.heap.size 2 v (ints E) ∧ Below W.heap.size W w'))
          have pZ := hid (fun W b v' (h1 : Own W 0 2 u1 (ints g1)) (h2 : Own W b 2 v' (ints E)) => (by have h := hmu.out W d n u1 v' g1 E h1 (h2.mono (Nat.zero_le _)) (by omega) (by omega); rw [eZ] at h; exact h : Calls Try.prog 27 #[.int .i64 d, .int .i64 n, u1, v'] W fun e w' => ∃ v, e = .returned (.tuple #[v, .int .i64 0]) ∧ Own w' W.heap.size 2 v (ints Z) ∧ Below W.heap.size W w'))
          have hpl' : ((prtP d g1 n).map Int.ofNat).length < 1000000 := by rw [List.length_map, prtP, pmF_length]; have := pw5 (n := n) hd (by omega); omega
          have pP := hid (fun W h1 => (by have h := hpo.out W d n hd hn1 hn4 0 u1 g1 h1 hA; rw [nats_ints] at h; exact h : Calls Try.prog 33 #[.int .i64 d, .int .i64 n, u1] W fun e w' => ∃ v', e = .returned (.tuple #[v', .int .i64 0]) ∧ Own w' W.heap.size 2 v' (ints ((prtP d g1 n).map Int.ofNat)) ∧ Below W.heap.size W w'))
          have pR := hid (fun W b v' (h1 : Own W b 2 v' (ints ((prtP d g1 n).map Int.ofNat))) => (by have h := hip.out W d n v' _ (h1.mono (Nat.zero_le _)) hpl'; rw [eR] at h; exact h : Calls Try.prog 34 #[.int .i64 d, .int .i64 n, v'] W fun e w' => ∃ v, e = .returned (.tuple #[v, .int .i64 0]) ∧ Own w' W.heap.size 2 v (ints g1) ∧ Below W.heap.size W w'))
          have pS := hid (fun W b v' (h1 : Own W b 2 v' (ints Z)) => (by have h := hsm.out W b v' Z h1 (by omega) hZr; rw [hZs] at h; exact h : Calls Try.prog 35 #[v'] W fun e w' => e = .returned (.int .i64 0) ∧ W = w'))
          have pL1 := hid (fun W b1 b2 v1 v2 h1 h2 => hlk.out W b1 b2 v1 v2 Q h1 h2 lQ)
          have pL2 := hid (fun W b1 b2 v1 v2 h1 h2 => hlk.out W b1 b2 v1 v2 g1 h1 h2 (by omega))
          clear eP eQ eC eQ2 eE eZ eR hA hBp hP hact hQ hC hE hZ hZs hZr lA lB lP lC lQ lE lZ hau hal hpl' hs40 hu1 hu2
          generalize (prtP d g1 n).map Int.ofNat = PM at *
          generalize wstr (actP d g2 (actP d g1 u)) = sy at *
          generalize wstr (actP d g1 u) = sx at *
          generalize wstr u = su at *
          go_upto_region 20 with (first
            | (go_at_call 31; (with_reducible refine (pA.out _ (hK.out _ hS.out.bel).1).mono ?_); rintro e w11 ⟨rfl, hb⟩; replace hS := hid (hS.out.call hb); clear hb)
            | (go_at_call 31; (with_reducible refine (pB.out _ (hK.out _ hS.out.bel).2.1).mono ?_); rintro e w11 ⟨rfl, hb⟩; replace hS := hid (hS.out.call hb); clear hb)
            | (go_at_call 31; (with_reducible refine (pC.out _ (hK.out _ hS.out.bel).2.2).mono ?_); rintro e w11 ⟨rfl, hb⟩; replace hS := hid (hS.out.call hb); clear hb)
            | (go_at_call 27; (with_reducible refine (pQ.out _ (hK.out _ hS.out.bel).2.2 (hK.out _ hS.out.bel).1).mono ?_); rintro e w12 ⟨vq, rfl, hO, hb⟩; replace hS := hid (hS.out.callOwn hb hO); clear hb hO)
            | (go_at_call 27; (with_reducible refine (pCC.out _ (hK.out _ hS.out.bel).2.1 (hK.out _ hS.out.bel).1).mono ?_); rintro e w13 ⟨vc, rfl, hO, hb⟩; replace hS := hid (hS.out.callOwn hb hO); clear hb hO)
            | (go_at_call 27; (with_reducible refine (pQ2.out _ _ _ (hK.out _ hS.out.bel).1 hS.out.o0).mono ?_); rintro e w14 ⟨vq2, rfl, hO, hb⟩; replace hS := hid (hS.out.callOwn hb hO); clear hb hO)
            | (go_at_call 32; (with_reducible refine (pE.out _ (hK.out _ hS.out.bel).1).mono ?_); rintro e w15 ⟨ve, rfl, hO, hb⟩; replace hS := hid (hS.out.callOwn hb hO); clear hb hO)
            | (go_at_call 27; (with_reducible refine (pZ.out _ _ _ (hK.out _ hS.out.bel).1 hS.out.o0).mono ?_); rintro e w16 ⟨vz, rfl, hO, hb⟩; replace hS := hid (hS.out.callOwn hb hO); clear hb hO)
            | (go_at_call 33; (with_reducible refine (pP.out _ (hK.out _ hS.out.bel).1).mono ?_); rintro e w17 ⟨vp, rfl, hO, hb⟩; replace hS := hid (hS.out.callOwn hb hO); clear hb hO)
            | (go_at_call 34; (with_reducible refine (pR.out _ _ _ hS.out.o0).mono ?_); rintro e w18 ⟨vr, rfl, hO, hb⟩; replace hS := hid (hS.out.callOwn hb hO); clear hb hO))
          have qs : (sy.toList != sy.toList) = false := by simp
          go_wp2_with (first
            | (go_at_call 14; (with_reducible refine (pL1.out _ _ _ _ _ hS.out.drop.o5 hS.out.o4).mono ?_); rintro e w19 ⟨rfl, hb⟩; replace hS := hid (hS.out.call hb); clear hb)
            | (go_at_call 35; (with_reducible refine (pS.out _ _ _ hS.out.o2).mono ?_); rintro e w' ⟨rfl, rfl⟩)
            | (go_at_call 14; (with_reducible refine (pL2.out _ _ _ _ _ hS.out.o0 (hK.out _ hS.out.bel).1).mono ?_); rintro e w20 ⟨rfl, hb⟩; replace hS := hid (hS.out.call hb); clear hb))
          go_meet
          case rel => exact hBB.out _ hS.out.bel
        · have d0 : ((mc : Int) == 0) = false := by simpa using h0
          clear hL
          go_wp2
          go_meet
          case rel => exact hB.out
    case rest =>
      as_aux_lemma =>
        have hS := hid (show St w.heap.size w [] _ from ⟨hcut, hcut.size, trivial⟩)
        clear hcut hB hU1 hU2 hU3 hL hF hg3 hmc h3l
        go_upto_region 34 with (first
          | (go_at_call 36; (with_reducible refine (hdr2.out _ hS.out.bel).mono ?_); rintro e w1 ⟨d5, n5, u5, g5, rfl, hF5, hO, hb⟩; replace hS := hid (hS.out.callOwn hb hO); clear hb hO)
          | (go_at_call 34; (with_reducible refine (hip.out _ d5 n5 u5 g5 (hS.out.o0.mono (Nat.zero_le _)) (by have := hF5.out; omega)).mono ?_); rintro e w2 ⟨r1, rfl, hO, hb⟩; replace hS := hid (hS.out.callOwn hb hO); clear hb hO)
          | (go_at_call 37; (with_reducible refine (hsp.out _ d5 n5 _ u5 g5 hS.out.o1 (by have := hF5.out; omega)).mono ?_); rintro e w3 ⟨r2, rfl, hO, hb⟩; replace hS := hid (hS.out.callOwn hb hO).f2.drop; clear hb hO)
          | (go_at_call 38; (with_reducible refine (hdr3.out _ hS.out.bel).mono ?_); rintro e w4 ⟨d6, n6, u6, g6, rfl, hF6, hO, hb⟩; replace hS := hid (hS.out.callOwn hb hO); clear hb hO)
          | (go_at_call 32; (with_reducible refine (hii.out _ d6 n6 _ u6 g6 hS.out.o0 (by have := hF6.out; omega)).mono ?_); rintro e w5 ⟨i1, rfl, hO, hb⟩; replace hS := hid (hS.out.callOwn hb hO); clear hb hO)
          | (go_at_call 39; (with_reducible refine (hsi.out _ d6 n6 u6 g6 (hS.out.o1.mono (Nat.zero_le _)) (by have := hF6.out; omega)).mono ?_); rintro e w6 ⟨i2, rfl, hO, hb⟩; replace hS := hid (hS.out.callOwn hb hO).f2.drop; clear hb hO)
          | (go_at_call 40; (with_reducible refine (hdr4.out _ hS.out.bel).mono ?_); rintro e w7 ⟨d7, n7, u7, g7, ws, rfl, hF7, hO, hb⟩; replace hS := hid (hS.out.callOwn hb hO); clear hb hO)
          | (go_at_call 31; (with_reducible refine (hia.out _ d7 n7 _ u7 g7 hS.out.o0 (by have := hF7.out; omega) ws (by have := hF7.out; omega)).mono ?_); rintro e w8 ⟨rfl, hb⟩; replace hS := hid (hS.out.call hb); clear hb)
          | (go_at_call 41; (with_reducible refine (hsa.out _ d7 n7 u7 g7 (hS.out.o0.mono (Nat.zero_le _)) (by have := hF7.out; omega) ws (by have := hF7.out; omega)).mono ?_); rintro e w9 ⟨rfl, hb⟩; replace hS := hid (hS.out.call hb).drop; clear hb)
          | (go_at_call 42; (with_reducible refine (hdr5.out _ hS.out.bel).mono ?_); rintro e w10 ⟨u8, g8, rfl, hF8, hO, hb⟩; replace hS := hid (hS.out.callOwn hb hO); clear hb hO)
          | (go_at_call 43; (with_reducible refine (hin.out _ _ u8 g8 hS.out.o0 (by have := hF8.out; omega)).mono ?_); rintro e w11 ⟨rfl, hb⟩; replace hS := hid (hS.out.call hb); clear hb)
          | (go_at_call 44; (with_reducible refine (hsn.out _ _ u8 g8 hS.out.o0 (by have := hF8.out; omega)).mono ?_); rintro e w12 ⟨rfl, hb⟩; replace hS := hid (hS.out.call hb); clear hb))
        have l1 := hid (Nat.le_trans (hpl.out d5 n5 g5) (show 40 ≤ 1000000 by omega))
        have l2 := hid (Nat.le_trans (hil.out d6 n6 g6) (show 40 ≤ 1000000 by omega))
        generalize (porAns d5 n5 g5).1 = R1 at *
        generalize (porAns d5 n5 g5).2 = R2 at *
        generalize (ivpAns d6 n6 g6).1 = R3 at *
        generalize (ivpAns d6 n6 g6).2 = R4 at *
        generalize (acpAns d7 n7 g7 ws).1 = R5 at *
        generalize (acpAns d7 n7 g7 ws).2 = R6 at *
        generalize (pnuAns g8).1 = R7 at *
        generalize (pnuAns g8).2 = R8 at *
        have q2 : ((R2 : Int) == R2) = true := by simp
        have q4 : ((R4 : Int) == R4) = true := by simp
        have q5 : (R5.toList == R5.toList) = true := by simp
        have q6 : ((R6 : Int) == R6) = true := by simp
        have q7 : ((R7 : Int) == R7) = true := by simp
        have q8 : ((R8 : Int) == R8) = true := by simp
        go_wp2_with (first
          | (go_at_call 14; (with_reducible refine (hlk.out _ _ _ _ _ R1 hS.out.o4 hS.out.o3 l1.out).mono ?_); rintro e w13 ⟨rfl, hb⟩; replace hS := hid (hS.out.call hb); clear hb)
          | (go_at_call 14; (with_reducible refine (hlk.out _ _ _ _ _ R3 hS.out.o2 hS.out.o1 l2.out).mono ?_); rintro e w14 ⟨rfl, hb⟩; replace hS := hid (hS.out.call hb); clear hb))
        go_ret
        exact ⟨rfl, hS.out.bel⟩
  · have dl : decide (4096 < l.length) = true := decide_eq_true (by omega)
    rw [dl] at hbg
    have hB := hid (Below.refl w.heap.size w)
    replace hv := hid hv
    obtain ⟨A0, c0, rfl, _⟩ := hv.out
    go_enter Try.func5, Try.ntmps5
    go_wp2_with (
      (go_at_call 8; (with_reducible refine (hbg.out).mono ?_); rintro e w1 ⟨rfl, rfl⟩))
    go_ret
    exact ⟨rfl, hB.out⟩
end Go.Proofs.Ytbmkkaecfogmoaa
