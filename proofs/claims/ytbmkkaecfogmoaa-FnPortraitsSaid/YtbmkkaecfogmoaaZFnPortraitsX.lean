/- What the proof of FnPortraits leans on, part 24 of 26. -/
import Derived.Test.YtbmkkaecfogmoaaZFnPortraitsW
/- FnPortraits: plain laws. -/
namespace Go.Proofs.Ytbmkkaecfogmoaa
open Go.RowKit
set_option linter.unusedVariables false
set_option linter.unusedSimpArgs false
-- @LONG

section
variable {d n : Nat}
theorem lvl_prt {P : List Nat} (h : Lvl d n (P.map Int.ofNat)) : ∃ g, IsP d n g ∧ P = prtP d g n := by
  obtain ⟨g, hg, e⟩ := h
  refine ⟨g, hg, ?_⟩
  have h2 := congrArg (List.map Int.toNat) e
  rwa [toNat_back, toNat_back] at h2
/-- Where two letters behind a word are led to the same letter, the list is none of a portrait. -/
theorem lC_ne (hd : d = 2 ∨ d = 3) {P : List Nat} (h : Lvl d n (P.map Int.ofNat)) {u : List Nat} (hu : ∀ y ∈ u, y < d) (hl : u.length < n) {x y : Nat} (hx : x < d) (hy : y < d) (hne : x ≠ y) : lC d n P u x ≠ lC d n P u y := by
  obtain ⟨g, hg, rfl⟩ := lvl_prt h
  rw [lC_of hd hg hu hl hx, lC_of hd hg hu hl hy]
  exact (aut_act hd hg).last_ne hu hx hy hl hne
theorem lC_lt (hd : d = 2 ∨ d = 3) (P : List Nat) (u : List Nat) (x : Nat) : lC d n P u x < d := Nat.mod_lt _ (by omega)
/-- A row of different letters has a number. -/
theorem rC_num (hd : d = 2 ∨ d = 3) {P : List Nat} {u : List Nat} (h : ∀ x y, x < y → y < d → lC d n P u x ≠ lC d n P u y) : ∃ i, i < cnt d ∧ pnm (rC d n P u) = (i : Nat) ∧ ∀ x, x < d → pim d i x = lC d n P u x := by
  rcases hd with rfl | rfl
  · obtain ⟨i, h1, h2, h3, h4⟩ := pq_two _ _ (lC_lt (.inl rfl) P u 0) (lC_lt (.inl rfl) P u 1) (h 0 1 (by omega) (by omega))
    refine ⟨i, h1, h2, fun x hx => ?_⟩
    have : x = 0 ∨ x = 1 := by omega
    rcases this with rfl | rfl
    · exact h3
    · exact h4
  · obtain ⟨i, h1, h2, h3, h4, h5⟩ := pq_three _ _ _ (lC_lt (.inr rfl) P u 0) (lC_lt (.inr rfl) P u 1) (lC_lt (.inr rfl) P u 2) (h 0 1 (by omega) (by omega)) (h 0 2 (by omega) (by omega)) (h 1 2 (by omega) (by omega))
    refine ⟨i, h1, h2, fun x hx => ?_⟩
    have : x = 0 ∨ x = 1 ∨ x = 2 := by omega
    rcases this with rfl | rfl | rfl
    · exact h3
    · exact h4
    · exact h5
theorem pcode_of (hd : d = 2 ∨ d = 3) (hn1 : 1 ≤ n) (hn : n ≤ 4) {L : List (List Int)} (h : ∀ g ∈ L, IsP d n g) : pcode d n L = 0 := pcode_0 hd hn1 hn h
theorem mul_of (hd : d = 2 ∨ d = 3) (hn1 : 1 ≤ n) (hn : n ≤ 4) {A B : List Int} (hA : IsP d n A) (hB : IsP d n B) : mulAns d n A B = (prtF d (fun u => actP d B (actP d A u)) n, 0) := by
  have h : pcode (d : Int) (n : Int) [A, B] = 0 := pcode_0 hd hn1 hn fun g hg => by
    rcases List.mem_cons.1 hg with rfl | hg
    · exact hA
    · rw [List.mem_singleton.1 hg]; exact hB
  unfold mulAns
  rw [if_pos h]; rfl
theorem inv_of (hd : d = 2 ∨ d = 3) (hn1 : 1 ≤ n) (hn : n ≤ 4) {A : List Int} (hA : IsP d n A) : ivpAns d n A = (prtF d (ivF d A n) n, 0) :=
  ivpAns_0 (pcode_0 hd hn1 hn fun g hg => by rw [List.mem_singleton.1 hg]; exact hA)
theorem prtF_id (hd : d = 2 ∨ d = 3) : ∀ x ∈ prtF d (fun u => u) n, x = 0 := by
  refine byL_all n fun k hk j hj => ?_
  have e : lrow d (fun u => u) (wrd d k j) = (List.range d).map fun x => ((x : Nat) : Int) := List.map_congr_left fun x _ => by
    rw [List.getD_eq_getElem?_getD, List.getElem?_append_right (Nat.le_refl _)]; simp
  show pnm (lrow d (fun u => u) (wrd d k j)) = 0
  rw [e]
  rcases hd with rfl | rfl
  · decide
  · decide
theorem sum_zero : ∀ {l : List Int}, (∀ x ∈ l, x = 0) → l.sum = 0
  | [], _ => rfl
  | a :: l, h => by
    rw [List.sum_cons, h a (by simp), sum_zero fun x hx => h x (by simp [hx])]; rfl
/-- All that the law says of two portraits. -/
theorem prs_law {d n : Int} {A B : List Int} (h : (mulAns d n A B).2 = 0) : ∃ (a b : Nat) (P Q C E Z : List Int), d = a ∧ n = b ∧ (a = 2 ∨ a = 3) ∧ 1 ≤ b ∧ b ≤ 4 ∧ IsP a b A ∧ IsP a b B ∧ mulAns a b A B = (P, 0) ∧ IsP a b P ∧
    (∀ u, u.length ≤ b → (∀ x ∈ u, x < a) → actP a P u = actP a B (actP a A u)) ∧ mulAns a b P A = (Q, 0) ∧ mulAns a b B A = (C, 0) ∧ mulAns a b A C = (Q, 0) ∧ IsP a b Q ∧ IsP a b C ∧ ivpAns a b A = (E, 0) ∧ IsP a b E ∧ mulAns a b A E = (Z, 0) ∧ IsP a b Z ∧ Z.sum = 0 ∧ porAns a b ((prtP a A b).map Int.ofNat) = (A, 0) := by
  rcases pcode2_cases d n A B with hp | ⟨_, a, b, rfl, rfl, hd, h1, h4, hA, hB⟩
  · unfold mulAns at h
    rw [if_neg hp] at h
    exact absurd h hp
  have aA := aut_act hd hA
  have aB := aut_act hd hB
  have d0 : 0 < a := by omega
  have aP : Aut a (fun u => actP a B (actP a A u)) b := aB.comp aA
  have hP := prtF_isP hd aP
  have actp : ∀ u, u.length ≤ b → (∀ x ∈ u, x < a) → actP a (prtF a (fun u => actP a B (actP a A u)) b) u = actP a B (actP a A u) := fun u hu hx => act_prtF hd aP u.length u rfl hu hx
  have aC : Aut a (fun u => actP a A (actP a B u)) b := aA.comp aB
  have hC := prtF_isP hd aC
  have aE := ivF_aut hd hA
  have hE := prtF_isP hd aE
  have lA : ∀ u, u.length ≤ b → (∀ x ∈ u, x < a) → (actP a A u).length ≤ b ∧ ∀ x ∈ actP a A u, x < a := fun u hu hx => ⟨by rw [actP_length]; exact hu, aA.lt u hx hu⟩
  have lP : ∀ u, u.length ≤ b → (∀ x ∈ u, x < a) → (actP a B (actP a A u)).length ≤ b := fun u hu hx => by rw [actP_length, actP_length]; exact hu
  have eQ : prtF a (fun u => actP a A (actP a (prtF a (fun u => actP a B (actP a A u)) b) u)) b = prtF a (fun u => actP a (prtF a (fun u => actP a A (actP a B u)) b) (actP a A u)) b := prtF_congr d0 fun u hu hx => by
    have hl := lA u hu hx
    rw [actp u hu hx, act_prtF hd aC _ _ rfl hl.1 hl.2]
  have hQ := prtF_isP hd (aA.comp (aut_act hd hP))
  have eZ : prtF a (fun u => actP a (prtF a (ivF a A b) b) (actP a A u)) b = prtF a (fun u => u) b := prtF_congr d0 fun u hu hx => by
    have hl := lA u hu hx
    rw [act_prtF hd aE _ _ rfl hl.1 hl.2]
    exact ivF_l hd hA hu hx
  refine ⟨a, b, _, _, _, _, _, rfl, rfl, hd, h1, h4, hA, hB, mul_of hd h1 h4 hA hB, hP, actp, mul_of hd h1 h4 hP hA, mul_of hd h1 h4 hB hA, (mul_of hd h1 h4 hA hC).trans (by rw [eQ]), hQ, hC, inv_of hd h1 h4 hA, hE, mul_of hd h1 h4 hA hE, ?_, ?_, ?_⟩
  · rw [eZ]; exact prtF_isP hd (Aut.id a b)
  · rw [eZ]; exact sum_zero (prtF_id hd)
  · have hD : IsD (a : Int) (b : Int) := ⟨by omega, by omega⟩
    have h5 := rfm_1 hd hA
    rw [porAns_1 hD (by rw [h5]), h5]
end
end Go.Proofs.Ytbmkkaecfogmoaa

/- The reference's MultiplyPortraits. -/
namespace Go.Proofs.Ytbmkkaecfogmoaa
open Go.RowKit
set_option linter.unusedVariables false
set_option linter.unusedSimpArgs false
-- @LONG

set_option maxHeartbeats 4000000 in
set_option maxRecDepth 100000 in
theorem l03Product_any (w : World) (d n : Nat) (hd : d = 2 ∨ d = 3) (hn : n ≤ 4) (v1 v2 : Value) (A B : List Int) (hO1 : Own w 0 2 v1 (ints A)) (hO2 : Own w 0 2 v2 (ints B)) (hA : IsP d n A) (hB : IsP d n B) :
    Calls Try.prog 119 #[.int .i64 d, .int .i64 n, v1, v2] w fun e w' => ∃ v, e = .returned v ∧ Own w' w.heap.size 2 v (ints (prtF d (fun u => actP d B (actP d A u)) n)) ∧ Below w.heap.size w w' := by
  have hS := (St.start w).newOwn [] 2 (by simp)
  simp only [List.length_nil] at hS
  replace hS := hid hS
  have hw1 := hid (fun W (hW : Below w.heap.size w W) => hO1.below hW)
  have hw2 := hid (fun W (hW : Below w.heap.size w W) => hO2.below hW)
  have hpo := hid (fun k (hk : k < n) W => l01Power_any d k (by omega) (by have := pw5 (n := k) hd (by omega); omega) (by omega) W)
  have hwo := hid (fun k j (hk : k < n) (hj : j < pw d k) W => l01WordOf_any d (by omega) (by omega) k j (by omega) (by have := pw5 (n := k) hd (by omega); omega) W)
  obtain ⟨F, hF⟩ : ∃ F : List Nat → Int, F = fun u => pnm (lrow d (fun u => actP d B (actP d A u)) u) := ⟨_, rfl⟩
  have hpt := hid (fun k j (hk : k < n) => (show ∃ (a b c : Nat), (∀ W, Own W 0 2 v1 (ints A) → Calls Try.prog 217 #[.int .i64 d, v1, .string (wstr (wrd d k j))] W fun e w' => e = .returned (.int .i64 (a : Nat)) ∧ W = w')
      ∧ (∀ W, Own W 0 2 v1 (ints A) → Calls Try.prog 139 #[.int .i64 d, v1, .string (wstr (wrd d k j))] W fun e w' => e = .returned (.string (wstr (actP d A (wrd d k j)))) ∧ Below W.heap.size W w')
      ∧ (∀ W, Own W 0 2 v2 (ints B) → Calls Try.prog 217 #[.int .i64 d, v2, .string (wstr (actP d A (wrd d k j)))] W fun e w' => e = .returned (.int .i64 (b : Nat)) ∧ W = w')
      ∧ (∀ W, Calls Try.prog 216 #[.int .i64 d, .int .i64 a, .int .i64 b] W fun e w' => e = .returned (.int .i64 (c : Nat)) ∧ Below W.heap.size W w')
      ∧ F (wrd d k j) = (c : Nat) from by
    have hul := wrd_length d k j
    have hu := wrd_lt d (by omega) k j
    generalize wrd d k j = u at *
    have ha := gAt_nat hd hA u hu (by omega)
    have hau := actP_lt hd hA u hu (by omega)
    have hal := actP_length d A u
    have hb := gAt_nat hd hB (actP d A u) hau (by omega)
    have hFA : Aut d (fun u => actP d B (actP d A u)) n := (aut_act hd hB).comp (aut_act hd hA)
    obtain ⟨c, hc, hcp, hci⟩ := lrow_num hd hFA hu (by omega)
    refine ⟨(gAt d A u).toNat, (gAt d B (actP d A u)).toNat, c, fun W hW => ?_, fun W hW => ?_, fun W hW => ?_, fun W => ?_, ?_⟩
    · have h := l03At_any W d n hd hn 0 v1 A hW hA u hu (by omega)
      rw [ha.1]; exact h
    · exact l03Act_any W d n hd hn 0 v1 A hW hA u hu (by omega)
    · have h := l03At_any W d n hd hn 0 v2 B hW hB (actP d A u) hau (by omega)
      rw [hb.1]; exact h
    · refine l03Then_any d _ _ c hd ha.2 hb.2 hc (fun x hx => ?_) W
      rw [hci x hx]
      show (actP d B (actP d A (u ++ [x]))).getD u.length 0 = _
      rw [actP_snoc, actP_snoc, List.getD_eq_getElem?_getD, List.getElem?_append_right (by rw [actP_length, hal]; exact Nat.le_refl _), actP_length, hal, Nat.sub_self]
      rfl
    · rw [hF]; exact hcp))
  have hpr := hid (show prtF d (fun u => actP d B (actP d A u)) n = byL d F n by rw [hF]; rfl)
  have hsn := hid (fun k j => byP_snoc d F k j)
  have hbl := hid (fun k j => byP_length d F k j)
  have hend := hid (fun k => byP_full d F k)
  have hz0 := hid (fun k => byP_zero d F k)
  have hb00 := hid (show byL d F 0 = [] from rfl)
  have hp5 := hid (fun k (hk : k < n) => pw5 (n := k) hd (by omega))
  have hst := hid (fun k (hk : k < n) => (start_le hd (show k ≤ 4 by omega)).1)
  rw [hpr.out]
  clear hF hpr
  replace hA := hid hA; replace hB := hid hB; replace hO1 := hid hO1; replace hO2 := hid hO2; replace hd := hid hd
  generalize byL d F = BL at *
  generalize byP d F = BP at *
  go_enter Try.func119, Try.ntmps119
  go_wp2
  go_loopw [9, 10] (fun o i wr => ∃ k : Nat, k ≤ n ∧ i = .int .i64 k ∧ St w.heap.size w [Asn.own w.heap.size 2 o (ints (BL k))] wr) (fun _ i _ => n - (intOf i).toNat)
  case atStart => exact ⟨0, Nat.zero_le _, rfl, by rw [hb00.out]; exact hS.out⟩
  case round =>
    obtain ⟨k, hk, rfl, rS⟩ := hrel
    clear hS
    replace rS := hid rS
    by_cases hlk : k < n
    · have dk : decide ((k : Int) < (n : Int)) = true := decide_eq_true (by omega)
      have hpk := hid (hpo.out k hlk)
      have hwk := hid (fun j => hwo.out k j hlk)
      have hM5 := hp5.out k hlk
      have hs4 := hst.out k hlk
      have hek := hid (hend.out k)
      rw [← hz0.out] at rS
      generalize pw d k = M at *
      go_wp2
      go_loopw [9, 11] (fun o i wr => ∃ j : Nat, j ≤ M ∧ i = .int .i64 j ∧ St w.heap.size w [Asn.own w.heap.size 2 o (ints (BP k j))] wr) (fun _ i _ => M - (intOf i).toNat)
      case atStart => exact ⟨0, Nat.zero_le _, rfl, rS.out⟩
      case round =>
        obtain ⟨j, hj, rfl, rS⟩ := hrel
        replace rS := hid rS
        by_cases hlj : j < M
        · have dj : decide ((j : Int) < (M : Int)) = true := decide_eq_true (by omega)
          have hwj := hid (hwk.out j hlj)
          obtain ⟨a, b, c, h1, h2, h3, h4, h5⟩ := hpt.out k j hlk
          replace h1 := hid h1; replace h2 := hid h2; replace h3 := hid h3; replace h4 := hid h4; replace h5 := hid h5
          have hsn2 := hid (hsn.out k j)
          have hil := hid (ints_length (BP k j))
          have hbl2 := hid (hbl.out k j)
          rw [h5.out] at hsn2
          clear h5
          generalize wstr (actP d A (wrd d k j)) = sv at *
          generalize wstr (wrd d k j) = su at *
          go_wp2_with (first
            | (go_at_call 196; (with_reducible refine (hpk.out _).mono ?_); rintro e w' ⟨rfl, rfl⟩)
            | (go_at_call 215; (with_reducible refine (hwj.out _).mono ?_); rintro e w2 ⟨rfl, hb⟩; replace rS := hid (rS.out.call hb); clear hb)
            | (go_at_call 217; (with_reducible refine (h1.out _ (hw1.out _ rS.out.bel)).mono ?_); rintro e w' ⟨rfl, rfl⟩)
            | (go_at_call 217; (with_reducible refine (h3.out _ (hw2.out _ rS.out.bel)).mono ?_); rintro e w' ⟨rfl, rfl⟩)
            | (go_at_call 139; (with_reducible refine (h2.out _ (hw1.out _ rS.out.bel)).mono ?_); rintro e w3 ⟨rfl, hb⟩; replace rS := hid (rS.out.call hb); clear hb)
            | (go_at_call 216; (with_reducible refine (h4.out _).mono ?_); rintro e w4 ⟨rfl, hb⟩; replace rS := hid (rS.out.call hb); clear hb)
            | ((with_reducible refine gate (N := 45) rfl ?_); refine St.app 29 2 (.int .i64 0) 8 Try.underlying29 info_i64 rfl (by omega) rfl _ _ rfl _ _ rfl rS.out _ rfl rfl (start d k + j) (by rw [hil.out, hbl2.out]) (by omega) ?_; intro gn cn w5 rS'; replace rS := hid rS'; clear rS'))
          rw [← ints_snoc, ← hsn2.out] at rS
          go_roundw
          case rel => exact ⟨j + 1, by omega, by go_num, rS.out⟩
          case measure => simp [intOf]; omega
        · obtain rfl : j = M := by omega
          have dj : decide ((j : Int) < (j : Int)) = false := decide_eq_false (by omega)
          rw [hek.out] at rS
          go_wp2_with (
            (go_at_call 196; (with_reducible refine (hpk.out _).mono ?_); rintro e w' ⟨rfl, rfl⟩))
          go_roundw
          case rel => exact ⟨k + 1, by omega, by go_num, rS.out⟩
          case measure => simp [intOf]; omega
    · obtain rfl : k = n := by omega
      have dk : decide ((k : Int) < (k : Int)) = false := decide_eq_false (by omega)
      go_wp2
      go_ret
      exact ⟨_, rfl, rS.out.o0, rS.out.bel⟩
set_option maxHeartbeats 4000000 in
set_option maxRecDepth 100000 in
theorem specMul_any (w : World) (d n : Int) (v1 v2 : Value) (A B : List Int) (hO1 : Own w 0 2 v1 (ints A)) (hO2 : Own w 0 2 v2 (ints B)) (hlA : A.length < 2000000) (hlB : B.length < 2000000) :
    Calls Try.prog 28 #[.int .i64 d, .int .i64 n, v1, v2] w fun e w' => ∃ v, e = .returned (.tuple #[v, .int .i64 (mulAns d n A B).2]) ∧ Own w' w.heap.size 2 v (ints (mulAns d n A B).1) ∧ Below w.heap.size w w' := by
  have hpc := hid (fun W b vv (hO : Own W b 29 vv [v1, v2]) (h1 : Own W b 2 v1 (ints A)) (h2 : Own W b 2 v2 (ints B)) => l03Code_any W d n b vv [A, B] (mat2 hO h1 h2) (by simp) (by intro r hr; simp at hr; rcases hr with rfl | rfl <;> assumption))
  have hw1 := hid (fun W (hW : Below w.heap.size w W) => hO1.below hW)
  have hw2 := hid (fun W (hW : Below w.heap.size w W) => hO2.below hW)
  have hown := hid ((St.start w).newOwn [v1, v2] 29 (by simp))
  simp only [List.length_cons, List.length_nil, Nat.zero_add, Nat.reduceAdd] at hown
  obtain ⟨A1, p1, rfl, _, _⟩ := hO1.form
  obtain ⟨A2, p2, rfl, _, _⟩ := hO2.form
  replace hO1 := hid hO1
  replace hO2 := hid hO2
  simp only [ints_length] at *
  rcases pcode2_cases d n A B with h | ⟨h, d, n, rfl, rfl, hd, hn1, hn4, hA, hB⟩
  · have hAn : mulAns d n A B = ([], pcode d n [A, B]) := by unfold mulAns; rw [if_neg h]
    rw [hAn]
    have d0 : ((pcode d n [A, B] : Int) != 0) = true := by simpa using h
    clear h hAn
    generalize pcode d n [A, B] = c at *
    go_enter Try.func28, Try.ntmps28
    go_wp2_with (
      (go_at_call 118; (with_reducible refine (hpc.out _ _ _ (hown.out.o0.mono (Nat.zero_le _)) (hw1.out _ hown.out.bel) (hw2.out _ hown.out.bel)).mono ?_); rintro e w1 ⟨rfl, hb⟩; replace hown := hid (hown.out.call hb).drop; clear hb))
    go_ret2
    exact ⟨_, rfl, Own.nil _ _ _, hown.out.bel⟩
  · have hAn : mulAns d n A B = (prtF d (fun u => actP d B (actP d A u)) n, 0) := by unfold mulAns; rw [if_pos h]; rfl
    rw [hAn]
    rw [h] at hpc
    have hpr := hid (fun W h1 h2 => l03Product_any W d n hd hn4 (.slice A1 A.length p1) (.slice A2 B.length p2) A B h1 h2 hA hB)
    clear h hAn
    replace hA := hid hA; replace hB := hid hB
    generalize prtF d (fun u => actP d B (actP d A u)) n = G at *
    go_enter Try.func28, Try.ntmps28
    go_wp2_with (first
      | (go_at_call 118; (with_reducible refine (hpc.out _ _ _ (hown.out.o0.mono (Nat.zero_le _)) (hw1.out _ hown.out.bel) (hw2.out _ hown.out.bel)).mono ?_); rintro e w1 ⟨rfl, hb⟩; replace hown := hid (hown.out.call hb).drop; clear hb)
      | (go_at_call 119; (with_reducible refine (hpr.out _ (hw1.out _ hown.out.bel) (hw2.out _ hown.out.bel)).mono ?_); rintro e w2 ⟨v3, rfl, hO3, hb⟩; replace hown := hid (hown.out.callOwn hb hO3); clear hb hO3))
    go_ret2
    exact ⟨_, rfl, hown.out.o0, hown.out.bel⟩
end Go.Proofs.Ytbmkkaecfogmoaa

/- The reference's portrait of a level permutation. -/
namespace Go.Proofs.Ytbmkkaecfogmoaa
open Go.RowKit
set_option linter.unusedVariables false
set_option linter.unusedSimpArgs false
-- @LONG

/-- Which letters are met below k. -/
def mt (F : Nat → Nat) : Nat → Nat → Bool
  | 0, _ => false
  | k + 1, y => if y = F k then true else mt F k y
theorem mt_iff (F : Nat → Nat) : ∀ k y, mt F k y = true ↔ ∃ x, x < k ∧ F x = y
  | 0, y => ⟨fun h => (by simp [mt] at h), fun ⟨x, h, _⟩ => absurd h (Nat.not_lt_zero x)⟩
  | k + 1, y => by
    unfold mt
    by_cases e : y = F k
    · rw [if_pos e]; exact ⟨fun _ => ⟨k, by omega, e.symm⟩, fun _ => rfl⟩
    · rw [if_neg e, mt_iff F k y]
      constructor
      · rintro ⟨x, h1, h2⟩; exact ⟨x, by omega, h2⟩
      · rintro ⟨x, h1, h2⟩
        refine ⟨x, ?_, h2⟩
        have : x ≠ k := fun h => e (by rw [← h2, h])
        omega
def mt3 (F : Nat → Nat) (k : Nat) : Array Value := #[.bool (mt F k 0), .bool (mt F k 1), .bool (mt F k 2)]
theorem mt3_set (F : Nat → Nat) (k : Nat) (hy : F k < 3) : (mt3 F k).setIfInBounds (F k) (.bool true) = mt3 F (k + 1) := by
  have h : ∀ z, mt F (k + 1) z = if z = F k then true else mt F k z := fun z => rfl
  unfold mt3
  rw [h, h, h]
  have : F k = 0 ∨ F k = 1 ∨ F k = 2 := by omega
  rcases this with e | e | e <;> rw [e] <;> rfl
theorem mt3_at (F : Nat → Nat) (k y : Nat) (hy : y < 3) : (mt3 F k)[y]? = some (.bool (mt F k y)) := by
  have : y = 0 ∨ y = 1 ∨ y = 2 := by omega
  rcases this with rfl | rfl | rfl <;> rfl
theorem prtP_lt {d n : Nat} (hd : d = 2 ∨ d = 3) {g : List Int} (hg : IsP d n g) : ∀ x ∈ prtP d g n, x < pw d n := fun x hx => by
  obtain ⟨k, hk, rfl⟩ := List.mem_map.1 hx
  have hu := wrd_lt d (by omega) n k
  have hl := wrd_length d n k
  exact num_lt d n _ (by rw [(aut_act hd hg).len _ hu (by omega)]; exact hl) ((aut_act hd hg).lt _ hu (by omega))
theorem lvl_len {d n : Nat} {L : List Int} (h : Lvl d n L) : L.length = pw d n := by
  obtain ⟨g, hg, rfl⟩ := h
  rw [List.length_map, prtP, pmF_length]
theorem lvl_in {d n : Nat} (hd : d = 2 ∨ d = 3) {L : List Int} (h : Lvl d n L) : ∀ x ∈ L, 0 ≤ x ∧ x ≤ ((pw d n : Nat) : Int) - 1 := by
  obtain ⟨g, hg, rfl⟩ := h
  intro x hx
  obtain ⟨y, hy, rfl⟩ := List.mem_map.1 hx
  have := prtP_lt hd hg y hy
  show (0 : Int) ≤ ((y : Nat) : Int) ∧ ((y : Nat) : Int) ≤ _
  omega
set_option maxHeartbeats 8000000 in
set_option maxRecDepth 100000 in
theorem l03Read_any (w : World) (d n : Nat) (hd : d = 2 ∨ d = 3) (hn : n ≤ 4) (b0 : Nat) (v : Value) (L : List Int) (hO : Own w b0 2 v (ints L)) (hll : L.length < 1000000) :
    Calls Try.prog 134 #[.int .i64 d, .int .i64 n, v] w fun e w' => ∃ v', e = .returned (.tuple #[v', .bool (rfm d n L).2]) ∧ Own w' w.heap.size 2 v' (ints (rfm d n L).1) ∧ Below w.heap.size w w' := by
  have hN := pw5 (n := n) hd (by omega)
  have hil := ints_length L
  obtain ⟨A, ca, rfl, _, _⟩ := hO.form
  rw [hil] at hO ⊢
  have hS := hid (St.start w)
  have hw := hid (fun W (hW : Below w.heap.size w W) => (hO.mono (Nat.zero_le _)).below hW)
  have hpn := hid (fun W => l01Power_any d n (by omega) (by omega) (by omega) W)
  obtain ⟨R, hRe⟩ : ∃ R, R = rfm d n L := ⟨_, rfl⟩
  rw [← hRe]
  have hR0 := hid (fun (h : ¬ Lvl d n L) => (show R = ([], false) from hRe.trans (rfm_0 h)))
  replace hRe := hid hRe
  have hlen := hid (fun (h : Lvl d n L) => lvl_len h)
  have hin := hid (fun (h : Lvl d n L) => lvl_in hd h)
  by_cases hl0 : L.length = pw d n
  · have d1 : (((L.length : Nat) : Int) != ((pw d n : Nat) : Int)) = false := by simp; omega
    have d1' : (L.length != pw d n) = false := by simpa using hl0
    have hpo := hid (fun k (hk : k ≤ n) W => l01Power_any d k (by omega) (by have := pw5 (n := k) hd (by omega); omega) (by omega) W)
    have hIn := hid (fun x W => l01In_any x 0 (((pw d n : Nat) : Int) - 1) (decide (0 ≤ x ∧ x ≤ ((pw d n : Nat) : Int) - 1)) rfl W)
    have e1 : IntKind.i64.wrap (((pw d n : Nat) : Int) - 1) = ((pw d n : Nat) : Int) - 1 := IntWalk.i64_in _ (by omega)
    have e1' : wrap64 (((pw d n : Nat) : Int) - 1) = ((pw d n : Nat) : Int) - 1 := w64 (by omega) (by omega)
    have hrest := hid (fun (hall : ∀ x ∈ L, 0 ≤ x ∧ x ≤ ((pw d n : Nat) : Int) - 1) => (show ∃ P : List Nat, L = P.map Int.ofNat ∧ P.length = pw d n ∧ ∀ x ∈ P, x < pw d n from by
      refine ⟨L.map Int.toNat, ?_, by rw [List.length_map, hl0], fun x hx => ?_⟩
      · rw [List.map_map]
        refine ((List.map_congr_left fun x hx => ?_).trans (List.map_id L)).symm
        have := hall x hx
        show ((x.toNat : Nat) : Int) = x
        omega
      · obtain ⟨y, hy, rfl⟩ := List.mem_map.1 hx
        have := hall y hy
        omega))
    generalize hPN : pw d n = N at *
    replace hPN := hid hPN
    replace hO := hid hO; replace hd := hid hd
    have hcell := hid (fun W (hW : Below w.heap.size w W) i x (hx : L[i]? = some x) => (show ∃ g, A = some ⟨g, 0, none⟩ ∧ W.cell? ⟨g, i, none⟩ = some (.int .i64 x) from by
      have hO2 := hw.out W hW
      obtain ⟨g, c, he, _, _⟩ := hO2.blk (fun e => by have h1 := congrArg List.length e; rw [ints_length, List.length_nil] at h1; have := (List.getElem?_eq_some_iff.1 hx).1; omega)
      injection he with e1 e2 e3
      subst e1
      exact ⟨g, rfl, hO2.cellAt i _ (by simp [ints, hx])⟩))
    go_enter Try.func134, Try.ntmps134
    go_wp2_with (
      (go_at_call 196; (with_reducible refine (hpn.out _).mono ?_); rintro e w' ⟨rfl, rfl⟩))
    go_loopw [9] (fun i wr => ∃ k : Nat, k ≤ N ∧ i = .int .i64 k ∧ Hid (∀ x ∈ L.take k, 0 ≤ x ∧ x ≤ ((N : Nat) : Int) - 1) ∧ St w.heap.size w [] wr) (fun i _ => N - (intOf i).toNat)
    case atStart => exact ⟨0, Nat.zero_le _, rfl, hid (fun x hx => by simp at hx), hS.out⟩
    case round =>
      obtain ⟨k, hk, rfl, hok, rS⟩ := hrel
      clear hS
      replace rS := hid rS
      by_cases hlk : k < N
      · have dk : decide ((k : Int) < (L.length : Int)) = true := decide_eq_true (by omega)
        obtain ⟨x, hx⟩ : ∃ x, L[k]? = some x := ⟨_, List.getElem?_eq_getElem (by omega)⟩
        obtain ⟨g, hA, c0⟩ := hcell.out wr rS.out.bel k x hx
        subst hA
        have k0 : (0 : Int) ≤ (k : Int) := Int.natCast_nonneg _
        have k1 : (k : Int) < (L.length : Int) := by omega
        have hxI := hid (hIn.out x)
        by_cases hxr : 0 ≤ x ∧ x ≤ (N : Int) - 1
        · rw [decide_eq_true hxr] at hxI
          have hok2 := hid (show ∀ y ∈ L.take (k + 1), 0 ≤ y ∧ y ≤ ((N : Nat) : Int) - 1 from fun y hy => by
            rw [List.take_add_one, hx] at hy
            rcases List.mem_append.1 hy with hy | hy
            · exact hok.out y hy
            · have : y = x := by simpa using hy
              rw [this]; exact hxr)
          replace hx := hid hx
          clear hxr
          go_wp2_with (
            (go_at_call 91; (with_reducible refine (hxI.out _).mono ?_); rintro e w' ⟨rfl, rfl⟩))
          go_roundw
          case rel => exact ⟨k + 1, by omega, by go_num, hok2, rS.out⟩
          case measure => simp [intOf]; omega
        · rw [decide_eq_false hxr] at hxI
          have hH := hR0.out (fun h => hxr (hin.out h x (List.mem_of_getElem? hx)))
          replace hx := hid hx
          go_wp2_with (
            (go_at_call 91; (with_reducible refine (hxI.out _).mono ?_); rintro e w' ⟨rfl, rfl⟩))
          go_ret2
          exact ⟨_, by rw [hH]; rfl, by rw [hH]; exact Own.nil _ _ _, rS.out.bel⟩
      · have dk : decide ((k : Int) < (L.length : Int)) = false := decide_eq_false (by omega)
        have hkN : k = N := by omega
        subst hkN
        obtain ⟨P, rfl, hPl, hPr⟩ := hrest.out (fun x hx => hok.out x (by rw [List.take_of_length_le (by omega)]; exact hx))
        have hne := hid (fun (h : Lvl d n (P.map Int.ofNat)) u hu hl x y hx hy hne => lC_ne hd.out h (u := u) hu hl (x := x) (y := y) hx hy hne)
        have hnum := hid (fun u h => rC_num (n := n) hd.out (P := P) (u := u) h)
        have hd0 : 0 < d := by have := hd.out; omega
        have hd3 : d ≤ 3 := by have := hd.out; omega
        have hread := hid (fun lv j (hlv : lv < n) (hj : j < pw d lv) x (hx : x < d) => (show (j * d + x) * pw d (n - lv - 1) < k ∧ P.getD ((j * d + x) * pw d (n - lv - 1)) 0 / pw d (n - lv - 1) % d = lC d n P (wrd d lv j) x from by
          have hul := wrd_length d lv j
          have hu := wrd_lt d hd0 lv j
          have h1 := (pmF_read hd.out (Aut.id d n) hu (by omega) hx).1
          have e : num d (wrd d lv j) * pw d (n - lv) + x * pw d (n - lv - 1) = (j * d + x) * pw d (n - lv - 1) := by
            rw [num_wrd d hd0 lv j hj, show n - lv = (n - lv - 1) + 1 by omega, pw, Nat.add_mul]
            simp only [Nat.add_sub_cancel, Nat.mul_assoc, Nat.mul_comm, Nat.mul_left_comm]
          unfold lC
          rw [hul] at h1 ⊢
          rw [e] at h1 ⊢
          exact ⟨by rw [← hPN.out]; exact h1, rfl⟩))
        have hget := hid (fun j (hj : j < k) => (show P.getD j 0 < k ∧ (P.map Int.ofNat)[j]? = some (((P.getD j 0 : Nat) : Int)) from by
          have hj' : j < P.length := by omega
          rw [List.getD_eq_getElem?_getD, List.getElem?_eq_getElem hj', List.getElem?_map, List.getElem?_eq_getElem hj']
          exact ⟨hPr _ (List.getElem_mem hj'), rfl⟩))
        have hfin := hid (fun (h : ∀ lv, lv < n → ∀ j, j < pw d lv → ∀ x y, x < y → y < d → lC d n P (wrd d lv j) x ≠ lC d n P (wrd d lv j) y) => (show IsP d n (pfC d n P) ∧ (prtP d (pfC d n P) n = P → R = (pfC d n P, true)) ∧ (prtP d (pfC d n P) n ≠ P → ¬ Lvl d n (P.map Int.ofNat)) from by
          have hm : (-1 : Int) ∉ pfC d n P := fun hm => by
            have : ∀ x ∈ pfC d n P, x ≠ -1 := byL_all n fun lv hlv j hj => by
              obtain ⟨i, hi, hp, _⟩ := hnum.out (wrd d lv j) (h lv hlv j hj)
              show pnm _ ≠ -1
              rw [hp]; omega
            exact this _ hm rfl
          have hgP := pfC_isP hm
          refine ⟨hgP, fun e => ?_, fun e hL => ?_⟩
          · have h5 := rfm_1 hd.out hgP
            rw [e] at h5
            exact hRe.out.trans h5
          · obtain ⟨g, hg, rfl⟩ := lvl_prt hL
            rw [pfC_of hd.out hg] at e
            exact e rfl))
        have hbl := hid (fun lv j => byP_length d (fun u => pnm (rC d n P u)) lv j)
        have hsn := hid (fun lv j => byP_snoc d (fun u => pnm (rC d n P u)) lv j)
        have hend := hid (fun lv => byP_full d (fun u => pnm (rC d n P u)) lv)
        have hz0 := hid (fun lv => byP_zero d (fun u => pnm (rC d n P u)) lv)
        have hb00 := hid (show byL d (fun u => pnm (rC d n P u)) 0 = [] from rfl)
        have hpf := hid (show pfC d n P = byL d (fun u => pnm (rC d n P u)) n from rfl)
        have hp5 := hid (fun lv (h : lv ≤ n) => pw5 (n := lv) hd.out (by omega))
        have hpp := hid (fun lv => pw_pos d hd0 lv)
        have hst4 := hid (fun lv (h : lv < n) => (start_le hd.out (show lv ≤ 4 by omega)).1)
        have hnu := hid (fun (i : Nat) (hi : i < cnt d) (F : Nat → Nat) (hF : ∀ x, x < d → pim d i x = F x) W => (by
          have h2 := l03Number_lit d i hd.out hi _ _ _ rfl rfl rfl W
          have e : #[Value.int .u8 (pim d i 0 : Nat), .int .u8 (pim d i 1 : Nat), .int .u8 (pim d i 2 : Nat)] = up3 F d := by
            rcases hd.out with rfl | rfl
            · unfold up3; rw [pim_22 i hi, hF 0 (by omega), hF 1 (by omega)]; rfl
            · unfold up3; rw [hF 0 (by omega), hF 1 (by omega), hF 2 (by omega)]; rfl
          rw [e] at h2
          exact h2 : Calls Try.prog 144 #[.int .i64 d, .agg (up3 F d).toList.toArray] W fun e w' => e = .returned (.int .i64 (i : Nat)) ∧ Below W.heap.size W w'))
        have hpe := hid (fun W b v' (h : Own W b 2 v' (ints (pfC d n P))) (hg : IsP d n (pfC d n P)) => l03Permutation_any W d n hd.out hn b v' _ h hg)
        have hpl2 := hid (fun (g : List Int) => (show (prtP d g n).length = k by rw [prtP, pmF_length]; exact hPN.out))
        have hlt3 := hid (fun u x => lC_lt hd.out P (n := n) u x)
        clear hIn hpn hin hlen hrest hok hPr dk
        have hS3 := hid ((rS.out.newOwn [] 2 (by simp)))
        simp only [List.length_nil] at hS3
        clear rS
        generalize pfC d n P = G at *
        generalize hBLe : byL d (fun u => pnm (rC d n P u)) = BL at *
        generalize hBPe : byP d (fun u => pnm (rC d n P u)) = BP at *
        clear hBLe hBPe
        generalize hLP : P.map Int.ofNat = LL at *
        go_wp2
        go_loopw [10, 11] (fun o i wr => ∃ lv : Nat, lv ≤ n ∧ i = .int .i64 lv ∧ Hid (∀ l', l' < lv → ∀ j, j < pw d l' → ∀ x y, x < y → y < d → lC d n P (wrd d l' j) x ≠ lC d n P (wrd d l' j) y) ∧ St w.heap.size w [Asn.own w.heap.size 2 o (ints (BL lv))] wr) (fun _ i _ => n - (intOf i).toNat)
        case atStart => exact ⟨0, Nat.zero_le _, rfl, hid (fun l' h => absurd h (Nat.not_lt_zero _)), by rw [hb00.out]; exact hS3.out⟩
        case round =>
          obtain ⟨lv, hlv, rfl, hdn, rS⟩ := hrel
          clear hS3
          replace rS := hid rS
          by_cases hlv2 : lv < n
          · have dlv : decide ((lv : Int) < (n : Int)) = true := decide_eq_true (by omega)
            have hp1 := hid (hpo.out (n - lv - 1) (by omega))
            have hp2 := hid (hpo.out lv (by omega))
            have hM5 := hp5.out lv (by omega)
            have hS5 := hp5.out (n - lv - 1) (by omega)
            have hSpos := hpp.out (n - lv - 1)
            have hs4 := hst4.out lv hlv2
            have hek := hid (hend.out lv)
            have hrd := hid (fun j hj x hx => hread.out lv j hlv2 hj x hx)
            have e2 : IntKind.i64.wrap ((n : Int) - (lv : Int)) = ((n - lv : Nat) : Int) := by rw [show (n : Int) - (lv : Int) = ((n - lv : Nat) : Int) by omega]; exact IntWalk.i64_in _ (by omega)
            have e3 : IntKind.i64.wrap (((n - lv : Nat) : Int) - 1) = ((n - lv - 1 : Nat) : Int) := by rw [show ((n - lv : Nat) : Int) - 1 = ((n - lv - 1 : Nat) : Int) by omega]; exact IntWalk.i64_in _ (by omega)
            have hnx := hid (fun (h : ∀ j, j < pw d lv → ∀ x y, x < y → y < d → lC d n P (wrd d lv j) x ≠ lC d n P (wrd d lv j) y) l' (hl' : l' < lv + 1) j (hj : j < pw d l') => (show ∀ x y, x < y → y < d → lC d n P (wrd d l' j) x ≠ lC d n P (wrd d l' j) y from by
              by_cases e : l' = lv
              · subst e; exact h j hj
              · exact hdn.out l' (by omega) j hj))
            rw [← hz0.out] at rS
            have hul := hid (fun j => wrd_length d lv j)
            have hwl := hid (fun j => wrd_lt d hd0 lv j)
            clear hdn hread hfin hpe
            generalize hMe : pw d lv = M at *
            generalize hSe : pw d (n - lv - 1) = ST at *
            replace hMe := hid hMe; replace hSe := hid hSe
            generalize n - lv - 1 = n1 at *
            generalize n - lv = n0 at *
            go_wp2_with (
              (go_at_call 196; (with_reducible refine (hp1.out _).mono ?_); rintro e w' ⟨rfl, rfl⟩))
            go_loopw [10, 13] (fun o i wr => ∃ j : Nat, j ≤ M ∧ i = .int .i64 j ∧ Hid (∀ j', j' < j → ∀ x y, x < y → y < d → lC d n P (wrd d lv j') x ≠ lC d n P (wrd d lv j') y) ∧ St w.heap.size w [Asn.own w.heap.size 2 o (ints (BP lv j))] wr) (fun _ i _ => M - (intOf i).toNat)
            case atStart => exact ⟨0, Nat.zero_le _, rfl, hid (fun j' h => absurd h (Nat.not_lt_zero _)), rS.out⟩
            case round =>
              obtain ⟨j, hj, rfl, hdj, rS⟩ := hrel
              replace rS := hid rS
              by_cases hlj : j < M
              · have dj : decide ((j : Int) < (M : Int)) = true := decide_eq_true (by omega)
                have hrj := hid (hrd.out j hlj)
                have hsn2 := hid (hsn.out lv j)
                have hbl2 := hid ((ints_length (BP lv j)).trans (hbl.out lv j))
                have hnj := hid (hnum.out (wrd d lv j))
                have hlj3 := hid (hlt3.out (wrd d lv j))
                have hnj2 := hid (fun (h : Lvl d n LL) x y (hx : x < d) (hy : y < d) (hxy : x ≠ y) => hne.out h (wrd d lv j) (hwl.out j) (by rw [hul.out j]; omega) x y hx hy hxy)
                have hjd : j * d ≤ 729 := Nat.le_trans (Nat.mul_le_mul (show j ≤ 243 by omega) hd3) (by omega)
                have ej : IntKind.i64.wrap ((j : Int) * (d : Int)) = ((j * d : Nat) : Int) := by rw [← Int.natCast_mul]; exact IntWalk.i64_in _ (by omega)
                generalize j * d = jd at *
                generalize hue : wrd d lv j = u at *
                generalize hFe : lC d n P u = F at *
                replace hue := hid hue; replace hFe := hid hFe
                have hge := hid rS.out.le
                go_upto_region 18 with (
                  (go_at_call 196; (with_reducible refine (hp2.out _).mono ?_); rintro e w' ⟨rfl, rfl⟩))
                have hS4 := ((rS.out.newBlk #[.int .u8 0, .int .u8 0, .int .u8 0] 24).newBlk #[.bool false, .bool false, .bool false] 150)
                simp only [heap_alloc_size] at hS4
                replace hS4 := hid (show St w.heap.size w [Asn.blk (wr.heap.size + 1) (mt3 F 0) 150, Asn.blk wr.heap.size (up3 F 0) 24, _] _ from hS4)
                clear rS
                have hge' := hge.out
                generalize wr.heap.size = g at *
                generalize World.alloc (World.alloc wr _) _ = w3 at *
                go_wp2
                go_loopw [16] (fun i wr => ∃ x : Nat, x ≤ d ∧ i = .int .i64 x ∧ Hid (∀ y z, y < z → z < x → F y ≠ F z) ∧ St w.heap.size w [Asn.blk (g + 1) (mt3 F x) 150, Asn.blk g (up3 F x) 24, _] wr) (fun i _ => d - (intOf i).toNat)
                case atStart => exact ⟨0, Nat.zero_le _, rfl, hid (fun y z _ h => absurd h (Nat.not_lt_zero _)), hS4.out⟩
                case round =>
                  obtain ⟨x, hx, rfl, hdx, rS⟩ := hrel
                  clear hS4
                  by_cases hlx : x < d
                  · have dx : decide ((x : Int) < (d : Int)) = true := decide_eq_true (by omega)
                    obtain ⟨r1, r2⟩ := hrj.out x hlx
                    obtain ⟨gp1, gp2⟩ := hget.out _ r1
                    obtain ⟨ga, hA, c0⟩ := hcell.out wr rS.bel _ _ gp2
                    subst hA
                    have e4 : IntKind.i64.wrap ((jd : Int) + (x : Int)) = ((jd + x : Nat) : Int) := by rw [← Int.natCast_add]; exact IntWalk.i64_in _ (by omega)
                    have hxs : (jd + x) * ST ≤ 200000 := Nat.le_trans (Nat.mul_le_mul (show jd + x ≤ 732 by omega) hS5) (by omega)
                    generalize jd + x = jx at *
                    have e5 : IntKind.i64.wrap ((jx : Int) * (ST : Int)) = ((jx * ST : Nat) : Int) := by rw [← Int.natCast_mul]; exact IntWalk.i64_in _ (by omega)
                    generalize jx * ST = ix at *
                    generalize P.getD ix 0 = tv at *
                    obtain ⟨qv, hqv⟩ : ∃ qv, qv = tv / ST := ⟨_, rfl⟩
                    have hq : qv ≤ tv := by rw [hqv]; exact Nat.div_le_self tv ST
                    have m2 : Int.tdiv (tv : Int) (ST : Int) = (qv : Int) := by rw [hqv, Int.tdiv_eq_ediv_of_nonneg (Int.natCast_nonneg _)]; rfl
                    have m1 : Int.tmod (qv : Int) (d : Int) = ((F x : Nat) : Int) := by rw [← r2, hqv, Int.tmod_eq_emod_of_nonneg (Int.natCast_nonneg _)]; rfl
                    have hFx := hlj3.out x
                    have hFx3 : F x < 3 := by omega
                    have s1 : IntKind.i64.wrap (qv : Int) = (qv : Int) := IntWalk.i64_in _ (by omega)
                    have s2 : IntKind.i64.wrap ((F x : Nat) : Int) = ((F x : Nat) : Int) := IntWalk.i64_in _ (by omega)
                    have s3 : IntKind.u8.wrap ((F x : Nat) : Int) = ((F x : Nat) : Int) := u8_in _ (by omega)
                    have s4 : (((F x : Nat) : Int) % 256) = ((F x : Nat) : Int) := by omega
                    have dz : ¬ (ST : Int) = 0 := by omega
                    have dz2 : ¬ (d : Int) = 0 := by omega
                    have dz3 : ¬ ST = 0 := by omega
                    have dz4 : ¬ d = 0 := by omega
                    have i0 : (0 : Int) ≤ (ix : Int) := Int.natCast_nonneg _
                    have i1 : (ix : Int) < (LL.length : Int) := by omega
                    have y0 : (0 : Int) ≤ ((F x : Nat) : Int) := Int.natCast_nonneg _
                    have y1 : ((F x : Nat) : Int) < 3 := by omega
                    have x0 : (0 : Int) ≤ (x : Int) := Int.natCast_nonneg _
                    have x1 : (x : Int) < 3 := by omega
                    have c1 := (cell_of_row _ _ (F x) _ _ _ rS.k0).trans (mt3_at F x (F x) hFx3)
                    have hmi := hid (mt_iff F x (F x))
                    have hms := hid (mt3_set F x hFx3)
                    have hus := hid (up3_set F x (by omega))
                    clear r2 hqv
                    cases hb : mt F x (F x) with
                    | true =>
                      rw [hb] at c1
                      have hH := hR0.out (fun h => by
                        obtain ⟨y, hy, e⟩ := hmi.out.1 hb
                        exact hnj2.out h y x (by omega) hlx (by omega) e)
                      replace rS := hid rS
                      clear hb hms hus hmi
                      generalize F x = y at *
                      go_wp2
                      go_ret2
                      exact ⟨_, by rw [hH]; rfl, by rw [hH]; exact Own.nil _ _ _, rS.out.bel⟩
                    | false =>
                      rw [hb] at c1
                      have hdx2 := hid (show ∀ y z, y < z → z < x + 1 → F y ≠ F z from fun y z hyz hz e => by
                        by_cases ez : z = x
                        · subst ez
                          have := hmi.out.2 ⟨y, hyz, e⟩
                          rw [hb] at this; cases this
                        · exact hdx.out y z hyz (by omega) e)
                      have f1 := frozen_of_row _ _ (F x) _ _ rS.k0
                      have rS2 := rS.setBlk (show w.heap.size ≤ g + 1 by omega) (F x) (.bool true)
                      rw [hms.out] at rS2
                      replace rS2 := rS2.f1
                      have c2 := (cell_of_row _ _ x _ _ _ rS2.k0).trans (up3_at F x (by omega))
                      have f2 := frozen_of_row _ _ x _ _ rS2.k0
                      have rS3 := rS2.setBlk (show w.heap.size ≤ g by omega) x (.int .u8 (F x : Nat))
                      rw [hus.out] at rS3
                      replace rS3 := hid rS3.f1
                      clear rS2 rS hb hms hus hmi
                      generalize F x = y at *
                      go_wp2
                      go_roundw
                      case rel => exact ⟨x + 1, by omega, by go_num, hdx2, rS3.out⟩
                      case measure => simp [intOf]; omega
                  · obtain rfl : x = d := by omega
                    have dx : decide ((x : Int) < (x : Int)) = false := decide_eq_false (by omega)
                    obtain ⟨i, hi, hp, hpi⟩ := hnj.out (fun y z hyz hz => hdx.out y z hyz hz)
                    have hnui := hid (hnu.out i hi F hpi)
                    have hrg := hid (show wr.rangeAt g 0 (up3 F x).toList from fun j v hv => (cell_of_row _ _ (0 + j) _ _ _ rS.k1).trans (by rw [Nat.zero_add]; simpa using hv))
                    have hrl := hid (show (up3 F x).toList.length = 3 from rfl)
                    have hdj2 := hid (show ∀ j', j' < j + 1 → ∀ y z, y < z → z < x → lC x n P (wrd x lv j') y ≠ lC x n P (wrd x lv j') z from fun j' hj' => by
                      by_cases e : j' = j
                      · subst e
                        rw [hue.out, hFe.out]
                        exact fun y z h1 h2 => hdx.out y z h1 h2
                      · exact hdj.out j' (by omega))
                    rw [hp] at hsn2
                    replace rS := hid rS.drop.drop
                    clear hp hpi
                    generalize (up3 F x).toList = RL at *
                    go_wp2_with (first
                      | ((with_reducible refine gate (N := 92) rfl ?_); refine wpList_load_mid rfl 24 _ rfl g 0 rfl _ _ hrg.out Try.underlying24 rfl (by rw [hrl.out]; exact sz_b3) ?_)
                      | (go_at_call 144; (with_reducible refine (hnui.out _).mono ?_); rintro e w4 ⟨rfl, hb⟩; replace rS := hid (rS.out.call hb); clear hb)
                      | ((with_reducible refine gate (N := 95) rfl ?_); refine St.app 29 2 (.int .i64 0) 8 Try.underlying29 info_i64 rfl (by omega) rfl _ _ rfl _ _ rfl rS.out _ rfl rfl (start x lv + j) hbl2.out (by omega) ?_; intro gn cn w5 rS'; replace rS := hid rS'; clear rS'))
                    rw [← ints_snoc, ← hsn2.out] at rS
                    go_roundw
                    case rel => exact ⟨j + 1, by omega, by go_num, hdj2, rS.out⟩
                    case measure => simp [intOf]; omega
              · obtain rfl : j = M := by omega
                have dj : decide ((j : Int) < (j : Int)) = false := decide_eq_false (by omega)
                rw [hek.out] at rS
                have hdn2 := hid (hnx.out hdj.out)
                go_wp2_with (
                  (go_at_call 196; (with_reducible refine (hp2.out _).mono ?_); rintro e w' ⟨rfl, rfl⟩))
                go_roundw
                case rel => exact ⟨lv + 1, by omega, by go_num, hdn2, rS.out⟩
                case measure => simp [intOf]; omega
          · obtain rfl : lv = n := by omega
            have dlv : decide ((lv : Int) < (lv : Int)) = false := decide_eq_false (by omega)
            obtain ⟨hgP, hyes, hno⟩ := hfin.out hdn.out
            rw [← hpf.out] at rS
            have hpe2 := hid (fun W b v' h => hpe.out W b v' h hgP)
            have hplG := hpl2.out G
            have hYes := hid hyes; have hNo := hid (fun e => hR0.out (hno e))
            clear hfin hgP hyes hno hnum hne hread hnu
            generalize prtP d G lv = Q at *
            go_upto_region 28 with (
              (go_at_call 131; (with_reducible refine (hpe2.out _ _ _ rS.out.o0).mono ?_); rintro e w6 ⟨v6, rfl, hO6, hb⟩; replace rS := hid (rS.out.callOwn hb hO6); clear hb hO6))
            obtain ⟨gq, cq, rfl, _, _⟩ := rS.out.o0.blk (fun e => by have h1 := congrArg List.length e; rw [nats_length, List.length_nil] at h1; have := hpp.out lv; have := hPN.out; omega)
            rw [nats_length, hplG] at rS ⊢
            go_wp2
            go_loopw [19] (fun i wr => ∃ i' : Nat, i' ≤ k ∧ i = .int .i64 i' ∧ Hid (∀ j, j < i' → Q[j]? = P[j]?) ∧ St w.heap.size w [Asn.own w.heap.size 2 (.slice (some ⟨gq, 0, none⟩) k cq) (nats Q), _] wr) (fun i _ => k - (intOf i).toNat)
            case atStart => exact ⟨0, Nat.zero_le _, rfl, hid (fun j h => absurd h (Nat.not_lt_zero _)), rS.out⟩
            case round =>
              obtain ⟨i', hi', rfl, hag, cS⟩ := hrel
              clear rS
              by_cases hlt : i' < k
              · have di : decide ((i' : Int) < (LL.length : Int)) = true := decide_eq_true (by omega)
                obtain ⟨gp1, gp2⟩ := hget.out _ hlt
                obtain ⟨ga, hA, c0⟩ := hcell.out wr cS.bel _ _ gp2
                subst hA
                obtain ⟨qv, hqv⟩ : ∃ qv, Q[i']? = some qv := ⟨_, List.getElem?_eq_getElem (by omega)⟩
                have c1 := cS.o0.cellAt i' (.int .i64 (qv : Nat)) (by simp [nats, hqv])
                have hpv : P[i']? = some (P.getD i' 0) := by
                  rw [List.getD_eq_getElem?_getD, List.getElem?_eq_getElem (show i' < P.length by omega)]; rfl
                generalize P.getD i' 0 = pv at *
                have i0 : (0 : Int) ≤ (i' : Int) := Int.natCast_nonneg _
                have i1 : (i' : Int) < (LL.length : Int) := by omega
                have i2 : (i' : Int) < (k : Int) := by omega
                replace cS := hid cS
                go_upto_region 31 with (fail)
                go_quiet (fail)
                replace cS := hid (cS.out.drewN nq)
                clear c0 c1
                by_cases e : qv = pv
                · subst e
                  have de : (((qv : Nat) : Int) != ((qv : Nat) : Int)) = false := by simp
                  have hag2 := hid (show ∀ j, j < i' + 1 → Q[j]? = P[j]? from fun j hj => by
                    by_cases ej : j = i'
                    · subst ej; rw [hqv, hpv]
                    · exact hag.out j (by omega))
                  replace hqv := hid hqv; replace hpv := hid hpv
                  go_wp2
                  go_roundw
                  case rel => exact ⟨i' + 1, by omega, by go_num, hag2, cS.out⟩
                  case measure => simp [intOf]; omega
                · have de : (((qv : Nat) : Int) != ((pv : Nat) : Int)) = true := by simp; omega
                  have hH := hNo.out (fun e2 => by rw [e2, hpv] at hqv; exact e (Option.some.inj hqv).symm)
                  replace hqv := hid hqv; replace hpv := hid hpv
                  go_wp2
                  go_ret2
                  exact ⟨_, by rw [hH]; rfl, by rw [hH]; exact Own.nil _ _ _, cS.out.bel⟩
              · obtain rfl : i' = k := by omega
                have di : decide ((i' : Int) < (LL.length : Int)) = false := decide_eq_false (by omega)
                have hH := hYes.out (List.ext_getElem? fun j => by
                  by_cases hj : j < i'
                  · exact hag.out j hj
                  · rw [List.getElem?_eq_none (by omega), List.getElem?_eq_none (by omega)])
                replace cS := hid cS
                go_wp2
                go_ret2
                exact ⟨_, by rw [hH]; rfl, by rw [hH]; exact cS.out.o1, cS.out.bel⟩
  · have d1 : (((L.length : Nat) : Int) != ((pw d n : Nat) : Int)) = true := by simp; omega
    have d1' : (L.length != pw d n) = true := by simpa using hl0
    have hH := hR0.out (fun h => hl0 (hlen.out h))
    replace hO := hid hO; replace hd := hid hd
    clear hl0 hin hR0 hlen
    generalize pw d n = N at *
    go_enter Try.func134, Try.ntmps134
    go_wp2_with (
      (go_at_call 196; (with_reducible refine (hpn.out _).mono ?_); rintro e w' ⟨rfl, rfl⟩))
    go_ret2
    exact ⟨_, by rw [hH]; rfl, by rw [hH]; exact Own.nil _ _ _, hS.out.bel⟩
set_option maxHeartbeats 2000000 in
set_option maxRecDepth 100000 in
theorem specPor_any (w : World) (d n : Int) (b0 : Nat) (v : Value) (L : List Int) (hO : Own w b0 2 v (ints L)) (hll : L.length < 1000000) :
    Calls Try.prog 37 #[.int .i64 d, .int .i64 n, v] w fun e w' => ∃ v', e = .returned (.tuple #[v', .int .i64 (porAns d n L).2]) ∧ Own w' w.heap.size 2 v' (ints (porAns d n L).1) ∧ Below w.heap.size w w' := by
  have hS := hid (St.start w)
  by_cases hD : IsD d n
  · have hsz := hid (fun W => l03Sizes_any d n true (decide_eq_true hD).symm W)
    obtain ⟨d, n, rfl, rfl, hd, hn1, hn4⟩ := hD.nat
    have hpf := hid (l03Read_any w d n hd hn4 b0 v L hO hll)
    cases hr : (rfm d n L).2 with
    | true =>
      rw [porAns_1 hD hr]
      rw [hr] at hpf
      clear hr hO
      generalize (rfm d n L).1 = G at *
      replace hD := hid hD
      go_enter Try.func37, Try.ntmps37
      go_wp2_with (first
        | (go_at_call 126; (with_reducible refine (hsz.out _).mono ?_); rintro e w' ⟨rfl, rfl⟩)
        | (go_at_call 134; (with_reducible refine (hpf.out).mono ?_); rintro e w2 ⟨v3, rfl, hO3, hb⟩; replace hS := hid (hS.out.callOwn hb hO3); clear hb hO3))
      go_ret2
      exact ⟨_, rfl, hS.out.o0, hS.out.bel⟩
    | false =>
      rw [porAns_0 hD hr]
      rw [hr] at hpf
      clear hr hO
      generalize (rfm d n L).1 = G at *
      replace hD := hid hD
      go_enter Try.func37, Try.ntmps37
      go_wp2_with (first
        | (go_at_call 126; (with_reducible refine (hsz.out _).mono ?_); rintro e w' ⟨rfl, rfl⟩)
        | (go_at_call 134; (with_reducible refine (hpf.out).mono ?_); rintro e w2 ⟨v3, rfl, hO3, hb⟩; replace hS := hid (hS.out.callOwn hb hO3); clear hb hO3))
      go_ret2
      exact ⟨_, rfl, Own.nil _ _ _, hS.out.bel⟩
  · have hsz := hid (fun W => l03Sizes_any d n false (decide_eq_false hD).symm W)
    rw [porAns_d hD]
    clear hO
    replace hD := hid hD
    go_enter Try.func37, Try.ntmps37
    go_wp2_with (
      (go_at_call 126; (with_reducible refine (hsz.out _).mono ?_); rintro e w' ⟨rfl, rfl⟩))
    go_ret2
    exact ⟨_, rfl, Own.nil _ _ _, hS.out.bel⟩
end Go.Proofs.Ytbmkkaecfogmoaa
