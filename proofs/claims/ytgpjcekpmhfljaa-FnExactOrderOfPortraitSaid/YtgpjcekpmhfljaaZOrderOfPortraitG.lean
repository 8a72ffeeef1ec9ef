/- What the proof of OrderOfPortrait leans on, part 7 of 10. -/
import Derived.Test.YtgpjcekpmhfljaaZOrderOfPortraitF
import Derived.DeepKeys
import Derived.Laws.StructEq
/- Portraits: the program's small functions. -/
namespace Go.Proofs.Ytgpjcekpmhfljaa
open Go.RowKit
set_option linter.unusedVariables false
set_option linter.unusedSimpArgs false
-- @LONG

theorem blkc {w : World} {b t : Nat} {v : Value} (h : w.heap[b]? = some (.cells #[v] t (0, 0))) : w.cell? ⟨b, 0, none⟩ = some v := cell_of_row _ _ 0 _ _ _ h

theorem areDepths_any (d n : Int) (r : Bool) (hr : r = decide (IsD d n)) (w : World) :
    Calls Try.prog 84 #[.int .i64 d, .int .i64 n] w fun e w' => e = .returned (.bool r) ∧ w = w' := by
  have hl := hid (fun W => areLetters_any d (decide (2 ≤ d ∧ d ≤ 3)) rfl W)
  have hw := hid (fun W => within_any n 1 4 (decide (1 ≤ n ∧ n ≤ 4)) rfl W)
  by_cases h1 : 2 ≤ d ∧ d ≤ 3
  · have hr2 := hid (show r = decide (1 ≤ n ∧ n ≤ 4) by rw [hr]; unfold IsD; simp [h1])
    rw [decide_eq_true h1] at hl
    generalize decide (1 ≤ n ∧ n ≤ 4) = c at *
    clear h1 hr
    go_enter Try.func84, Try.ntmps84
    go_wp2_with (first
      | (go_at_call 104; (with_reducible refine (hl.out _).mono ?_); rintro e w' ⟨rfl, rfl⟩)
      | (go_at_call 73; (with_reducible refine (hw.out _).mono ?_); rintro e w' ⟨rfl, rfl⟩))
    go_ret
    exact ⟨retB hr2.out.symm, rfl⟩
  · have hr2 := hid (show r = false by rw [hr]; unfold IsD; simp [h1])
    rw [decide_eq_false h1] at hl
    clear h1 hr
    go_enter Try.func84, Try.ntmps84
    go_wp2_with (first
      | (go_at_call 104; (with_reducible refine (hl.out _).mono ?_); rintro e w' ⟨rfl, rfl⟩))
    go_ret
    exact ⟨retB hr2.out.symm, rfl⟩
theorem size_any (d n : Nat) (hd : d = 2 ∨ d = 3) (hn : n ≤ 5) (w : World) :
    Calls Try.prog 113 #[.int .i64 d, .int .i64 n] w fun e w' => e = .returned (.int .i64 (start d n : Nat)) ∧ w = w' := by
  have hb : pw d n ≤ 243 := pw5 hd hn
  have hp := hid (fun W => power_any d n (by omega) (by omega) (by omega) W)
  have hpos := pw_pos d (by omega) n
  have hs := hid (show (((pw d n : Nat) : Int) - 1) / ((d : Int) - 1) = (start d n : Nat) from by
    have h := start_div d (by omega) n
    have e1 : ((pw d n : Nat) : Int) - 1 = ((pw d n - 1 : Nat) : Int) := by omega
    have e2 : (d : Int) - 1 = ((d - 1 : Nat) : Int) := by omega
    rw [e1, e2, ← Int.natCast_ediv, h])
  have ew : IntKind.i64.wrap ((pw d n : Nat) - 1) = ((pw d n : Nat) : Int) - 1 := IntWalk.i64_in _ (by omega)
  have ed : IntKind.i64.wrap ((d : Int) - 1) = (d : Int) - 1 := IntWalk.i64_in _ (by omega)
  have hd1 : (d : Int) - 1 ≠ 0 := by omega
  have hsb : start d n ≤ 243 := by
    have := start_pw d (by omega) n
    have h2 : start d n ≤ start d n * (d - 1) := Nat.le_mul_of_pos_right _ (by omega)
    omega
  generalize pw d n = M at *
  generalize start d n = R at *
  go_enter Try.func113, Try.ntmps113
  go_wp2_with (first
    | (go_at_call 72; (with_reducible refine (hp.out _).mono ?_); rintro e w' ⟨rfl, rfl⟩))
  go_ret
  exact ⟨retI hs.out, rfl⟩

set_option maxHeartbeats 1000000 in
set_option maxRecDepth 100000 in
theorem permutations_any (d : Nat) (hd : d = 2 ∨ d = 3) (w : World) :
    Calls Try.prog 116 #[.int .i64 d] w fun e w' => ∃ v, e = .returned v ∧ Mat w' w.heap.size v (prms d) ∧ Below w.heap.size w w' := by
  rcases hd with rfl | rfl
  · have hS := (((St.start w).newOwn [.int .i64 0, .int .i64 1] 2 (by simp)).newOwn [.int .i64 1, .int .i64 0] 2 (by simp)).newOwn [.slice (some ⟨w.heap.size, 0, none⟩) 2 2, .slice (some ⟨w.heap.size + 1, 0, none⟩) 2 2] 34 (by simp)
    simp only [heap_alloc_size, List.length_cons, List.length_nil, Nat.zero_add, Nat.reduceAdd] at hS
    replace hS := hid hS
    go_enter Try.func116, Try.ntmps116
    go_wp2
    go_ret
    refine ⟨_, rfl, ⟨_, hS.out.o0, rfl, fun i r l hr hl => ?_⟩, hS.out.bel⟩
    match i, hr, hl with
    | 0, hr, hl => simp [prms] at hr hl; subst hr; subst hl; exact hS.out.o2
    | 1, hr, hl => simp [prms] at hr hl; subst hr; subst hl; exact hS.out.o1
    | i + 2, hr, hl => simp at hr
  · have hS := (((((((St.start w).newOwn [.int .i64 0, .int .i64 1, .int .i64 2] 2 (by simp)).newOwn [.int .i64 0, .int .i64 2, .int .i64 1] 2 (by simp)).newOwn [.int .i64 1, .int .i64 0, .int .i64 2] 2 (by simp)).newOwn [.int .i64 1, .int .i64 2, .int .i64 0] 2 (by simp)).newOwn [.int .i64 2, .int .i64 0, .int .i64 1] 2 (by simp)).newOwn [.int .i64 2, .int .i64 1, .int .i64 0] 2 (by simp)).newOwn [.slice (some ⟨w.heap.size, 0, none⟩) 3 3, .slice (some ⟨w.heap.size + 1, 0, none⟩) 3 3, .slice (some ⟨w.heap.size + 1 + 1, 0, none⟩) 3 3, .slice (some ⟨w.heap.size + 1 + 1 + 1, 0, none⟩) 3 3, .slice (some ⟨w.heap.size + 1 + 1 + 1 + 1, 0, none⟩) 3 3, .slice (some ⟨w.heap.size + 1 + 1 + 1 + 1 + 1, 0, none⟩) 3 3] 34 (by simp)
    simp only [heap_alloc_size, List.length_cons, List.length_nil, Nat.zero_add, Nat.reduceAdd] at hS
    replace hS := hid hS
    go_enter Try.func116, Try.ntmps116
    go_wp2
    go_ret
    refine ⟨_, rfl, ⟨_, hS.out.o0, rfl, fun i r l hr hl => ?_⟩, hS.out.bel⟩
    match i, hr, hl with
    | 0, hr, hl => simp [prms] at hr hl; subst hr; subst hl; exact hS.out.drop.o5
    | 1, hr, hl => simp [prms] at hr hl; subst hr; subst hl; exact hS.out.o5
    | 2, hr, hl => simp [prms] at hr hl; subst hr; subst hl; exact hS.out.o4
    | 3, hr, hl => simp [prms] at hr hl; subst hr; subst hl; exact hS.out.o3
    | 4, hr, hl => simp [prms] at hr hl; subst hr; subst hl; exact hS.out.o2
    | 5, hr, hl => simp [prms] at hr hl; subst hr; subst hl; exact hS.out.o1
    | i + 6, hr, hl => simp at hr
/-- A number that no permutation has. -/
def badP (d : Nat) (k : Int) : Bool := !decide (0 ≤ k ∧ k ≤ (cnt d : Int) - 1)
theorem badP_any (d : Nat) (g : List Int) : g.any (badP d) = !decide (∀ k ∈ g, 0 ≤ k ∧ k < (cnt d : Int)) := by
  rw [Bool.eq_iff_iff]
  simp only [List.any_eq_true, badP, Bool.not_eq_true', decide_eq_false_iff_not]
  constructor
  · rintro ⟨x, hx, hn⟩ h; have := h x hx; omega
  · intro h
    apply Classical.byContradiction
    intro hn
    exact h fun k hk => Classical.byContradiction fun hb => hn ⟨k, hk, by omega⟩
set_option maxHeartbeats 1000000 in
theorem isP1_any (b : Nat) (w : World) (d : Nat) (hd : d = 2 ∨ d = 3) (hb : w.cell? ⟨b, 0, none⟩ = some (.int .i64 d)) (k : Int) :
    Calls Try.prog 115 #[.int .i64 k, .pointer (some ⟨b, 0, none⟩)] w fun e w' => e = .returned (.bool (badP d k)) ∧ Below w.heap.size w w' := by
  have hp := hid (fun W => permutations_any d hd W)
  have hpl := hid (prms_length d)
  have hc : cnt d ≤ 6 ∧ 2 ≤ cnt d := by rcases hd with rfl | rfl <;> decide
  have hin := hid (fun W => within_any k 0 ((cnt d : Int) - 1) (decide (0 ≤ k ∧ k ≤ (cnt d : Int) - 1)) rfl W)
  have hr := hid (show badP d k = !decide (0 ≤ k ∧ k ≤ (cnt d : Int) - 1) from rfl)
  have ew : IntKind.i64.wrap ((cnt d : Int) - 1) = (cnt d : Int) - 1 := IntWalk.i64_in _ (by omega)
  generalize badP d k = r at *
  generalize decide (0 ≤ k ∧ k ≤ (cnt d : Int) - 1) = c at *
  generalize cnt d = C at *
  generalize prms d = P at *
  go_enter Try.func115, Try.ntmps115
  go_wp2_with (first
    | (go_at_call 116; (with_reducible refine (hp.out _).mono ?_); rintro e w1 ⟨v, rfl, hM, hb2⟩; obtain ⟨A, cp, rfl⟩ := hM.form; rw [hpl.out]; replace hb2 := hid hb2; clear hM)
    | (go_at_call 73; (with_reducible refine (hin.out _).mono ?_); rintro e w' ⟨rfl, rfl⟩))
  go_ret
  exact ⟨retB hr.out.symm, hb2.out⟩
set_option maxHeartbeats 1000000 in
set_option maxRecDepth 100000 in
theorem indexFuncI_isP (b : Nat) (w : World) (base : Nat) (v : Value) (l : List Int) (h : Own w base 2 v (ints l)) (hl : l.length < 2000000) (p : Int → Bool)
    (hcall : ∀ W, Below w.heap.size w W → ∀ x, x ∈ l → Calls Try.prog 115 #[.int .i64 x, .pointer (some ⟨b, 0, none⟩)] W fun e w' => e = .returned (.bool (p x)) ∧ Below W.heap.size W w') :
    Calls Try.prog 140 #[v, .func (.func 115) #[] #[.pointer (some ⟨b, 0, none⟩)]] w fun e w' => e = .returned (.int .i64 (idxP p l 0)) ∧ Below w.heap.size w w' := by
  have hil := ints_length l
  obtain ⟨A1, c1, rfl, _, _⟩ := h.form
  rw [hil] at h ⊢
  have hget := hid (fun (k : Nat) (x : Int) (hx : l[k]? = some x) => (show (ints l)[k]? = some (.int .i64 x) by simp [ints, hx]))
  have hcell := hid (fun (k : Nat) (x : Int) (hx : l[k]? = some x) => (show ∃ g, A1 = some ⟨g, 0, none⟩ ∧ ∀ W, Below w.heap.size w W → W.cell? ⟨g, k, none⟩ = some (.int .i64 x) from by
    obtain ⟨g1, c2, he, _, hg1⟩ := h.blk (fun e => by have h1 := congrArg List.length e; rw [hil] at h1; have h2 := (List.getElem?_eq_some_iff.1 hx).1; rw [List.length_nil] at h1; omega)
    injection he with e1 e2 e3
    subst e1
    exact ⟨g1, rfl, fun W hW => (h.below hW).cellAt k _ (hget.out k x hx)⟩))
  replace hcall := hid hcall
  clear h hil
  obtain ⟨R, hR⟩ : ∃ R, R = idxP p l 0 := ⟨_, rfl⟩
  rw [← hR]
  replace hR := hid hR
  generalize hn : l.length = n at *
  replace hn := hid hn
  go_enter Try.func140, Try.ntmps140
  go_wp2
  go_loopw [8] (fun i wr => ∃ k : Nat, k ≤ n ∧ i = .int .i64 k ∧ Hid (R = idxP p (l.drop k) k) ∧ Below w.heap.size w wr) (fun i _ => n - (intOf i).toNat)
  case atStart => exact ⟨0, Nat.zero_le _, rfl, hR, Below.refl _ _⟩
  case round =>
    obtain ⟨k, hk, rfl, hA, rB⟩ := hrel
    clear hR
    replace rB := hid rB
    by_cases hlt : k < n
    · obtain ⟨x, hx⟩ : ∃ x, l[k]? = some x := ⟨_, List.getElem?_eq_getElem (by rw [hn.out]; exact hlt)⟩
      obtain ⟨g, rfl, hc⟩ := hcell.out k x hx
      have d1 := hc wr rB.out
      have hcl := hid (hcall.out wr rB.out x (List.mem_of_getElem? hx))
      have hT := hid (fun hp => idxP_drop_t (p := p) hx hp k)
      have hF := hid (fun hp => idxP_drop_f (p := p) hx hp k)
      clear hc hx
      cases hp : p x with
      | true =>
        rw [hp] at hcl
        have hA2 := hid (hA.out.trans (hT.out hp))
        clear hp hT hF
        go_wp2_with (first
          | (go_at_call 115; (with_reducible refine (hcl.out).mono ?_); rintro e w1 ⟨rfl, hb⟩; replace rB := hid (rB.out.trans (hb.mono rB.out.size)); clear hb))
        go_ret
        exact ⟨retI (by rw [hA2.out]), rB.out⟩
      | false =>
        rw [hp] at hcl
        have hA2 := hid (hA.out.trans (hF.out hp))
        clear hp hT hF
        go_wp2_with (first
          | (go_at_call 115; (with_reducible refine (hcl.out).mono ?_); rintro e w1 ⟨rfl, hb⟩; replace rB := hid (rB.out.trans (hb.mono rB.out.size)); clear hb))
        go_roundw
        case rel => exact ⟨k + 1, by omega, by go_num, hA2, rB.out⟩
        case measure => simp [intOf]; omega
    · obtain rfl : k = n := by omega
      have hA2 := hid (hA.out.trans (show _ = (-1 : Int) by rw [List.drop_eq_nil_of_le (by rw [hn.out]; exact Nat.le_refl _)]; rfl))
      go_wp2
      go_ret
      exact ⟨retI (by rw [hA2.out]), rB.out⟩
set_option maxHeartbeats 1000000 in
theorem containsFuncI_isP (b : Nat) (w : World) (base : Nat) (v : Value) (l : List Int) (h : Own w base 2 v (ints l)) (hl : l.length < 2000000) (p : Int → Bool)
    (hcall : ∀ W, Below w.heap.size w W → ∀ x, x ∈ l → Calls Try.prog 115 #[.int .i64 x, .pointer (some ⟨b, 0, none⟩)] W fun e w' => e = .returned (.bool (p x)) ∧ Below W.heap.size W w') :
    Calls Try.prog 114 #[v, .func (.func 115) #[] #[.pointer (some ⟨b, 0, none⟩)]] w fun e w' => e = .returned (.bool (l.any p)) ∧ Below w.heap.size w w' := by
  have hi := hid (indexFuncI_isP b w base v l h hl p hcall)
  have ha := hid (idxP_any p l 0 (Int.le_refl _))
  clear hcall h hl
  generalize idxP p l 0 = r at *
  generalize l.any p = c at *
  go_enter Try.func114, Try.ntmps114
  go_wp2_with (first
    | (go_at_call 140; (with_reducible refine (hi.out).mono ?_); rintro e w1 ⟨rfl, hb⟩; replace hb := hid hb))
  go_ret
  refine ⟨retB ?_, hb.out⟩
  have h := ha.out
  rw [Bool.eq_iff_iff, ← h]
  simp
set_option maxHeartbeats 2000000 in
set_option maxRecDepth 4000 in
theorem isPortrait_any (w : World) (d n : Int) (base : Nat) (v : Value) (g : List Int) (h : Own w base 2 v (ints g)) (hl : g.length < 2000000) (r : Bool) (hr : r = decide (IsD d n ∧ IsP d.toNat n.toNat g)) :
    Calls Try.prog 87 #[.int .i64 d, .int .i64 n, v] w fun e w' => e = .returned (.bool r) ∧ Below w.heap.size w w' := by
  have hS := hid ((St.arg w h).newBlk #[.int .i64 d] 2)
  have hmf : ∀ (fn : Fn) (first cap : Array Value) (w : World), (Instr.makeFunc fn first cap).run Try.prog w = .ok (.func fn first cap) w := fun _ _ _ _ => rfl
  have hil := ints_length g
  obtain ⟨A, c, rfl, _, _⟩ := h.form
  rw [hil] at h hS ⊢
  have had := hid (fun W => areDepths_any d n (decide (IsD d n)) rfl W)
  by_cases hD : IsD d n
  · rw [decide_eq_true hD] at had
    obtain ⟨d, n, rfl, rfl, hd, hn1, hn4⟩ := hD.nat
    simp only [Int.toNat_natCast] at hr
    have hsz := hid (fun W => size_any d n hd (by omega) W)
    have hst := start_le hd hn4
    have hcb := hid (fun W (hW : Own W 0 2 (.slice A g.length c) (ints g)) (hb : W.cell? ⟨w.heap.size, 0, none⟩ = some (.int .i64 d)) (hlt : w.heap.size < W.heap.size) => containsFuncI_isP w.heap.size W 0 _ g hW hl (badP d) (fun W' hW' x _ => isP1_any w.heap.size W' d hd ((hW'.cell hlt).trans hb) x))
    by_cases he : g.length = start d n
    · have e1 : ((g.length : Int) == ((start d n : Nat) : Int)) = true := by simp [he]
      have hr2 := hid (show r = !(g.any (badP d)) by rw [hr, badP_any, Bool.not_not]; exact decide_eq_decide.2 ⟨fun h => h.2.2, fun h => ⟨hD, he, h⟩⟩)
      clear hr he
      generalize g.any (badP d) = q at *
      generalize start d n = R at *
      replace h := hid h
      have c0 := blkc hS.out.k0
      go_enter Try.func87, Try.ntmps87
      go_wp2_with (first
        | (go_at_call 84; (with_reducible refine (had.out _).mono ?_); rintro e w' ⟨rfl, rfl⟩)
        | (go_at_call 113; (with_reducible refine (hsz.out _).mono ?_); rintro e w' ⟨rfl, rfl⟩)
        | (go_at_call 114; (with_reducible refine (hcb.out _ hS.out.o1 (blkc hS.out.k0) (by rw [heap_alloc_size]; omega)).mono ?_); rintro e w2 ⟨rfl, hb⟩; replace hS := hid (hS.out.call hb); clear hb))
      go_ret
      exact ⟨retB hr2.out.symm, hS.out.bel⟩
    · have e1 : ((g.length : Int) == ((start d n : Nat) : Int)) = false := by simp; omega
      have hr2 := hid (show r = false by rw [hr]; exact decide_eq_false fun h => he h.2.1)
      clear hr he
      generalize start d n = R at *
      replace h := hid h
      have c0 := blkc hS.out.k0
      go_enter Try.func87, Try.ntmps87
      go_wp2_with (first
        | (go_at_call 84; (with_reducible refine (had.out _).mono ?_); rintro e w' ⟨rfl, rfl⟩)
        | (go_at_call 113; (with_reducible refine (hsz.out _).mono ?_); rintro e w' ⟨rfl, rfl⟩))
      go_ret
      exact ⟨retB hr2.out.symm, hS.out.bel⟩
  · rw [decide_eq_false hD] at had
    have hr2 := hid (show r = false by rw [hr]; exact decide_eq_false fun h => hD h.1)
    clear hr hD
    replace h := hid h
    have c0 := blkc hS.out.k0
    go_enter Try.func87, Try.ntmps87
    go_wp2_with (first
      | (go_at_call 84; (with_reducible refine (had.out _).mono ?_); rintro e w' ⟨rfl, rfl⟩))
    go_ret
    exact ⟨retB hr2.out.symm, hS.out.bel⟩
/-- Some list is no portrait. -/
def badG (d n : Int) (g : List Int) : Bool := !decide (IsD d n ∧ IsP d.toNat n.toNat g)
set_option maxHeartbeats 1000000 in
theorem pc1_any (b b2 : Nat) (w : World) (d n : Int) (hb : w.cell? ⟨b, 0, none⟩ = some (.int .i64 d)) (hb2 : w.cell? ⟨b2, 0, none⟩ = some (.int .i64 n)) (base : Nat) (v : Value) (g : List Int) (h : Own w base 2 v (ints g)) (hl : g.length < 2000000) :
    Calls Try.prog 86 #[v, .pointer (some ⟨b, 0, none⟩), .pointer (some ⟨b2, 0, none⟩)] w fun e w' => e = .returned (.bool (badG d n g)) ∧ Below w.heap.size w w' := by
  have hi := hid (isPortrait_any w d n base v g h hl (decide (IsD d n ∧ IsP d.toNat n.toNat g)) rfl)
  have hr := hid (show badG d n g = !decide (IsD d n ∧ IsP d.toNat n.toNat g) from rfl)
  rw [hr.out]
  clear h hr
  generalize decide (IsD d n ∧ IsP d.toNat n.toNat g) = r at *
  go_enter Try.func86, Try.ntmps86
  go_wp2_with (first
    | (go_at_call 87; (with_reducible refine (hi.out).mono ?_); rintro e w1 ⟨rfl, hb⟩; have hB := hid hb; clear hb))
  go_ret
  exact ⟨rfl, hB.out⟩
set_option maxHeartbeats 1000000 in
set_option maxRecDepth 100000 in
theorem indexFuncM_pc (b b2 : Nat) (w : World) (base : Nat) (v : Value) (M : List (List Int)) (h : Mat w base v M) (hl : M.length < 2000000) (p : List Int → Bool)
    (hcall : ∀ W, Below w.heap.size w W → ∀ r row, row ∈ M → Own W base 2 r (ints row) → Calls Try.prog 86 #[r, .pointer (some ⟨b, 0, none⟩), .pointer (some ⟨b2, 0, none⟩)] W fun e w' => e = .returned (.bool (p row)) ∧ Below W.heap.size W w') :
    Calls Try.prog 112 #[v, .func (.func 86) #[] #[.pointer (some ⟨b, 0, none⟩), .pointer (some ⟨b2, 0, none⟩)]] w fun e w' => e = .returned (.int .i64 (idxP p M 0)) ∧ Below w.heap.size w w' := by
  obtain ⟨rows, hO, hrl, hrow⟩ := h
  obtain ⟨A1, c1, rfl, _, _⟩ := hO.form
  rw [hrl] at hO ⊢
  have hcell := hid (fun (k : Nat) (x : List Int) (hx : M[k]? = some x) => (show ∃ g r, A1 = some ⟨g, 0, none⟩ ∧ ∀ W, Below w.heap.size w W → W.cell? ⟨g, k, none⟩ = some r ∧ Own W base 2 r (ints x) from by
    have hk := (List.getElem?_eq_some_iff.1 hx).1
    obtain ⟨g1, c2, he, _, hg1⟩ := hO.blk (fun e => by rw [e] at hrl; rw [← hrl] at hk; simp at hk)
    injection he with e1 e2 e3
    subst e1
    obtain ⟨r, hr⟩ : ∃ r, rows[k]? = some r := ⟨_, List.getElem?_eq_getElem (by rw [hrl]; exact hk)⟩
    exact ⟨g1, r, rfl, fun W hW => ⟨(hO.below hW).cellAt k _ hr, (hrow k r x hr hx).below hW⟩⟩))
  replace hcall := hid hcall
  clear hO hrow
  obtain ⟨R, hR⟩ : ∃ R, R = idxP p M 0 := ⟨_, rfl⟩
  rw [← hR]
  replace hR := hid hR
  generalize hn : M.length = n at *
  replace hn := hid hn
  go_enter Try.func112, Try.ntmps112
  go_wp2
  go_loopw [8] (fun i wr => ∃ k : Nat, k ≤ n ∧ i = .int .i64 k ∧ Hid (R = idxP p (M.drop k) k) ∧ Below w.heap.size w wr) (fun i _ => n - (intOf i).toNat)
  case atStart => exact ⟨0, Nat.zero_le _, rfl, hR, Below.refl _ _⟩
  case round =>
    obtain ⟨k, hk, rfl, hA, rB⟩ := hrel
    clear hR
    replace rB := hid rB
    by_cases hlt : k < n
    · obtain ⟨x, hx⟩ : ∃ x, M[k]? = some x := ⟨_, List.getElem?_eq_getElem (by rw [hn.out]; exact hlt)⟩
      obtain ⟨g, r, rfl, hc⟩ := hcell.out k x hx
      have d1 := (hc wr rB.out).1
      have hcl := hid (hcall.out wr rB.out r x (List.mem_of_getElem? hx) (hc wr rB.out).2)
      have hT := hid (fun hp => idxP_drop_t (p := p) hx hp k)
      have hF := hid (fun hp => idxP_drop_f (p := p) hx hp k)
      clear hc hx
      cases hp : p x with
      | true =>
        rw [hp] at hcl
        have hA2 := hid (hA.out.trans (hT.out hp))
        clear hp hT hF
        go_wp2_with (first
          | (go_at_call 86; (with_reducible refine (hcl.out).mono ?_); rintro e w1 ⟨rfl, hb⟩; replace rB := hid (rB.out.trans (hb.mono rB.out.size)); clear hb))
        go_ret
        exact ⟨retI (by rw [hA2.out]), rB.out⟩
      | false =>
        rw [hp] at hcl
        have hA2 := hid (hA.out.trans (hF.out hp))
        clear hp hT hF
        go_wp2_with (first
          | (go_at_call 86; (with_reducible refine (hcl.out).mono ?_); rintro e w1 ⟨rfl, hb⟩; replace rB := hid (rB.out.trans (hb.mono rB.out.size)); clear hb))
        go_roundw
        case rel => exact ⟨k + 1, by omega, by go_num, hA2, rB.out⟩
        case measure => simp [intOf]; omega
    · obtain rfl : k = n := by omega
      have hA2 := hid (hA.out.trans (show _ = (-1 : Int) by rw [List.drop_eq_nil_of_le (by rw [hn.out]; exact Nat.le_refl _)]; rfl))
      go_wp2
      go_ret
      exact ⟨retI (by rw [hA2.out]), rB.out⟩
set_option maxHeartbeats 1000000 in
theorem containsFuncM_pc (b b2 : Nat) (w : World) (base : Nat) (v : Value) (M : List (List Int)) (h : Mat w base v M) (hl : M.length < 2000000) (p : List Int → Bool)
    (hcall : ∀ W, Below w.heap.size w W → ∀ r row, row ∈ M → Own W base 2 r (ints row) → Calls Try.prog 86 #[r, .pointer (some ⟨b, 0, none⟩), .pointer (some ⟨b2, 0, none⟩)] W fun e w' => e = .returned (.bool (p row)) ∧ Below W.heap.size W w') :
    Calls Try.prog 85 #[v, .func (.func 86) #[] #[.pointer (some ⟨b, 0, none⟩), .pointer (some ⟨b2, 0, none⟩)]] w fun e w' => e = .returned (.bool (M.any p)) ∧ Below w.heap.size w w' := by
  have hi := hid (indexFuncM_pc b b2 w base v M h hl p hcall)
  have ha := hid (idxP_any p M 0 (Int.le_refl _))
  clear hcall h hl
  generalize idxP p M 0 = r at *
  generalize M.any p = c at *
  go_enter Try.func85, Try.ntmps85
  go_wp2_with (first
    | (go_at_call 112; (with_reducible refine (hi.out).mono ?_); rintro e w1 ⟨rfl, hb⟩; replace hb := hid hb))
  go_ret
  refine ⟨retB ?_, hb.out⟩
  have h := ha.out
  rw [Bool.eq_iff_iff, ← h]
  simp
set_option maxHeartbeats 2000000 in
set_option maxRecDepth 4000 in
theorem portraitCode_any (w : World) (d n : Int) (base : Nat) (v : Value) (M : List (List Int)) (h : Mat w base v M) (hl : M.length < 2000000) (hlr : ∀ row ∈ M, row.length < 2000000) :
    Calls Try.prog 51 #[.int .i64 d, .int .i64 n, v] w fun e w' => e = .returned (.int .i64 (pcode d n M)) ∧ Below w.heap.size w w' := by
  have hS := ((St.start w).newBlk #[.int .i64 d] 2).newBlk #[.int .i64 n] 2
  rw [heap_alloc_size] at hS
  replace hS := hid hS
  have hmf : ∀ (fn : Fn) (first cap : Array Value) (w : World), (Instr.makeFunc fn first cap).run Try.prog w = .ok (.func fn first cap) w := fun _ _ _ _ => rfl
  have had := hid (fun W => areDepths_any d n (decide (IsD d n)) rfl W)
  have c0 := blkc hS.out.k0
  have c1 := blkc hS.out.k1
  by_cases hD : IsD d n
  · rw [decide_eq_true hD] at had
    have hpc := hid (show pcode d n M = if M.any (badG d n) = true then 1 else 0 by
      unfold pcode
      rw [if_pos hD]
      by_cases hh : ∀ g ∈ M, IsP d.toNat n.toNat g
      · rw [if_pos hh, if_neg]
        rw [List.any_eq_true]
        rintro ⟨x, hx, hb⟩
        unfold badG at hb
        simp [hD, hh x hx] at hb
      · rw [if_neg hh, if_pos]
        rw [List.any_eq_true]
        apply Classical.byContradiction
        intro hn
        refine hh fun g hg => Classical.byContradiction fun hb => hn ⟨g, hg, ?_⟩
        unfold badG
        simp [hb])
    have hc := hid (fun W (hM : Mat W base v M) (h0 : W.cell? ⟨w.heap.size, 0, none⟩ = some (.int .i64 d)) (h1 : W.cell? ⟨w.heap.size + 1, 0, none⟩ = some (.int .i64 n)) (hlt : w.heap.size + 1 < W.heap.size) =>
      containsFuncM_pc w.heap.size (w.heap.size + 1) W base v M hM hl (badG d n) (fun W' hW' r row hr hO => pc1_any _ _ W' d n ((hW'.cell (by dsimp only; omega)).trans h0) ((hW'.cell (by dsimp only; omega)).trans h1) base r row hO (hlr row hr)))
    have hM2 := hid (h.below hS.out.bel)
    replace h := hid h
    clear hD
    rw [hpc.out]
    clear hpc
    generalize M.any (badG d n) = q at *
    cases q with
    | true =>
      go_enter Try.func51, Try.ntmps51
      go_wp2_with (first
        | (go_at_call 84; (with_reducible refine (had.out _).mono ?_); rintro e w' ⟨rfl, rfl⟩)
        | (go_at_call 85; (with_reducible refine (hc.out _ hM2.out (blkc hS.out.k1) (blkc hS.out.k0) (by rw [heap_alloc_size, heap_alloc_size]; omega)).mono ?_); rintro e w2 ⟨rfl, hb⟩; replace hS := hid (hS.out.call hb); clear hb))
      go_ret
      exact ⟨rfl, hS.out.bel⟩
    | false =>
      go_enter Try.func51, Try.ntmps51
      go_wp2_with (first
        | (go_at_call 84; (with_reducible refine (had.out _).mono ?_); rintro e w' ⟨rfl, rfl⟩)
        | (go_at_call 85; (with_reducible refine (hc.out _ hM2.out (blkc hS.out.k1) (blkc hS.out.k0) (by rw [heap_alloc_size, heap_alloc_size]; omega)).mono ?_); rintro e w2 ⟨rfl, hb⟩; replace hS := hid (hS.out.call hb); clear hb))
      go_ret
      exact ⟨rfl, hS.out.bel⟩
  · rw [decide_eq_false hD] at had
    have hpc := hid (show pcode d n M = 2 by unfold pcode; rw [if_neg hD])
    rw [hpc.out]
    replace h := hid h
    clear hD hpc
    go_enter Try.func51, Try.ntmps51
    go_wp2_with (first
      | (go_at_call 84; (with_reducible refine (had.out _).mono ?_); rintro e w' ⟨rfl, rfl⟩))
    go_ret
    exact ⟨rfl, hS.out.bel⟩
theorem place_any (d : Nat) (hd : d = 2 ∨ d = 3) (u : List Nat) (hu : ∀ x ∈ u, x < d) (hn : u.length ≤ 5) (w : World) :
    Calls Try.prog 120 #[.int .i64 d, .string (wstr u)] w fun e w' => e = .returned (.int .i64 (start d u.length + num d u : Nat)) ∧ w = w' := by
  have hb : pw d u.length ≤ 243 := pw5 hd hn
  have hs := hid (fun W => size_any d u.length hd hn W)
  have hnm := hid (fun W => numberOf_any d (by omega) (by omega) u hu (by omega) (by omega) W)
  have hlt := num_lt d u.length u rfl hu
  have hsz := wstr_size u
  have hst : start d u.length ≤ 243 := by
    have := start_pw d (by omega) u.length
    have h2 : start d u.length ≤ start d u.length * (d - 1) := Nat.le_mul_of_pos_right _ (by omega)
    omega
  generalize num d u = N at *
  generalize start d u.length = R at *
  clear hu
  generalize u.length = L at *
  generalize wstr u = ws at *
  go_enter Try.func120, Try.ntmps120
  go_wp2_with (first
    | (go_at_call 113; (with_reducible refine (hs.out _).mono ?_); rintro e w' ⟨rfl, rfl⟩)
    | (go_at_call 119; (with_reducible refine (hnm.out _).mono ?_); rintro e w' ⟨rfl, rfl⟩))
  go_ret
  exact ⟨retI (by simp), rfl⟩
end Go.Proofs.Ytgpjcekpmhfljaa

/- SectionOfPortrait: what the program answers. -/
namespace Go.Proofs.Ytgpjcekpmhfljaa
open Go.RowKit
set_option linter.unusedVariables false
set_option linter.unusedSimpArgs false
-- @LONG

open Classical in
/-- What SectionOfPortrait answers. -/
noncomputable def sopAns (d n : Int) (g : List Int) (ws : ByteArray) : List Int × Int :=
  if pcode d n [g] = 0 then (if IsWd d ws then (if (ws.size : Int) < n then (byL d.toNat (fun u => gAt d.toNat g (lets ws ++ u)) (n.toNat - ws.size), 0) else ([], 2)) else ([], 1)) else ([], pcode d n [g])
theorem pcode_cases (d n : Int) (g : List Int) : pcode d n [g] = 1 ∨ pcode d n [g] = 2 ∨ (pcode d n [g] = 0 ∧ ∃ (a b : Nat), d = a ∧ n = b ∧ (a = 2 ∨ a = 3) ∧ 1 ≤ b ∧ b ≤ 4 ∧ IsP a b g) := by
  unfold pcode
  by_cases h : IsD d n
  · rw [if_pos h]
    obtain ⟨a, b, rfl, rfl, h1, h2, h3⟩ := h.nat
    by_cases h4 : IsP a b g
    · rw [if_pos (by simpa using h4)]
      exact .inr (.inr ⟨rfl, a, b, rfl, rfl, h1, h2, h3, h4⟩)
    · rw [if_neg (by simpa using h4)]
      exact .inl rfl
  · rw [if_neg h]
    exact .inr (.inl rfl)
theorem gAt_in {d n : Nat} {g : List Int} (hd : d = 2 ∨ d = 3) (hg : IsP d n g) (u : List Nat) (hu : ∀ x ∈ u, x < d) (hn : u.length < n) :
    start d u.length + num d u < g.length ∧ g[start d u.length + num d u]? = some (gAt d g u) := by
  have h1 := num_lt d u.length u rfl hu
  have h2 : start d (u.length + 1) = start d u.length + pw d u.length := rfl
  have h3 := start_mono d (u.length + 1) (n - (u.length + 1))
  rw [show u.length + 1 + (n - (u.length + 1)) = n by omega] at h3
  have h4 : start d u.length + num d u < g.length := by rw [hg.1]; omega
  exact ⟨h4, by unfold gAt; rw [List.getD_eq_getElem?_getD, List.getElem?_eq_getElem h4]; rfl⟩
theorem gAt_range {d n : Nat} {g : List Int} (hd : d = 2 ∨ d = 3) (hg : IsP d n g) (u : List Nat) (hu : ∀ x ∈ u, x < d) (hn : u.length < n) : 0 ≤ gAt d g u ∧ gAt d g u < (cnt d : Int) :=
  hg.2 _ (List.mem_of_getElem? (gAt_in hd hg u hu hn).2)
theorem mat1 {W : World} {b : Nat} {vv r : Value} {g : List Int} (h : Own W b 34 vv [r]) (hr : Own W b 2 r (ints g)) : Mat W b vv [g] :=
  ⟨_, h, rfl, fun i r' l h1 h2 => by
    match i, h1, h2 with
    | 0, h1, h2 => simp at h1 h2; subst h1; subst h2; exact hr
    | i + 1, h1, h2 => simp at h1⟩
section
variable {ops : Array Oper} {C : World → Prop} {Q : Act → Prop} {a : Act} {o : Oper} {rest : List Oper}
/-- Two texts joined, in a region that only reads. -/
theorem quiet_add (hw : Region.wanted o (yielded ops a.tmps) = true) (x y : Operand) (t t2 : TypeId) (ho : o.op = .binOp .add t x y t2) (s1 s2 : ByteArray) (hx : a.eval x = .string s1) (hy : a.eval y = .string s2) (hs : s1.size + s2.size ≤ 9223372036854775807)
    (h : wpQuiet Try.prog ops C Q rest (a.put o.dst (.string (s1 ++ s2)))) : wpQuiet Try.prog ops C Q (o :: rest) a :=
  BigFrame.wpQuiet_want hw fun K hK => ⟨.string (s1 ++ s2), fun w _ => by
    have e : (execOp a.eval o).run Try.prog w = .ok (.value (.string (s1 ++ s2))) w := by
      unfold execOp
      simp only [ho, hx, hy]
      have e2 : (Op.stringOp .add s1 s2).run Try.prog w = .ok (.string (s1 ++ s2)) w := by apply run_string_add_sum; exact hs
      simp [go_sem, e2]
    unfold Oper.quietAt
    rw [e]
    exact ⟨rfl, rfl⟩, hK _ h⟩
end
end Go.Proofs.Ytgpjcekpmhfljaa

/- Group words: the reference's l02Numbers, l02Is, l02Code, l01Letters, l01Word, l02Both. -/
namespace Go.Proofs.Ytgpjcekpmhfljaa
open Go.RowKit
set_option linter.unusedVariables false
set_option linter.unusedSimpArgs false
-- @LONG

set_option maxHeartbeats 2000000 in
set_option maxRecDepth 100000 in
theorem l02Numbers_any (w : World) (m : Mach) (l s : Nat) (gd : Good m l s) (base : Nat) (v : Value) (g : List Int) (h : Own w base 2 v (ints g)) (hl : g.length < 2000000) :
    Calls Try.prog 154 #[.agg (mcells m), v] w fun e w' => e = .returned (.bool (!(g.any (badNum s)))) ∧ Below w.heap.size w w' := by
  have hil := ints_length g
  obtain ⟨A, c, rfl, _, _⟩ := h.form
  rw [hil] at h ⊢
  have hcell := hid (fun (k : Nat) (y : Int) (hy : g[k]? = some y) => (show ∃ gA, A = some ⟨gA, 0, none⟩ ∧ ∀ W, Below w.heap.size w W → W.cell? ⟨gA, k, none⟩ = some (.int .i64 y) from by
    obtain ⟨g1, c2, he, _, hg1⟩ := h.blk (fun e => by have h1 := congrArg List.length e; rw [hil] at h1; have h2 := (List.getElem?_eq_some_iff.1 hy).1; rw [List.length_nil] at h1; omega)
    injection he with e1 e2 e3
    subst e1
    exact ⟨g1, rfl, fun W hW => (h.below hW).cellAt k _ (by simp [ints, hy])⟩))
  have hS := hid ((St.start w).newMB m 29)
  have gS := hid gd.S
  have s16 := gd.s16
  obtain ⟨R, hR⟩ : ∃ R, R = g.any (badNum s) := ⟨_, rfl⟩
  rw [← hR]
  replace hR := hid hR
  have e1 : IntKind.i64.wrap (-(s : Int)) = -(s : Int) := IntWalk.i64_in _ (by omega)
  have hdrop := hid (fun (k : Nat) (x : Int) (hx : g[k]? = some x) => (show (g.drop k).any (badNum s) = (badNum s x || (g.drop (k + 1)).any (badNum s)) by
    have hk := (List.getElem?_eq_some_iff.1 hx).1
    rw [List.drop_eq_getElem_cons hk, (List.getElem?_eq_some_iff.1 hx).2, List.any_cons]))
  clear h hil
  replace gd := hid gd
  generalize hn : g.length = n at *
  replace hn := hid hn
  go_enter Try.func154, Try.ntmps154
  go_wp2
  go_loopw [5] (fun i wr => ∃ k : Nat, k ≤ n ∧ i = .int .i64 k ∧ Hid (R = (g.drop k).any (badNum s)) ∧ St w.heap.size w [Asn.mb 29 w.heap.size m] wr) (fun i _ => n - (intOf i).toNat)
  case atStart => exact ⟨0, Nat.zero_le _, rfl, hR, hS.out⟩
  case round =>
    obtain ⟨k, hk, rfl, hA, rS⟩ := hrel
    clear hS hR
    replace rS := hid rS
    by_cases hlt : k < n
    · have dc : decide ((k : Int) < (n : Int)) = true := decide_eq_true (by omega)
      obtain ⟨x, hx⟩ : ∃ x, g[k]? = some x := ⟨_, List.getElem?_eq_getElem (by rw [hn.out]; exact hlt)⟩
      obtain ⟨gA, rfl, hc⟩ := hcell.out k x hx
      have d1 := hc wr rS.out.bel
      have cS := rS.out.m0.cS
      rw [gS.out] at cS
      have k0 : (0 : Int) ≤ (k : Int) := Int.natCast_nonneg _
      have k1 : (k : Int) < (n : Int) := by omega
      have hd := hid (hA.out.trans (hdrop.out k x hx))
      have hin := hid (fun d => l01In_any x (-(s : Int)) s (decide (-(s : Int) ≤ x ∧ x ≤ s)) rfl (wr.drewN d))
      have hbn := hid (show badNum s x = ((x == 0) || !decide (-(s : Int) ≤ x ∧ x ≤ s)) from rfl)
      clear hc hx
      generalize decide (-(s : Int) ≤ x ∧ x ≤ s) = c0 at *
      cases hx0 : x == 0 with
      | true =>
        have hfin := hid (show R = true by rw [hd.out, hbn.out, hx0]; rfl)
        go_upto_region 4 with (fail)
        go_quiet (fail)
        go_wp2
        go_ret
        exact ⟨retB (by rw [hfin.out]; rfl), below_drewN rS.out.bel _⟩
      | false =>
        have hbn2 := hid (show badNum s x = !c0 by rw [hbn.out, hx0]; rfl)
        cases c0 with
        | true =>
          have hA2 := hid (show R = (g.drop (k + 1)).any (badNum s) by rw [hd.out, hbn2.out]; rfl)
          clear hbn hbn2 hd hA
          go_upto_region 4 with (fail)
          go_quiet ((go_at_call 55; exact quiet_same (hin.out _)))
          go_wp2
          go_roundw
          case rel => exact ⟨k + 1, by omega, by go_num, hA2, rS.out.drewN _⟩
          case measure => simp [intOf]; omega
        | false =>
          have hfin := hid (show R = true by rw [hd.out, hbn2.out]; rfl)
          clear hbn hbn2 hd hA
          go_upto_region 4 with (fail)
          go_quiet ((go_at_call 55; exact quiet_same (hin.out _)))
          go_wp2
          go_ret
          exact ⟨retB (by rw [hfin.out]; rfl), below_drewN rS.out.bel _⟩
    · obtain rfl : k = n := by omega
      have dc : decide ((k : Int) < (k : Int)) = false := decide_eq_false (by omega)
      have hfin := hid (show R = false by rw [hA.out, List.drop_eq_nil_of_le (by rw [hn.out]; exact Nat.le_refl _)]; rfl)
      go_wp2
      go_ret
      exact ⟨retB (by rw [hfin.out]; rfl), rS.out.bel⟩
set_option maxHeartbeats 1000000 in
theorem l02Is_any (w : World) (m : Mach) (l s : Nat) (gd : Good m l s) (base : Nat) (v : Value) (g : List Int) (h : Own w base 2 v (ints g)) (hl : g.length < 2000000) (r : Bool) (hr : Tells r (IsGw m g)) :
    Calls Try.prog 131 #[.agg (mcells m), v] w fun e w' => e = .returned (.bool r) ∧ Below w.heap.size w w' := by
  have hil := ints_length g
  have hS := hid ((St.start w).newMB m 29)
  have hnu := hid (fun W (hW : Below w.heap.size w W) => l02Numbers_any W m l s gd base v g (h.below hW) hl)
  have hS2 : m.S.toNat = s := by rw [gd.S]; rfl
  have hgw : IsGw m g ↔ g.length ≤ 40 ∧ ∀ k ∈ g, isNum s k := by unfold IsGw; rw [hS2]; exact ⟨fun h => h.2, fun h => ⟨gd.isM, h⟩⟩
  have hb := badAny_iff s g
  have hr2 := hr.out
  obtain ⟨A, c, rfl, _, _⟩ := h.form
  rw [hil] at *
  clear h hr
  by_cases h40 : g.length ≤ 40
  · have d1 : decide ((40 : Int) < (g.length : Int)) = false := decide_eq_false (by omega)
    have hfin : Hid ((!(g.any (badNum s))) = r) := by
      refine hid ?_
      rw [Bool.eq_iff_iff, hr2, hgw]
      cases hh : g.any (badNum s)
      · rw [hh] at hb
        simp only [Bool.not_false, true_iff]
        exact ⟨h40, Classical.byContradiction fun hn => by have := hb.2 hn; cases this⟩
      · simp only [Bool.not_true, Bool.false_eq_true, false_iff]
        exact fun hn => (hb.1 hh) hn.2
    rw [hfin.out] at hnu
    clear hr2 hgw hb hfin; replace gd := hid gd
    generalize g.length = n at *
    go_enter Try.func131, Try.ntmps131
    go_wp2_with (first
      | ((with_reducible refine gate (N := 8) rfl ?_); refine load_mach rfl _ rfl w.heap.size rfl m hS.out.m0 ?_)
      | (go_at_call 154; (with_reducible refine (hnu.out _ hS.out.bel).mono ?_); rintro e w1 ⟨rfl, hb⟩; replace hS := hid (hS.out.call hb); clear hb))
    go_ret
    exact ⟨rfl, hS.out.bel⟩
  · have d1 : decide ((40 : Int) < (g.length : Int)) = true := decide_eq_true (by omega)
    have hfin : Hid (r = false) := by
      refine hid ?_
      rw [Bool.eq_false_iff, Ne, hr2, hgw]
      exact fun hn => h40 hn.1
    clear hr2 hgw hb; replace gd := hid gd
    generalize g.length = n at *
    go_enter Try.func131, Try.ntmps131
    go_wp2
    go_ret
    exact ⟨retB hfin.out.symm, hS.out.bel⟩
end Go.Proofs.Ytgpjcekpmhfljaa

/- The reference's l02Code, l01Letters, l01Word, l02Both. -/
namespace Go.Proofs.Ytgpjcekpmhfljaa
open Go.RowKit
set_option linter.unusedVariables false
set_option linter.unusedSimpArgs false
-- @LONG

open Classical in
/-- The code of a machine and group words. -/
noncomputable def codG (m : Mach) (M : List (List Int)) : Int := if IsM m ∧ ∀ row ∈ M, IsGw m row then 0 else 1
theorem codG_0 {m : Mach} {M : List (List Int)} (h : IsM m) (hM : ∀ row ∈ M, IsGw m row) : codG m M = 0 := by unfold codG; rw [if_pos ⟨h, hM⟩]
theorem codG_1 {m : Mach} {M : List (List Int)} (h : ¬ (IsM m ∧ ∀ row ∈ M, IsGw m row)) : codG m M = 1 := by unfold codG; rw [if_neg h]
theorem codG_y {m : Mach} {g : List Int} (h : IsGw m g) : codG m [g] = 0 := codG_0 h.1 (by simp; exact h)
theorem codG_n {m : Mach} {g : List Int} (h : ¬ IsGw m g) : codG m [g] = 1 := codG_1 (fun k => h (k.2 g (by simp)))

set_option maxHeartbeats 2000000 in
set_option maxRecDepth 100000 in
theorem l02Code_any (w : World) (m : Mach) (hk : m.Ok) (base : Nat) (v : Value) (M : List (List Int)) (h : Mat w base v M) (hl : M.length < 2000000) (hlr : ∀ row ∈ M, row.length < 2000000) :
    Calls Try.prog 100 #[.agg (mcells m), v] w fun e w' => e = .returned (.int .i64 (codG m M)) ∧ Below w.heap.size w w' := by
  have hS := hid ((St.start w).newMB m 29)
  by_cases hm : IsM m
  · obtain ⟨l, s, gd⟩ := hm.good
    obtain ⟨rows, hO, hrl, hrow⟩ := h
    obtain ⟨A1, c1, rfl, _, _⟩ := hO.form
    rw [hrl] at hO ⊢
    have hcell := hid (fun (k : Nat) (x : List Int) (hx : M[k]? = some x) => (show ∃ g r, A1 = some ⟨g, 0, none⟩ ∧ ∀ W, Below w.heap.size w W → W.cell? ⟨g, k, none⟩ = some r ∧ Own W base 2 r (ints x) from by
      have hk := (List.getElem?_eq_some_iff.1 hx).1
      obtain ⟨g1, c2, he, _, hg1⟩ := hO.blk (fun e => by rw [e] at hrl; rw [← hrl] at hk; simp at hk)
      injection he with e1 e2 e3
      subst e1
      obtain ⟨r, hr⟩ : ∃ r, rows[k]? = some r := ⟨_, List.getElem?_eq_getElem (by rw [hrl]; exact hk)⟩
      exact ⟨g1, r, rfl, fun W hW => ⟨(hO.below hW).cellAt k _ hr, (hrow k r x hr hx).below hW⟩⟩))
    have hi := hid (fun W => l01Is_any W m hk true ⟨fun _ => hm, fun _ => rfl⟩)
    have his := hid (fun W r row (hr : row ∈ M) (hO : Own W base 2 r (ints row)) (c : Bool) (hc : Tells c (IsGw m row)) => l02Is_any W m l s gd base r row hO (hlr row hr) c hc)
    obtain ⟨R, hR⟩ : ∃ R, R = codG m M := ⟨_, rfl⟩
    rw [← hR]
    replace hR := hid hR; replace hm := hid hm; replace gd := hid gd; replace hk := hid hk
    clear hO hrow
    generalize hn : M.length = n at *
    replace hn := hid hn
    go_enter Try.func100, Try.ntmps100
    go_wp2_with (first
      | ((with_reducible refine gate (N := 6) rfl ?_); refine load_mach rfl _ rfl w.heap.size rfl m hS.out.m0 ?_)
      | (go_at_call 92; (with_reducible refine (hi.out _).mono ?_); rintro e w1 ⟨rfl, hb⟩; replace hS := hid (hS.out.call hb); clear hi; clear hb))
    go_loopw [5] (fun i wr => ∃ k : Nat, k ≤ n ∧ i = .int .i64 k ∧ Hid (∀ j row, j < k → M[j]? = some row → IsGw m row) ∧ St w.heap.size w [Asn.mb 29 w.heap.size m] wr) (fun i _ => n - (intOf i).toNat)
    case atStart => exact ⟨0, Nat.zero_le _, rfl, (fun j row hj => absurd hj (by omega)), hS.out⟩
    case round =>
      obtain ⟨k, hk, rfl, hA, rS⟩ := hrel
      clear hS
      replace rS := hid rS
      by_cases hlt : k < n
      · have dc : decide ((k : Int) < (n : Int)) = true := decide_eq_true (by omega)
        obtain ⟨x, hx⟩ : ∃ x, M[k]? = some x := ⟨_, List.getElem?_eq_getElem (by rw [hn.out]; exact hlt)⟩
        obtain ⟨g, r, rfl, hc⟩ := hcell.out k x hx
        have k0 : (0 : Int) ≤ (k : Int) := Int.natCast_nonneg _
        have k1 : (k : Int) < (n : Int) := by omega
        replace hc := hid hc
        go_upto_region 6 with (fail)
        replace rS := hid rS.out.drew
        refine wp_region_heldL (L := [(5, (fun w' : World => MB w' 29 w.heap.size m ∧ w'.cell? ⟨g, k, none⟩ = some r))]) (by kernel_rfl) (HeldL.cons (fun _ => ⟨rS.out.m0, (hc.out _ rS.out.bel).1⟩) HeldL.nil) (fun hHeld => ?_)
        generalize wr.drew = wa at *
        refine wpAnyL_takeP (i := 0) 5 [] (v := (.agg (mcells m))) (fun w' : World => MB w' 29 w.heap.size m ∧ w'.cell? ⟨g, k, none⟩ = some r) rfl (by kernel_rfl) (by kernel_rfl) (by kernel_rfl) (by rfl) (by kernel_rfl) (by simp) (fun _ _ _ h => h) (Or.inl ⟨by rfl, ?_⟩) (by assumption) ?_
        · (intro W hW; exact exec_load _ rfl rfl (load_run hW.1))
        intro hHeld'
        clear hHeld; have hHeld := hHeld'; clear hHeld'
        try simp only [Act.put, List.getElem_toArray, List.getElem_cons_succ, List.getElem_cons_zero, List.setIfInBounds_toArray, List.set_cons_zero, List.set_cons_succ]
        refine wpAnyL_take0 (i := 1) (v := ?_) rfl (by kernel_rfl) (by kernel_rfl) (by kernel_rfl) (by rfl) (fun _ _ _ h => h) (Or.inl ⟨by rfl, ?_⟩) (by assumption) ?_
        rotate_left
        · (intro W _; go_simp; (with_reducible rfl))
        intro hHeld'
        clear hHeld; have hHeld := hHeld'; clear hHeld'
        try simp only [Act.put, List.getElem_toArray, List.getElem_cons_succ, List.getElem_cons_zero, List.setIfInBounds_toArray, List.set_cons_zero, List.set_cons_succ]
        refine wpAnyL_take0 (i := 2) (v := ?_) rfl (by kernel_rfl) (by kernel_rfl) (by kernel_rfl) (by rfl) (fun _ _ _ h => h) (Or.inl ⟨by rfl, ?_⟩) (by assumption) ?_
        rotate_left
        · (intro W _; go_simp; (with_reducible rfl))
        intro hHeld'
        clear hHeld; have hHeld := hHeld'; clear hHeld'
        try simp only [Act.put, List.getElem_toArray, List.getElem_cons_succ, List.getElem_cons_zero, List.setIfInBounds_toArray, List.set_cons_zero, List.set_cons_succ]
        refine wpAnyL_take0 (i := 3) (v := ?_) rfl (by kernel_rfl) (by kernel_rfl) (by kernel_rfl) (by rfl) (fun _ _ _ h => h) (Or.inl ⟨by rfl, ?_⟩) (by assumption) ?_
        rotate_left
        · (intro W _; go_simp; (with_reducible rfl))
        intro hHeld'
        clear hHeld; have hHeld := hHeld'; clear hHeld'
        try simp only [Act.put, List.getElem_toArray, List.getElem_cons_succ, List.getElem_cons_zero, List.setIfInBounds_toArray, List.set_cons_zero, List.set_cons_succ]
        refine wpAnyL_takeP (i := 4) 5 [] (v := ?_) (fun w' : World => MB w' 29 w.heap.size m ∧ w'.cell? ⟨g, k, none⟩ = some r) rfl (by kernel_rfl) (by kernel_rfl) (by kernel_rfl) (by rfl) (by kernel_rfl) (by simp) (fun _ _ _ h => h) (Or.inl ⟨by rfl, ?_⟩) (by assumption) ?_
        rotate_left
        · (intro W hW; (obtain ⟨_, hW⟩ := hW); go_simp; (with_reducible rfl))
        intro hHeld'
        clear hHeld; have hHeld := hHeld'; clear hHeld'
        try simp only [Act.put, List.getElem_toArray, List.getElem_cons_succ, List.getElem_cons_zero, List.setIfInBounds_toArray, List.set_cons_zero, List.set_cons_succ]
        refine wpAnyL_ready (rs := [5]) (by kernel_rfl) (by simp) ?_
        refine AllReadyL.cons rfl (fun K hK => ?_) AllReadyL.nil
        go_simp
        by_cases hgw : IsGw m x
        · have hcl := hid (fun W hO => his.out W r x (List.mem_of_getElem? hx) hO true ⟨fun _ => hgw, fun _ => rfl⟩)
          (with_reducible refine (hcl.out _ (hc.out _ rS.out.bel).2).mono ?_)
          rintro e w2 ⟨rfl, hb⟩
          replace rS := hid (rS.out.call hb)
          clear hb
          have hA2 : Hid (∀ j row, j < k + 1 → M[j]? = some row → IsGw m row) := fun j row hj hr => by
            by_cases e : j = k
            · subst e; rw [hx] at hr; injection hr with hr; subst hr; exact hgw
            · exact hA.out j row (by omega) hr
          clear hx hgw hcl
          go_simp
          refine hK.out _ _ (HeldL.cons (fun h => absurd h (by decide +kernel)) HeldL.nil) (fun hHeld' => ?_)
          clear hK K hHeld; have hHeld := hHeld'; clear hHeld'
          try simp only [Act.put, List.getElem_toArray, List.getElem_cons_succ, List.getElem_cons_zero, List.setIfInBounds_toArray, List.set_cons_zero, List.set_cons_succ]
          refine wpAnyL_take0 (i := 6) (v := ?_) rfl (by kernel_rfl) (by kernel_rfl) (by kernel_rfl) (by rfl) (fun _ _ _ h => h) (Or.inl ⟨by rfl, ?_⟩) (by assumption) ?_
          rotate_left
          · (intro W _; go_simp; (with_reducible rfl))
          intro hHeld'
          clear hHeld; have hHeld := hHeld'; clear hHeld'
          try simp only [Act.put, List.getElem_toArray, List.getElem_cons_succ, List.getElem_cons_zero, List.setIfInBounds_toArray, List.set_cons_zero, List.set_cons_succ]
          refine wpAnyL_done (by kernel_rfl) ?_ _
          go_wp2
          go_roundw
          case rel => exact ⟨k + 1, by omega, by go_num, hA2, rS.out⟩
          case measure => simp [intOf]; omega
        · have hcl := hid (fun W hO => his.out W r x (List.mem_of_getElem? hx) hO false ⟨fun h => (by cases h), fun h => absurd h hgw⟩)
          (with_reducible refine (hcl.out _ (hc.out _ rS.out.bel).2).mono ?_)
          rintro e w2 ⟨rfl, hb⟩
          replace rS := hid (rS.out.call hb)
          clear hb
          have hfin := hid (show R = 1 by rw [hR.out]; exact codG_1 (fun h => hgw (h.2 x (List.mem_of_getElem? hx))))
          clear hx hgw hcl
          go_simp
          refine hK.out _ _ (HeldL.cons (fun h => absurd h (by decide +kernel)) HeldL.nil) (fun hHeld' => ?_)
          clear hK K hHeld; have hHeld := hHeld'; clear hHeld'
          try simp only [Act.put, List.getElem_toArray, List.getElem_cons_succ, List.getElem_cons_zero, List.setIfInBounds_toArray, List.set_cons_zero, List.set_cons_succ]
          refine wpAnyL_take0 (i := 6) (v := ?_) rfl (by kernel_rfl) (by kernel_rfl) (by kernel_rfl) (by rfl) (fun _ _ _ h => h) (Or.inl ⟨by rfl, ?_⟩) (by assumption) ?_
          rotate_left
          · (intro W _; go_simp; (with_reducible rfl))
          intro hHeld'
          clear hHeld; have hHeld := hHeld'; clear hHeld'
          try simp only [Act.put, List.getElem_toArray, List.getElem_cons_succ, List.getElem_cons_zero, List.setIfInBounds_toArray, List.set_cons_zero, List.set_cons_succ]
          refine wpAnyL_done (by kernel_rfl) ?_ _
          go_wp2
          go_ret
          exact ⟨retI (by rw [hfin.out]), rS.out.bel⟩
      · obtain rfl : k = n := by omega
        have dc : decide ((k : Int) < (k : Int)) = false := decide_eq_false (by omega)
        have hfin := hid (show R = 0 by
          rw [hR.out]
          refine codG_0 hm.out fun row hr => ?_
          obtain ⟨j, hj, rfl⟩ := List.getElem_of_mem hr
          exact hA.out j _ (by rw [← hn.out]; exact hj) (List.getElem?_eq_getElem hj))
        go_wp2
        go_ret
        exact ⟨retI (by rw [hfin.out]), rS.out.bel⟩
  · have hi := hid (fun W => l01Is_any W m hk false ⟨fun h => (by cases h), fun h => absurd h hm⟩)
    rw [codG_1 (fun h => hm h.1)]
    replace hk := hid hk; replace h := hid h; clear hm
    go_enter Try.func100, Try.ntmps100
    go_wp2_with (first
      | ((with_reducible refine gate (N := 6) rfl ?_); refine load_mach rfl _ rfl w.heap.size rfl m hS.out.m0 ?_)
      | (go_at_call 92; (with_reducible refine (hi.out _).mono ?_); rintro e w1 ⟨rfl, hb⟩; replace hS := hid (hS.out.call hb); clear hi; clear hb))
    go_ret
    exact ⟨rfl, hS.out.bel⟩

end Go.Proofs.Ytgpjcekpmhfljaa

/- Portraits: the reference's small functions. -/
namespace Go.Proofs.Ytgpjcekpmhfljaa
open Go.RowKit
set_option linter.unusedVariables false
set_option linter.unusedSimpArgs false
-- @LONG

theorem l03Sizes_any (d n : Int) (r : Bool) (hr : r = decide (IsD d n)) (w : World) :
    Calls Try.prog 79 #[.int .i64 d, .int .i64 n] w fun e w' => e = .returned (.bool r) ∧ w = w' := by
  have hl := hid (fun W => l01In_any d 2 3 (decide (2 ≤ d ∧ d ≤ 3)) rfl W)
  have hw := hid (fun W => l01In_any n 1 4 (decide (1 ≤ n ∧ n ≤ 4)) rfl W)
  by_cases h1 : 2 ≤ d ∧ d ≤ 3
  · have hr2 := hid (show r = decide (1 ≤ n ∧ n ≤ 4) by rw [hr]; unfold IsD; simp [h1])
    rw [decide_eq_true h1] at hl
    generalize decide (1 ≤ n ∧ n ≤ 4) = c at *
    clear h1 hr
    go_enter Try.func79, Try.ntmps79
    go_wp2_with (first
      | (go_at_call 55; (first | (with_reducible refine (hl.out _).mono ?_) | (with_reducible refine (hw.out _).mono ?_)); rintro e w' ⟨rfl, rfl⟩))
    go_ret
    exact ⟨retB hr2.out.symm, rfl⟩
  · have hr2 := hid (show r = false by rw [hr]; unfold IsD; simp [h1])
    rw [decide_eq_false h1] at hl
    clear h1 hr
    go_enter Try.func79, Try.ntmps79
    go_wp2_with (first
      | (go_at_call 55; (with_reducible refine (hl.out _).mono ?_); rintro e w' ⟨rfl, rfl⟩))
    go_ret
    exact ⟨retB hr2.out.symm, rfl⟩
theorem l03Count_any (d : Nat) (hd : d = 2 ∨ d = 3) (w : World) :
    Calls Try.prog 109 #[.int .i64 d] w fun e w' => e = .returned (.int .i64 (cnt d : Nat)) ∧ w = w' := by
  rcases hd with rfl | rfl
  · go_enter Try.func109, Try.ntmps109
    go_wp2
    go_ret
    exact ⟨rfl, rfl⟩
  · go_enter Try.func109, Try.ntmps109
    go_wp2
    go_ret
    exact ⟨rfl, rfl⟩
theorem l03Start_any (d n : Nat) (hd : d = 2 ∨ d = 3) (hn : n ≤ 5) (w : World) :
    Calls Try.prog 108 #[.int .i64 d, .int .i64 n] w fun e w' => e = .returned (.int .i64 (start d n : Nat)) ∧ w = w' := by
  have hp := hid (fun k (hk : k < n) W => l01Power_any d k (by omega) (by have := pw5 (n := k) hd (by omega); omega) (by omega) W)
  have hp5 := hid (fun k (hk : k < n) => pw5 (n := k) hd (by omega))
  have hst := hid (fun k (hk : k < n) => (show start d k ≤ 243 by
    have := start_pw d (by omega) k
    have h2 : start d k ≤ start d k * (d - 1) := Nat.le_mul_of_pos_right _ (by omega)
    have h3 := pw5 (n := k) hd (by omega)
    omega))
  have hsn := hid (fun k => (show start d (k + 1) = start d k + pw d k from rfl))
  clear hd
  go_enter Try.func108, Try.ntmps108
  go_wp2
  go_loop [5, 6] (fun p i => ∃ k : Nat, k ≤ n ∧ i = .int .i64 k ∧ p = .int .i64 (start d k : Nat)) (fun _ i => n - (intOf i).toNat)
  case atStart => exact ⟨0, by omega, rfl, rfl⟩
  case round =>
    obtain ⟨k, hk, rfl, rfl⟩ := hrel
    by_cases hlt : k < n
    · have dk : decide ((k : Int) < (n : Int)) = true := decide_eq_true (by omega)
      have hpk := hid (hp.out k hlt)
      have h1 := hp5.out k hlt
      have h2 := hst.out k hlt
      have h3 := hid (hsn.out k)
      generalize start d k = a at *
      generalize pw d k = b at *
      go_wp2_with (first
        | (go_at_call 67; (with_reducible refine (hpk.out _).mono ?_); rintro e w' ⟨rfl, rfl⟩))
      go_round
      case rel => exact ⟨k + 1, by omega, by go_num, by rw [h3.out]; go_num⟩
      case measure => simp [intOf]; omega
    · obtain rfl : k = n := by omega
      have dk : decide ((k : Int) < (k : Int)) = false := decide_eq_false (by omega)
      go_wp2
      go_ret
      exact ⟨rfl, rfl⟩
set_option maxHeartbeats 1000000 in
set_option maxRecDepth 100000 in
theorem l03Is_any (w : World) (d n : Nat) (hd : d = 2 ∨ d = 3) (hn : n ≤ 4) (base : Nat) (v : Value) (g : List Int) (h : Own w base 2 v (ints g)) (hl : g.length < 2000000) (r : Bool) (hr : r = decide (IsP d n g)) :
    Calls Try.prog 80 #[.int .i64 d, .int .i64 n, v] w fun e w' => e = .returned (.bool r) ∧ Below w.heap.size w w' := by
  have hil := ints_length g
  obtain ⟨A, c, rfl, _, hA⟩ := h.form
  rw [hil] at h ⊢
  have hst := hid (fun W => l03Start_any d n hd (by omega) W)
  have hct := hid (fun W => l03Count_any d hd W)
  have hc6 : cnt d ≤ 6 ∧ 2 ≤ cnt d := by rcases hd with rfl | rfl <;> decide
  have hsl := (start_le hd hn).1
  have hS := hid (Below.refl w.heap.size w)
  by_cases he : g.length = start d n
  · have e1 : ((g.length : Int) != ((start d n : Nat) : Int)) = false := by simp [he]
    have hrt := hid (fun (hh : ∀ k ∈ g, 0 ≤ k ∧ k ≤ (cnt d : Int) - 1) => (show r = true by rw [hr]; exact decide_eq_true ⟨he, fun k hk => by have := hh k hk; omega⟩))
    have hrf := hid (fun k (hk : k ∈ g) (hb : ¬ (0 ≤ k ∧ k ≤ (cnt d : Int) - 1)) => (show r = false by rw [hr]; exact decide_eq_false fun hp => by have := hp.2 k hk; omega))
    have hin := hid (fun x W => l01In_any x 0 ((cnt d : Int) - 1) (decide (0 ≤ x ∧ x ≤ (cnt d : Int) - 1)) rfl W)
    have ew : IntKind.i64.wrap ((cnt d : Int) - 1) = (cnt d : Int) - 1 := IntWalk.i64_in _ (by omega)
    have hcell := hid (fun (j : Nat) (x : Int) (hx : g[j]? = some x) => (show ∃ ga, A = some ⟨ga, 0, none⟩ ∧ ∀ W, Below w.heap.size w W → W.cell? ⟨ga, j, none⟩ = some (.int .i64 x) from by
      rcases hA with ⟨_, h1, _⟩ | ⟨ga, rfl, _⟩
      · have h2 : g.length = 0 := by rw [← hil, h1]; rfl
        have h3 := (List.getElem?_eq_some_iff.1 hx).1
        omega
      · exact ⟨ga, rfl, fun W hW => (h.below hW).cellAt j _ (by simp [ints, hx])⟩))
    clear hr h hA he
    generalize start d n = R at *
    generalize cnt d = C at *
    generalize hgl : g.length = L at *
    replace hgl := hid hgl
    go_enter Try.func80, Try.ntmps80
    go_wp2_with (first
      | (go_at_call 108; (with_reducible refine (hst.out _).mono ?_); rintro e w' ⟨rfl, rfl⟩))
    go_loopw [7] (fun i wr => ∃ j : Nat, j ≤ L ∧ i = .int .i64 j ∧ Hid (∀ i x, i < j → g[i]? = some x → 0 ≤ x ∧ x ≤ (C : Int) - 1) ∧ Hid (Below w.heap.size w wr)) (fun i _ => L - (intOf i).toNat)
    case atStart => exact ⟨0, Nat.zero_le _, rfl, fun i x h => absurd h (by omega), hS⟩
    case round =>
      obtain ⟨j, hj, rfl, hall, rS⟩ := hrel
      clear hS
      by_cases hlt : j < L
      · obtain ⟨x, hx⟩ : ∃ x, g[j]? = some x := ⟨_, List.getElem?_eq_getElem (by rw [hgl.out]; exact hlt)⟩
        obtain ⟨ga, rfl, hce⟩ := hcell.out j x hx
        have co := hce _ rS.out
        have dj : decide ((j : Int) < (L : Int)) = true := decide_eq_true (by omega)
        have j0 : (0 : Int) ≤ (j : Int) := Int.natCast_nonneg _
        have j1 : (j : Int) < (L : Int) := by omega
        by_cases hr : 0 ≤ x ∧ x ≤ (C : Int) - 1
        · have hin2 := hid (fun W => by have h := hin.out x W; rw [decide_eq_true hr] at h; exact h)
          have hall2 := hid (fun i y (hi : i < j + 1) (hy : g[i]? = some y) => (show 0 ≤ y ∧ y ≤ (C : Int) - 1 from by
            by_cases e : i < j
            · exact hall.out i y e hy
            · obtain rfl : i = j := by omega
              rw [hx] at hy; injection hy with hy; subst hy
              exact hr))
          clear hr hce hx
          go_upto_region 6 with (fail)
          go_quiet (first
            | (go_at_call 109; exact quiet_same (hct.out _))
            | (go_at_call 55; exact quiet_same (hin2.out _)))
          go_wp2
          go_roundw
          case rel => exact ⟨j + 1, by omega, by go_num, hall2, below_drewN rS.out _⟩
          case measure => simp [intOf]; omega
        · have hin2 := hid (fun W => by have h := hin.out x W; rw [decide_eq_false hr] at h; exact h)
          have hR := hid (hrf.out x (List.mem_of_getElem? hx) hr)
          clear hr hce hx
          go_upto_region 6 with (fail)
          go_quiet (first
            | (go_at_call 109; exact quiet_same (hct.out _))
            | (go_at_call 55; exact quiet_same (hin2.out _)))
          go_wp2
          go_ret
          exact ⟨retB hR.out.symm, below_drewN rS.out _⟩
      · obtain rfl : j = L := by omega
        have dj : decide ((j : Int) < (j : Int)) = false := decide_eq_false (by omega)
        have hR := hid (hrt.out fun x hx => by
          obtain ⟨i, hi, rfl⟩ := List.getElem_of_mem hx
          exact hall.out i _ (by rw [← hgl.out]; exact hi) (List.getElem?_eq_getElem hi))
        go_wp2
        go_ret
        exact ⟨retB hR.out.symm, rS.out⟩
  · have e1 : ((g.length : Int) != ((start d n : Nat) : Int)) = true := by simp; omega
    have hr2 := hid (show r = false by rw [hr]; exact decide_eq_false fun h => he h.1)
    clear hr h hA he
    generalize start d n = R at *
    generalize g.length = L at *
    go_enter Try.func80, Try.ntmps80
    go_wp2_with (first
      | (go_at_call 108; (with_reducible refine (hst.out _).mono ?_); rintro e w' ⟨rfl, rfl⟩))
    go_ret
    exact ⟨retB hr2.out.symm, hS.out⟩
set_option maxHeartbeats 1000000 in
set_option maxRecDepth 100000 in
theorem l03Code_any (w : World) (d n : Int) (base : Nat) (v : Value) (M : List (List Int)) (h : Mat w base v M) (hl : M.length < 2000000) (hlr : ∀ row ∈ M, row.length < 2000000) :
    Calls Try.prog 47 #[.int .i64 d, .int .i64 n, v] w fun e w' => e = .returned (.int .i64 (pcode d n M)) ∧ Below w.heap.size w w' := by
  have hsi := hid (fun W => l03Sizes_any d n (decide (IsD d n)) rfl W)
  have hS := hid (Below.refl w.heap.size w)
  by_cases hD : IsD d n
  · rw [decide_eq_true hD] at hsi
    have hpt := hid (fun (hh : ∀ g ∈ M, IsP d.toNat n.toNat g) => (show pcode d n M = 0 by unfold pcode; rw [if_pos hD, if_pos hh]))
    have hpf := hid (fun g (hg : g ∈ M) (hb : ¬ IsP d.toNat n.toNat g) => (show pcode d n M = 1 by unfold pcode; rw [if_pos hD, if_neg fun hh => hb (hh g hg)]))
    obtain ⟨d, n, rfl, rfl, hd, hn1, hn4⟩ := hD.nat
    simp only [Int.toNat_natCast] at hpt hpf
    have his := hid (fun W b v g (hO : Own W b 2 v (ints g)) (hm : g ∈ M) (r : Bool) (hr : r = decide (IsP d n g)) => l03Is_any W d n hd hn4 b v g hO (hlr g hm) r hr)
    have hcell := hid (fun (j : Nat) (x : List Int) (hx : M[j]? = some x) => (show ∃ ga, v = .slice (some ⟨ga, 0, none⟩) M.length (match v with | .slice _ _ c => c | _ => 0) ∧ ∀ W, Below w.heap.size w W → ∃ r, W.cell? ⟨ga, j, none⟩ = some r ∧ Own W base 2 r (ints x) from by
      obtain ⟨ga, ca, rfl, _⟩ := h.blk (fun e => by rw [e] at hx; simp at hx)
      exact ⟨ga, rfl, fun W hW => (h.below hW).row j x hx⟩))
    obtain ⟨A, c, rfl⟩ := h.form
    dsimp only at hcell
    clear h hlr hD
    obtain ⟨R, hR⟩ : ∃ R, R = pcode d n M := ⟨_, rfl⟩
    rw [← hR] at hpt hpf ⊢
    clear hR
    generalize hML : M.length = L at *
    replace hML := hid hML
    go_enter Try.func47, Try.ntmps47
    go_wp2_with (first
      | (go_at_call 79; (with_reducible refine (hsi.out _).mono ?_); rintro e w' ⟨rfl, rfl⟩))
    go_loopw [7] (fun i wr => ∃ j : Nat, j ≤ L ∧ i = .int .i64 j ∧ Hid (∀ i x, i < j → M[i]? = some x → IsP d n x) ∧ Hid (Below w.heap.size w wr)) (fun i _ => L - (intOf i).toNat)
    case atStart => exact ⟨0, Nat.zero_le _, rfl, fun i x h => absurd h (by omega), hS⟩
    case round =>
      obtain ⟨j, hj, rfl, hall, rS⟩ := hrel
      clear hS
      by_cases hlt : j < L
      · obtain ⟨x, hx⟩ : ∃ x, M[j]? = some x := ⟨_, List.getElem?_eq_getElem (by rw [hML.out]; exact hlt)⟩
        obtain ⟨ga, he, hce⟩ := hcell.out j x hx
        injection he with he
        subst he
        obtain ⟨rv, co, hO⟩ := hce _ rS.out
        have dj : decide ((j : Int) < (L : Int)) = true := decide_eq_true (by omega)
        have j0 : (0 : Int) ≤ (j : Int) := Int.natCast_nonneg _
        have j1 : (j : Int) < (L : Int) := by omega
        by_cases hr : IsP d n x
        · have hi2 := hid (his.out wr base rv x hO (List.mem_of_getElem? hx) true (decide_eq_true hr).symm)
          have hall2 := hid (fun i y (hi : i < j + 1) (hy : M[i]? = some y) => (show IsP d n y from by
            by_cases e : i < j
            · exact hall.out i y e hy
            · obtain rfl : i = j := by omega
              rw [hx] at hy; injection hy with hy; subst hy
              exact hr))
          clear hr hce hx hO
          go_wp2_with (first
            | (go_at_call 80; (with_reducible refine (hi2.out).mono ?_); rintro e w3 ⟨rfl, hb⟩; replace rS := hid (rS.out.trans (hb.mono rS.out.size)); clear hb))
          go_roundw
          case rel => exact ⟨j + 1, by omega, by go_num, hall2, rS⟩
          case measure => simp [intOf]; omega
        · have hi2 := hid (his.out wr base rv x hO (List.mem_of_getElem? hx) false (decide_eq_false hr).symm)
          have hRR := hid (hpf.out x (List.mem_of_getElem? hx) hr)
          clear hr hce hx hO
          go_wp2_with (first
            | (go_at_call 80; (with_reducible refine (hi2.out).mono ?_); rintro e w3 ⟨rfl, hb⟩; replace rS := hid (rS.out.trans (hb.mono rS.out.size)); clear hb))
          go_ret
          exact ⟨retI hRR.out.symm, rS.out⟩
      · obtain rfl : j = L := by omega
        have dj : decide ((j : Int) < (j : Int)) = false := decide_eq_false (by omega)
        have hRR := hid (hpt.out fun x hx => by
          obtain ⟨i, hi, rfl⟩ := List.getElem_of_mem hx
          exact hall.out i _ (by rw [← hML.out]; exact hi) (List.getElem?_eq_getElem hi))
        go_wp2
        go_ret
        exact ⟨retI hRR.out.symm, rS.out⟩
  · rw [decide_eq_false hD] at hsi
    have hpc := hid (show pcode d n M = 2 by unfold pcode; rw [if_neg hD])
    rw [hpc.out]
    clear hD hpc h
    go_enter Try.func47, Try.ntmps47
    go_wp2_with (first
      | (go_at_call 79; (with_reducible refine (hsi.out _).mono ?_); rintro e w' ⟨rfl, rfl⟩))
    go_ret
    exact ⟨rfl, hS.out⟩
set_option maxHeartbeats 1000000 in
theorem l03At_any (w : World) (d n : Nat) (hd : d = 2 ∨ d = 3) (hn : n ≤ 4) (base : Nat) (v : Value) (g : List Int) (h : Own w base 2 v (ints g)) (hg : IsP d n g) (u : List Nat) (hu : ∀ x ∈ u, x < d) (hlen : u.length < n) :
    Calls Try.prog 111 #[.int .i64 d, v, .string (wstr u)] w fun e w' => e = .returned (.int .i64 (gAt d g u)) ∧ w = w' := by
  have hil := ints_length g
  have hin := gAt_in hd hg u hu hlen
  obtain ⟨ga, ca, rfl, _⟩ := h.blk (fun e => by have h : g.length = 0 := (by rw [← hil, e]; rfl); have := hin.1; omega)
  rw [hil] at h ⊢
  have co := h.cellAt (start d u.length + num d u) (.int .i64 (gAt d g u)) (by simp only [ints, List.getElem?_map, hin.2]; rfl)
  have hst := hid (fun W => l03Start_any d u.length hd (by omega) W)
  have hnm := hid (fun W => l01NumberOf_any d (by omega) (by omega) u hu (by have := pw5 (n := u.length) hd (by omega); omega) (by omega) W)
  have hsz := wstr_size u
  have hi2 := hin.1
  have hb1 := (start_le hd (show u.length ≤ 4 by omega))
  have hb2 := num_lt d u.length u rfl hu
  generalize gAt d g u = R at *
  clear hin hu h
  have i0 : (0 : Int) ≤ (start d u.length : Int) + (num d u : Int) := by omega
  have i1 : (start d u.length : Int) + (num d u : Int) < (g.length : Int) := by omega
  generalize wstr u = ws at *
  generalize hLn : u.length = L at *
  generalize start d L = a at *
  generalize num d u = b at *
  have ew : IntKind.i64.wrap ((a : Int) + (b : Int)) = (a : Int) + (b : Int) := IntWalk.i64_in _ (by omega)
  have et : ((a : Int) + (b : Int)).toNat = a + b := by omega
  go_enter Try.func111, Try.ntmps111
  go_wp2_with (first
    | (go_at_call 108; (with_reducible refine (hst.out _).mono ?_); rintro e w' ⟨rfl, rfl⟩)
    | (go_at_call 81; (with_reducible refine (hnm.out _).mono ?_); rintro e w' ⟨rfl, rfl⟩))
  go_ret
  exact ⟨rfl, rfl⟩
end Go.Proofs.Ytgpjcekpmhfljaa

/- Arrays of bytes and machines, compared by ==. -/
namespace Go.Proofs.Ytgpjcekpmhfljaa
open Go.RowKit
set_option linter.unusedVariables false
set_option linter.unusedSimpArgs false

theorem guard_b3 : Try.prog.eqGuardType Try.prog.depth 22 = false := by kernel_rfl
theorem guard_mach : Try.prog.eqGuardType Try.prog.depth 29 = false := by kernel_rfl
theorem key_b3 : Try.prog.keyTypeAt 2 22 = true := by kernel_rfl
theorem key_mach : Try.prog.keyTypeAt 5 29 = true := by kernel_rfl
theorem cells_b3 : Try.prog.cellsOf 22 = 3 := by kernel_rfl
theorem cells_u8 : Try.prog.cellsOf 5 = 1 := by kernel_rfl
theorem wf_u8 (a : Nat) (h : a < 256) : (Lit.int .u8 (a : Int)).wf = true := by
  have h0 : IntKind.u8.min = 0 := by decide
  have h1 : IntKind.u8.max = 255 := by decide
  simp [Lit.wf, IntKind.has, h0, h1]; omega
/-- The literals of a row of bytes. -/
theorem lits_u8 (d : Nat) (a : Nat) (h : a < 256) : Try.prog.keyLits (d + 1) 5 [.int .u8 (a : Int)] = some [.int .u8 (a : Int)] := by
  unfold Program.keyLits
  rw [Try.underlying5]
  simp [wf_u8 a h]
theorem lits_b3 (d : Nat) (a b c : Nat) (ha : a < 256) (hb : b < 256) (hc : c < 256) : Try.prog.keyLits (d + 2) 22 [.int .u8 (a : Int), .int .u8 (b : Int), .int .u8 (c : Int)] = some [.int .u8 (a : Int), .int .u8 (b : Int), .int .u8 (c : Int)] := by
  unfold Program.keyLits
  rw [Try.underlying22]
  simp only [cells_b3, List.length_cons, List.length_nil, cells_u8, Nat.mul_one]
  rw [if_pos trivial]
  have e : List.range 3 = [0, 1, 2] := rfl
  rw [e]
  simp [List.mapM_cons, lits_u8, ha, hb, hc]
/-- Two rows of bytes. -/
theorem eq_b3 (w : World) (a b c a' b' c' : Nat) (h : a < 256 ∧ b < 256 ∧ c < 256) (h' : a' < 256 ∧ b' < 256 ∧ c' < 256) (r : Bool) (hr : Tells r (a = a' ∧ b = b' ∧ c = c')) :
    (Op.equalIn 10000 22 (.agg #[.int .u8 (a : Int), .int .u8 (b : Int), .int .u8 (c : Int)]) (.agg #[.int .u8 (a' : Int), .int .u8 (b' : Int), .int .u8 (c' : Int)])).run Try.prog w = .ok r w := by
  have hf : ∀ x y z : Nat, (Value.agg #[.int .u8 (x : Int), .int .u8 (y : Int), .int .u8 (z : Int)]).formed Try.prog 22 = true := fun x y z => by
    simp [Value.formed, Try.underlying22, cells_b3]
  obtain ⟨q, hq, hi⟩ := run_equalIn_deep (P := Try.prog) 9998 2 22 key_b3 w 2 2 _ _ _ _ (hf a b c) (hf a' b' c') (lits_b3 0 a b c h.1 h.2.1 h.2.2) (lits_b3 0 a' b' c' h'.1 h'.2.1 h'.2.2)
  have e : q = r := by
    rw [Bool.eq_iff_iff, hi, hr.out]
    simp
    omega
  rw [← e]
  exact hq
end Go.Proofs.Ytgpjcekpmhfljaa

/- Machines, compared by ==; and the machine of a state of a table is of bytes, and a machine again. -/
namespace Go.Proofs.Ytgpjcekpmhfljaa
open Go.RowKit
set_option linter.unusedVariables false
set_option linter.unusedSimpArgs false

theorem cells_b48 : Try.prog.cellsOf 23 = 48 := by kernel_rfl
theorem cells_mach : Try.prog.cellsOf 29 = 98 := by kernel_rfl
theorem cells_i64 : Try.prog.cellsOf 2 = 1 := by kernel_rfl
theorem wf_i64s (a : Nat) (h : a < 1000000) : (Lit.int .i64 (a : Int)).wf = true := by
  have h0 : IntKind.i64.min = -9223372036854775808 := by decide
  have h1 : IntKind.i64.max = 9223372036854775807 := by decide
  simp [Lit.wf, IntKind.has, h0, h1]; omega
theorem lits_i64 (d : Nat) (a : Nat) (h : a < 1000000) : Try.prog.keyLits (d + 1) 2 [.int .i64 (a : Int)] = some [.int .i64 (a : Int)] := by
  unfold Program.keyLits
  rw [Try.underlying2]
  simp [wf_i64s a h]
theorem mapM_all {α β : Type} (F : α → Option β) (G : α → β) : ∀ l : List α, (∀ a ∈ l, F a = some (G a)) → l.mapM F = some (l.map G)
  | [], _ => rfl
  | a :: l, h => by
    rw [List.mapM_cons, h a (by simp), mapM_all F G l (fun b hb => h b (by simp [hb]))]
    rfl
def lrow3 (f : Nat → Nat) (i : Nat) : List Lit := [.int .u8 (f (i * 3) : Nat), .int .u8 (f (i * 3 + 1) : Nat), .int .u8 (f (i * 3 + 2) : Nat)]
def lit48 (f : Nat → Nat) : List Lit := ((List.range 16).map (lrow3 f)).flatten
theorem cut3 {α : Type} (g : Nat → α) (i : Nat) (h : i < 16) : (((List.range 48).map g).drop (i * 3)).take 3 = [g (i * 3), g (i * 3 + 1), g (i * 3 + 2)] := by
  apply List.ext_getElem?
  intro n
  rw [List.getElem?_take]
  rcases n with _ | _ | _ | n
  · rw [if_pos (by omega), List.getElem?_drop, List.getElem?_map, List.getElem?_range (by omega)]; rfl
  · rw [if_pos (by omega), List.getElem?_drop, List.getElem?_map, List.getElem?_range (by omega)]; rfl
  · rw [if_pos (by omega), List.getElem?_drop, List.getElem?_map, List.getElem?_range (by omega)]; rfl
  · rw [if_neg (by omega)]; rfl
theorem lits_b48 (d : Nat) (f : Nat → Nat) (h : ∀ i, f i < 256) : Try.prog.keyLits (d + 3) 23 ((List.range 48).map fun i => .int .u8 (f i : Nat)) = some (lit48 f) := by
  unfold Program.keyLits
  rw [Try.underlying23]
  simp only [cells_b48, List.length_map, List.length_range, cells_b3, if_true]
  rw [mapM_all _ (lrow3 f)]
  · rfl
  · intro i hi
    rw [List.mem_range] at hi
    rw [cut3 _ i hi]
    exact lits_b3 d _ _ _ (h _) (h _) (h _)
theorem flat3_inj (f g : Nat → Nat) : ∀ l : List Nat, (l.map (lrow3 f)).flatten = (l.map (lrow3 g)).flatten ↔ ∀ i ∈ l, lrow3 f i = lrow3 g i
  | [] => by simp
  | a :: l => by
    simp only [List.map_cons, List.flatten_cons, List.mem_cons, forall_eq_or_imp]
    rw [← flat3_inj f g l]
    exact ⟨fun h => List.append_inj h rfl, fun h => by rw [h.1, h.2]⟩
theorem lit48_inj (f g : Nat → Nat) (h : lit48 f = lit48 g) : ∀ i, i < 48 → f i = g i := fun i hi => by
  have := (flat3_inj f g _).1 h (i / 3) (List.mem_range.2 (by omega))
  simp only [lrow3, List.cons.injEq, Lit.int.injEq, true_and, and_true, Int.natCast_inj] at this
  obtain ⟨h0, h1, h2⟩ := this
  rcases (show i = i / 3 * 3 ∨ i = i / 3 * 3 + 1 ∨ i = i / 3 * 3 + 2 by omega) with e | e | e
  · rw [e]; exact h0
  · rw [e]; exact h1
  · rw [e]; exact h2
theorem mcells_list (m : Mach) : (mcells m).toList = [.int .i64 m.L] ++ ([.int .i64 m.S] ++ (((List.range 48).map fun i => .int .u8 (m.nx i : Nat)) ++ ((List.range 48).map fun i => .int .u8 (m.ot i : Nat)))) := by
  apply List.ext_getElem?
  intro n
  rw [Array.getElem?_toList]
  by_cases h : n < 98
  · rw [mcells_get m n h]
    rcases n with _ | _ | n
    · rfl
    · rfl
    · rw [List.getElem?_append_right (by simp), List.getElem?_append_right (by simp)]
      simp only [List.length_cons, List.length_nil]
      rw [show n + 1 + 1 - (0 + 1) - (0 + 1) = n by omega]
      by_cases hn : n < 48
      · rw [List.getElem?_append_left (by simpa using hn)]
        simp [mf, hn]; omega
      · rw [List.getElem?_append_right (by simp; omega)]
        simp only [List.length_map, List.length_range]
        rw [List.getElem?_map, List.getElem?_range (by omega)]
        unfold mf
        rw [if_neg (by omega), if_neg (by omega), if_neg (by omega), show n + 1 + 1 - 50 = n - 48 by omega]
        rfl
  · rw [Array.getElem?_eq_none (by rw [size_mcells]; omega), List.getElem?_eq_none (by simp; omega)]
def mlits (a b : Nat) (m : Mach) : List Lit := [.int .i64 (a : Int)] ++ ([.int .i64 (b : Int)] ++ (lit48 m.nx ++ lit48 m.ot))
set_option maxRecDepth 4000 in
theorem lits_mach (d : Nat) (m : Mach) (hk : m.Ok) (a b : Nat) (ha : m.L = a) (hb : m.S = b) (ha' : a < 1000000) (hb' : b < 1000000) : Try.prog.keyLits (d + 4) 29 (mcells m).toList = some (mlits a b m) := by
  have hlen : (mcells m).toList.length = 98 := by rw [Array.length_toList, size_mcells]
  have hc := mcells_list m
  rw [ha, hb] at hc
  have hN : ((List.range 48).map fun i => Value.int .u8 (m.nx i : Nat)).length = 48 := by simp
  have hO : ((List.range 48).map fun i => Value.int .u8 (m.ot i : Nat)).length = 48 := by simp
  have kN := lits_b48 d m.nx (fun i => (hk i).1)
  have kO := lits_b48 d m.ot (fun i => (hk i).2)
  generalize (List.range 48).map (fun i => Value.int .u8 (m.nx i : Nat)) = N at *
  generalize (List.range 48).map (fun i => Value.int .u8 (m.ot i : Nat)) = O at *
  unfold Program.keyLits
  rw [Try.underlying29]
  simp only [hlen, cells_mach, if_true, true_and]
  rw [if_pos (by decide +kernel)]
  rw [hc]
  simp only [List.mapM_cons, List.mapM_nil, cells_i64, cells_b48]
  have e0 : ([Value.int .i64 (a : Int)] ++ ([Value.int .i64 (b : Int)] ++ (N ++ O))).drop 2 = N ++ O := rfl
  have e1 : ([Value.int .i64 (a : Int)] ++ ([Value.int .i64 (b : Int)] ++ (N ++ O))).drop 50 = O := by
    show (N ++ O).drop 48 = O
    rw [List.drop_append_of_le_length (by omega), List.drop_of_length_le (by omega), List.nil_append]
  have e2 : (N ++ O).take 48 = N := by rw [List.take_append_of_le_length (by omega), List.take_of_length_le (by omega)]
  have e3 : O.take 48 = O := List.take_of_length_le (by omega)
  have e4 : (([Value.int .i64 (a : Int)] ++ ([Value.int .i64 (b : Int)] ++ (N ++ O))).drop 0).take 1 = [Value.int .i64 (a : Int)] := rfl
  have e5 : (([Value.int .i64 (a : Int)] ++ ([Value.int .i64 (b : Int)] ++ (N ++ O))).drop 1).take 1 = [Value.int .i64 (b : Int)] := rfl
  rw [e0, e1, e2, e3, e4, e5, lits_i64 _ a ha', lits_i64 _ b hb', kN, kO]
  simp [mlits]
theorem mlits_inj {a b a' b' : Nat} {m k : Mach} (ha : m.L = a) (hb : m.S = b) (ha' : k.L = a') (hb' : k.S = b') : mlits a b m = mlits a' b' k ↔ mcells m = mcells k := by
  constructor
  · intro h
    unfold mlits at h
    have l1 : (lit48 m.nx).length = 48 := rfl
    have l2 : (lit48 k.nx).length = 48 := rfl
    have h1 := List.append_inj h rfl
    have h2 := List.append_inj h1.2 rfl
    have h3 := List.append_inj h2.2 (by rw [l1, l2])
    have i1 := lit48_inj _ _ h3.1
    have i2 := lit48_inj _ _ h3.2
    have e1 : a = a' := by have := h1.1; simp at this; omega
    have e2 : b = b' := by have := h2.1; simp at this; omega
    unfold mcells
    congr 1
    apply List.map_congr_left
    intro i hi
    rw [List.mem_range] at hi
    unfold mf
    rw [ha, hb, ha', hb', e1, e2]
    split
    · rfl
    · split
      · rfl
      · split
        · rw [i1 _ (by omega)]
        · rw [i2 _ (by omega)]
  · intro h
    have g : ∀ i, i < 98 → mf m i = mf k i := fun i hi => by
      have := mcells_get m i hi
      rw [h, mcells_get k i hi] at this
      exact (Option.some.inj this).symm
    have e1 : a = a' := by have := g 0 (by omega); simp [mf, ha, ha'] at this; omega
    have e2 : b = b' := by have := g 1 (by omega); simp [mf, hb, hb'] at this; omega
    have i1 : ∀ i, i < 48 → m.nx i = k.nx i := fun i hi => by
      have := g (i + 2) (by omega)
      unfold mf at this
      rw [if_neg (by omega), if_neg (by omega), if_pos (by omega), if_neg (by omega), if_neg (by omega), if_pos (by omega)] at this
      simp at this
      omega
    have i2 : ∀ i, i < 48 → m.ot i = k.ot i := fun i hi => by
      have := g (i + 50) (by omega)
      unfold mf at this
      rw [if_neg (by omega), if_neg (by omega), if_neg (by omega), if_neg (by omega), if_neg (by omega), if_neg (by omega)] at this
      simp at this
      omega
    unfold mlits lit48
    rw [e1, e2]
    congr 3
    · congr 1
      apply List.map_congr_left
      intro i hi
      rw [List.mem_range] at hi
      unfold lrow3
      rw [i1 _ (by omega), i1 _ (by omega), i1 _ (by omega)]
    · congr 1
      apply List.map_congr_left
      intro i hi
      rw [List.mem_range] at hi
      unfold lrow3
      rw [i2 _ (by omega), i2 _ (by omega), i2 _ (by omega)]
/-- Two machines. -/
theorem eq_mach (w : World) (m k : Mach) (hm : m.Ok) (hk : k.Ok) (a b a' b' : Nat) (ha : m.L = a) (hb : m.S = b) (ha' : k.L = a') (hb' : k.S = b') (la : a < 1000000) (lb : b < 1000000) (la' : a' < 1000000) (lb' : b' < 1000000) (r : Bool) (hr : Tells r (mcells m = mcells k)) :
    (Op.equalIn 10000 29 (.agg (mcells m)) (.agg (mcells k))).run Try.prog w = .ok r w := by
  have hf : ∀ m : Mach, (Value.agg (mcells m)).formed Try.prog 29 = true := fun m => by
    simp [Value.formed, Try.underlying29, cells_mach, size_mcells]
  obtain ⟨q, hq, hi⟩ := run_equalIn_deep (P := Try.prog) 9995 5 29 key_mach w 4 4 _ _ _ _ (hf m) (hf k) (lits_mach 0 m hm a b ha hb la lb) (lits_mach 0 k hk a' b' ha' hb' la' lb')
  have e : q = r := by
    rw [Bool.eq_iff_iff, hi, hr.out, mlits_inj ha hb ha' hb']
  rw [← e]
  exact hq

section
variable {T : Tab}
/-- The machine of a state of a table. -/
theorem fin_lt (hT : T.Ok) {q : Nat} (hq : q < T.n) {s : Nat} (hs : s ∈ fin T (fix T) q) : s < T.n := (bfs_uniq hT (fun q hq => fix_lt q hq) q hq T.n).2 s hs
theorem gth_nx (hT : T.Ok) {q : Nat} (hq : q < T.n) (p : Nat) : (gth T (fix T) (fin T (fix T) q)).nx p ≤ (fin T (fix T) q).length ∧ (p / 3 < (fin T (fix T) q).length → p % 3 < T.L → (gth T (fix T) (fin T (fix T) q)).nx p < (fin T (fix T) q).length) := by
  have hp := fin_pos T (fix T) q
  unfold gth gthP
  dsimp only
  split
  · rename_i h
    have hi : p / 3 < (fin T (fix T) q).length := by omega
    have hs : (fin T (fix T) q).getD (p / 3) 0 ∈ fin T (fix T) q := by
      rw [List.getD_eq_getElem?_getD, List.getElem?_eq_getElem hi]; exact List.getElem_mem hi
    have := mem_idxOf_lt (fin_closed hT (c := fix T) (fun q hq => fix_lt q hq) hq _ hs (p % 3) h.2)
    exact ⟨Nat.le_of_lt this, fun _ _ => this⟩
  · rename_i h
    exact ⟨Nat.zero_le _, fun h1 h2 => absurd ⟨.inl h1, h2⟩ h⟩
theorem gth_ot (hT : T.Ok) {q : Nat} (hq : q < T.n) {N : Nat} (hN : 0 < N) (hot : ∀ q x, q < T.n → x < T.L → T.ot q x < N) (p : Nat) : (gth T (fix T) (fin T (fix T) q)).ot p < N := by
  unfold gth gthP
  dsimp only
  split
  · rename_i h
    refine hot _ _ ?_ h.2
    have hi : p / 3 < (fin T (fix T) q).length := by omega
    rw [List.getD_eq_getElem?_getD, List.getElem?_eq_getElem hi]
    exact fin_lt hT hq (List.getElem_mem hi)
  · exact hN
theorem fromM_ok (hT : T.Ok) {q : Nat} (hq : q < T.n) (hot : ∀ q x, q < T.n → x < T.L → T.ot q x < 256) : (fromM T q).Ok := by
  unfold fromM
  split
  · rename_i h
    intro p
    exact ⟨by have := (gth_nx hT hq p).1; omega, gth_ot hT hq (by omega) hot p⟩
  · exact fun p => ⟨by show 0 < 256; omega, by show 0 < 256; omega⟩
theorem fromM_L (T : Tab) (q : Nat) : ∃ a : Nat, (fromM T q).L = a ∧ a ≤ T.L := by
  unfold fromM; split
  · exact ⟨T.L, rfl, Nat.le_refl _⟩
  · exact ⟨0, rfl, Nat.zero_le _⟩
theorem fromM_S (T : Tab) (q : Nat) : ∃ a : Nat, (fromM T q).S = a ∧ a ≤ 16 := by
  unfold fromM; split
  · rename_i h; exact ⟨_, rfl, h⟩
  · exact ⟨0, rfl, Nat.zero_le _⟩
/-- .. is a machine, where the table's rows are permutations. -/
theorem fromM_good (hT : T.Ok) {q : Nat} (hq : q < T.n) (h2 : 2 ≤ T.L) (h3 : T.L ≤ 3) (hot : ∀ q x, q < T.n → x < T.L → T.ot q x < T.L) (hinj : ∀ q, q < T.n → ∀ y x, y < x → x < T.L → T.ot q y ≠ T.ot q x) (hc : fromC T q = 0) :
    ∃ s, Good (fromM T q) T.L s := by
  have h : (fin T (fix T) q).length ≤ 16 := by
    unfold fromC at hc
    split at hc
    · assumption
    · cases hc
  refine ⟨(fin T (fix T) q).length, ?_⟩
  have hg : fromM T q = gth T (fix T) (fin T (fix T) q) := by unfold fromM; rw [if_pos h]
  rw [hg]
  have hat : ∀ r, r < (fin T (fix T) q).length → (fin T (fix T) q).getD r 0 < T.n := fun r hr => by
    rw [List.getD_eq_getElem?_getD, List.getElem?_eq_getElem hr]
    exact fin_lt hT hq (List.getElem_mem hr)
  refine ⟨rfl, rfl, h2, h3, fin_pos _ _ _, h, ?_, ?_, ?_, ?_⟩
  · intro r x hr hx
    exact (gth_nx hT hq _).2 (by omega) (by omega)
  · intro r x hr hx
    exact gth_ot hT hq (by omega) hot _
  · intro r hr y x hy hx
    unfold gth gthP
    dsimp only
    rw [if_pos (by omega), if_pos (by omega), show (r * 3 + y) / 3 = r by omega, show (r * 3 + x) / 3 = r by omega, show (r * 3 + y) % 3 = y by omega, show (r * 3 + x) % 3 = x by omega]
    exact hinj _ (hat r hr) y x hy hx
  · intro r x hr hx hn
    unfold gth gthP
    dsimp only
    rw [if_neg (by omega), if_neg (by omega)]
    exact ⟨rfl, rfl⟩
theorem tabOf_ot {m : Mach} {l s : Nat} (g : Good m l s) : ∀ q x, q < (tabOf m l s).n → x < (tabOf m l s).L → (tabOf m l s).ot q x < (tabOf m l s).L := fun q x hq hx => g.ot q x hq hx
theorem tabOf_inj {m : Mach} {l s : Nat} (g : Good m l s) : ∀ q, q < (tabOf m l s).n → ∀ y x, y < x → x < (tabOf m l s).L → (tabOf m l s).ot q y ≠ (tabOf m l s).ot q x := fun q hq y x hy hx => g.inj q hq y x hy hx
end
end Go.Proofs.Ytgpjcekpmhfljaa

/- The product of two states: the program's side. -/
namespace Go.Proofs.Ytgpjcekpmhfljaa
open Go.RowKit
set_option linter.unusedVariables false
set_option linter.unusedSimpArgs false

/-- The table of a product. -/
def prodT (m k : Mach) (l s s' : Nat) : Tab := ⟨s * s', l, fun p x => m.nx (p / s' * 3 + x) * s' + k.nx (p % s' * 3 + m.ot (p / s' * 3 + x)), fun p x => k.ot (p % s' * 3 + m.ot (p / s' * 3 + x))⟩
section
variable {m k : Mach} {l s s' : Nat}
theorem prod_nx (m k : Mach) (l s : Nat) {a b P : Nat} (x : Nat) (hb : b < s') (hP : P = a * s') : (prodT m k l s s').nx (P + b) x = m.nx (a * 3 + x) * s' + k.nx (b * 3 + m.ot (a * 3 + x)) := by
  have e1 : (P + b) / s' = a := by rw [hP, Nat.mul_comm, Nat.mul_add_div (by omega), Nat.div_eq_of_lt hb, Nat.add_zero]
  have e2 : (P + b) % s' = b := by rw [hP, Nat.mul_comm, Nat.mul_add_mod, Nat.mod_eq_of_lt hb]
  simp only [prodT, e1, e2]
theorem prod_ot (m k : Mach) (l s : Nat) {a b P : Nat} (x : Nat) (hb : b < s') (hP : P = a * s') : (prodT m k l s s').ot (P + b) x = k.ot (b * 3 + m.ot (a * 3 + x)) := by
  have e1 : (P + b) / s' = a := by rw [hP, Nat.mul_comm, Nat.mul_add_div (by omega), Nat.div_eq_of_lt hb, Nat.add_zero]
  have e2 : (P + b) % s' = b := by rw [hP, Nat.mul_comm, Nat.mul_add_mod, Nat.mod_eq_of_lt hb]
  simp only [prodT, e1, e2]
theorem prod_split {p : Nat} (hp : p < s * s') : p / s' < s ∧ p % s' < s' := by
  have h0 : 0 < s' := Nat.pos_of_ne_zero (fun h => by rw [h] at hp; simp at hp)
  exact ⟨Nat.div_lt_of_lt_mul (by rw [Nat.mul_comm]; exact hp), Nat.mod_lt _ h0⟩
theorem prod_in {a b : Nat} (ha : a < s) (hb : b < s') : a * s' + b < s * s' := by
  have h1 : a * s' + s' ≤ s * s' := by rw [← Nat.succ_mul]; exact Nat.mul_le_mul_right _ ha
  omega
theorem prod_ok (g : Good m l s) (g' : Good k l s') : (prodT m k l s s').Ok := by
  refine ⟨Nat.mul_pos g.s1 g'.s1, fun p x hp hx => ?_⟩
  obtain ⟨h1, h2⟩ := prod_split hp
  exact prod_in (g.nx _ x h1 hx) (g'.nx _ _ h2 (g.ot _ x h1 hx))
theorem prod_o (g : Good m l s) (g' : Good k l s') : ∀ p x, p < (prodT m k l s s').n → x < (prodT m k l s s').L → (prodT m k l s s').ot p x < (prodT m k l s s').L := fun p x hp hx => by
  obtain ⟨h1, h2⟩ := prod_split hp
  exact g'.ot _ _ h2 (g.ot _ x h1 hx)
theorem prod_o256 (g : Good m l s) (g' : Good k l s') : ∀ p x, p < (prodT m k l s s').n → x < (prodT m k l s s').L → (prodT m k l s s').ot p x < 256 := fun p x hp hx => by
  have h := prod_o g g' p x hp hx
  have : (prodT m k l s s').L = l := rfl
  have := g.l3
  omega
theorem prod_inj (g : Good m l s) (g' : Good k l s') : ∀ p, p < (prodT m k l s s').n → ∀ y x, y < x → x < (prodT m k l s s').L → (prodT m k l s s').ot p y ≠ (prodT m k l s s').ot p x := fun p hp y x hy hx => by
  obtain ⟨h1, h2⟩ := prod_split hp
  have hx' : x < l := hx
  have i := g.inj _ h1 y x hy hx'
  have o1 := g.ot _ y h1 (by omega)
  have o2 := g.ot _ x h1 hx'
  show k.ot _ ≠ k.ot _
  rcases Nat.lt_or_gt_of_ne i with h | h
  · exact g'.inj _ h2 _ _ h o2
  · exact (g'.inj _ h2 _ _ h o1).symm
theorem prod_n (g : Good m l s) (g' : Good k l s') : (prodT m k l s s').n ≤ 256 := by
  show s * s' ≤ 256
  exact Nat.mul_le_mul g.s16 g'.s16
end

end Go.Proofs.Ytgpjcekpmhfljaa

/- The trivial machine, and powers: the program's and the reference's. -/
namespace Go.Proofs.Ytgpjcekpmhfljaa
open Go.RowKit
set_option linter.unusedVariables false
set_option linter.unusedSimpArgs false

/-- The trivial machine, as far as it is written. -/
def trivP (l x : Nat) : Mach := ⟨l, 1, fun _ => 0, fun p => if p < x then p else 0⟩
theorem trivP_zero (l : Nat) : trivP l 0 = ⟨l, 1, fun _ => 0, fun _ => 0⟩ := by
  unfold trivP
  congr 1
theorem trivP_step (l x : Nat) : trivP l (x + 1) = { trivP l x with ot := upd (trivP l x).ot x x } := by
  unfold trivP upd
  congr 1
  funext p
  dsimp only
  by_cases h : p = x
  · subst h; simp
  · rw [if_neg h]
    by_cases hp : p < x
    · rw [if_pos hp, if_pos (by omega)]
    · rw [if_neg hp, if_neg (by omega)]
def trivM (l : Nat) : Mach := trivP l l
theorem trivM_ok (l : Nat) (hl : l ≤ 3) : (trivM l).Ok := fun i => ⟨by show 0 < 256; omega, by show (if i < l then i else 0) < 256; split <;> omega⟩
theorem trivM_good (l : Nat) (l2 : 2 ≤ l) (l3 : l ≤ 3) : Good (trivM l) l 1 := by
  refine ⟨rfl, rfl, l2, l3, by omega, by omega, ?_, ?_, ?_, ?_⟩
  · intro q x _ _; show 0 < 1; omega
  · intro q x hq hx
    show (if q * 3 + x < l then q * 3 + x else 0) < l
    rw [if_pos (by omega)]; omega
  · intro q hq y x hy hx
    show (if q * 3 + y < l then q * 3 + y else 0) ≠ (if q * 3 + x < l then q * 3 + x else 0)
    rw [if_pos (by omega), if_pos (by omega)]; omega
  · intro q x hq hx hn
    refine ⟨rfl, ?_⟩
    show (if q * 3 + x < l then q * 3 + x else 0) = 0
    by_cases h : q * 3 + x < l
    · exfalso; apply hn; omega
    · rw [if_neg h]



end Go.Proofs.Ytgpjcekpmhfljaa
