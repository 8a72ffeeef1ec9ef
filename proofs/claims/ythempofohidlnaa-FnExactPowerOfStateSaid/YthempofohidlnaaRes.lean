/- Lists of numbers that come back: compared, marked, and held. -/
import Derived.Test.YthempofohidlnaaLevel
import Derived.BigQuiet
import Derived.Laws.OwnMore
namespace Go.Proofs.Ythempofohidlnaa
open Go.RowKit
set_option linter.unusedVariables false
set_option linter.unusedSimpArgs false

theorem Own.set {w : World} {base e g n cap : Nat} {cs : List Value} (h : Own w base e (.slice (some ⟨g, 0, none⟩) n cap) cs) (hn : cs.length = n) (j : Nat) (u : Value) (hj : j < n) :
    Own (w.setCell ⟨g, j, none⟩ u) base e (.slice (some ⟨g, 0, none⟩) n cap) (cs.set j u) := by
  unfold Own at *
  rw [List.length_set, hn]
  rw [hn] at h
  exact (World.ownsRow.stored h j u).1
theorem Own.frozenAt {w : World} {base e g n cap : Nat} {cs : List Value} (h : Own w base e (.slice (some ⟨g, 0, none⟩) n cap) cs) (hn : cs.length = n) (j : Nat) : w.frozen? ⟨g, j, none⟩ = false := by
  unfold Own at h
  rw [hn] at h
  exact World.ownsRow.frozenAt h j

set_option maxHeartbeats 1000000 in
set_option maxRecDepth 100000 in
theorem eqInt64S_any (w : World) (b1 b2 : Nat) (v1 v2 : Value) (l : List Int) (h1 : Own w b1 2 v1 (ints l)) (h2 : Own w b2 2 v2 (ints l)) (hl : l.length < 1000000) :
    Calls Try.prog 18 #[v1, v2] w fun e w' => e = .returned (.bool true) ∧ Below w.heap.size w w' := by
  have hil := ints_length l
  by_cases hne : l = []
  · subst hne
    obtain ⟨A1, c1, rfl, _, _⟩ := h1.form
    obtain ⟨A2, c2, rfl, _, _⟩ := h2.form
    rw [hil]
    clear h1 h2
    go_enter Try.func18, Try.ntmps18
    go_wp2
    go_loopw [5] (fun i wr => i = .int .i64 0 ∧ wr = w) (fun _ _ => 0)
    case atStart => exact ⟨rfl, rfl⟩
    case round =>
      obtain ⟨rfl, rfl⟩ := hrel
      go_wp2
      go_ret
      exact ⟨rfl, Below.refl _ _⟩
  · have hne' : ints l ≠ [] := fun e => hne (by rw [← List.length_eq_zero_iff, ← hil, e]; rfl)
    obtain ⟨g1, c1, rfl, _, hg1⟩ := h1.blk hne'
    obtain ⟨g2, c2, rfl, _, hg2⟩ := h2.blk hne'
    rw [hil] at *
    have hget := hid (fun (k : Nat) (x : Int) (hx : l[k]? = some x) => (show (ints l)[k]? = some (.int .i64 x) by simp [ints, hx]))
    replace h1 := hid h1
    replace h2 := hid h2
    clear hne hne' hil
    generalize hn : l.length = n at *
    go_enter Try.func18, Try.ntmps18
    go_wp2
    go_loopw [5] (fun i wr => ∃ k : Nat, k ≤ n ∧ i = .int .i64 k ∧ Below w.heap.size w wr) (fun i _ => n - (intOf i).toNat)
    case atStart => exact ⟨0, Nat.zero_le _, rfl, Below.refl _ _⟩
    case round =>
      obtain ⟨k, hk, rfl, rB⟩ := hrel
      replace rB := hid rB
      by_cases hlt : k < n
      · obtain ⟨x, hx⟩ : ∃ x, l[k]? = some x := ⟨_, List.getElem?_eq_getElem (by omega)⟩
        have d1 := (h1.out.below rB.out).cellAt k _ (hget.out k x hx)
        have d2 := (h2.out.below rB.out).cellAt k _ (hget.out k x hx)
        go_upto_region 6 with (fail)
        go_quiet (fail)
        go_wp2
        go_roundw
        case rel => exact ⟨k + 1, by omega, by go_num, below_drewN rB.out _⟩
        case measure => simp [intOf]; omega
      · obtain rfl : k = n := by omega
        go_wp2
        go_ret
        exact ⟨rfl, rB.out⟩

/-- The marks. -/
def marks (k n : Nat) : List Value := (List.range n).map fun i => .int .i64 ((k + i : Nat) : Int)
theorem marks_get (k n i : Nat) (h : i < n) : (marks k n)[i]? = some (.int .i64 ((k + i : Nat) : Int)) := by simp [marks, h]
theorem marks_length (k n : Nat) : (marks k n).length = n := by simp [marks]

theorem mark_step (k j n : Nat) (cs : List Value) (hn : cs.length = n) (hj : j < n) : (marks k j ++ cs.drop j).set j (.int .i64 ((k + j : Nat) : Int)) = marks k (j + 1) ++ cs.drop (j + 1) := by
  apply List.ext_getElem?
  intro i
  rw [List.getElem?_set]
  by_cases h1 : i < j
  · rw [if_neg (by omega), List.getElem?_append_left (by rw [marks_length]; omega), List.getElem?_append_left (by rw [marks_length]; omega), marks_get _ _ _ h1, marks_get _ _ _ (by omega)]
  · by_cases h2 : i = j
    · subst h2
      rw [if_pos rfl, if_pos (by simp [marks_length]; omega), List.getElem?_append_left (by rw [marks_length]; omega), marks_get _ _ _ (by omega)]
    · rw [if_neg (by omega), List.getElem?_append_right (by rw [marks_length]; omega), List.getElem?_append_right (by rw [marks_length]; omega), marks_length, marks_length, List.getElem?_drop, List.getElem?_drop]
      congr 1; omega
set_option maxHeartbeats 1000000 in
set_option maxRecDepth 100000 in
theorem markInt64S_any (w : World) (base : Nat) (v : Value) (cs : List Value) (n k : Nat) (hn : cs.length = n) (h : Own w base 2 v cs) (hl : n + k < 1000000) :
    Calls Try.prog 19 #[v, .int .i64 k] w fun e w' => e = .returned (.int .i64 ((k + n : Nat) : Int)) ∧ Own w' base 2 v (marks k n) ∧ Below base w w' := by
  by_cases hne : n = 0
  · subst hne
    obtain ⟨A1, c1, rfl, _, _⟩ := h.form
    have hcs := List.eq_nil_of_length_eq_zero hn
    rw [hn]
    have hm : marks k 0 = cs := by rw [hcs]; rfl
    rw [hm]
    rw [hn] at h
    replace h := hid h
    go_enter Try.func19, Try.ntmps19
    go_wp2
    go_loopw [1, 5] (fun i j wr => i = .int .i64 k ∧ j = .int .i64 0 ∧ wr = w) (fun _ _ _ => 0)
    case atStart => exact ⟨rfl, rfl, rfl⟩
    case round =>
      obtain ⟨rfl, rfl, rfl⟩ := hrel
      go_wp2
      go_ret
      exact ⟨rfl, h.out, Below.refl _ _⟩
  · obtain ⟨g, c, rfl, hb, hg⟩ := h.blk (fun e => hne (by rw [← hn, e]; rfl))
    rw [hn] at h ⊢
    replace h := hid h
    go_enter Try.func19, Try.ntmps19
    go_wp2
    go_loopw [1, 5] (fun q i wr => ∃ j : Nat, j ≤ n ∧ i = .int .i64 j ∧ q = .int .i64 ((k + j : Nat) : Int) ∧ Own wr base 2 (.slice (some ⟨g, 0, none⟩) n c) (marks k j ++ cs.drop j) ∧ Below base w wr) (fun _ i _ => n - (intOf i).toNat)
    case atStart => exact ⟨0, Nat.zero_le _, rfl, rfl, h.out, Below.refl _ _⟩
    case round =>
      obtain ⟨j, hj, rfl, rfl, r1, rB⟩ := hrel
      have hjl : (marks k j ++ cs.drop j).length = n := by rw [List.length_append, marks_length, List.length_drop]; omega
      by_cases hlt : j < n
      · have hst := hid (mark_step k j n cs hn hlt)
        obtain ⟨u, hu⟩ : ∃ u, (marks k j ++ cs.drop j)[j]? = some u := ⟨_, List.getElem?_eq_getElem (by omega)⟩
        have co := r1.cellAt j u hu
        have fo := r1.frozenAt hjl j
        have y1 := hid (r1.set hjl j (.int .i64 ((k + j : Nat) : Int)) hlt)
        have yB := hid (rB.setCell (p := ⟨g, j, none⟩) hb (.int .i64 ((k + j : Nat) : Int)))
        clear h r1 rB hu
        replace hjl := hid hjl
        have e1 : ((k + j : Nat) : Int) + 1 = ((k + (j + 1) : Nat) : Int) := by omega
        have e2 : ((k + j : Nat) : Int) < 1000000 := by omega
        have e3 : 0 ≤ ((k + j : Nat) : Int) := by omega
        generalize hkj : ((k + j : Nat) : Int) = kj at *
        go_wp2
        go_roundw
        case rel => exact ⟨j + 1, by omega, by go_num, by go_num, by rw [← hst.out]; exact y1.out, yB.out⟩
        case measure => simp [intOf]; omega
      · obtain rfl : j = n := by omega
        have hm : marks k j ++ cs.drop j = marks k j := by rw [← hn, List.drop_length, List.append_nil]
        rw [hm] at r1
        replace r1 := hid r1
        replace rB := hid rB
        clear h
        go_wp2
        go_ret
        exact ⟨rfl, r1.out, rB.out⟩

set_option maxHeartbeats 1000000 in
set_option maxRecDepth 100000 in
theorem heldInt64S_any (w : World) (base : Nat) (v : Value) (n k : Nat) (h : Own w base 2 v (marks k n)) (hl : n + k < 1000000) :
    Calls Try.prog 20 #[v, .int .i64 k] w fun e w' => e = .returned (.int .i64 ((k + n : Nat) : Int)) ∧ w = w' := by
  have hml := marks_length k n
  by_cases hne : n = 0
  · subst hne
    obtain ⟨A1, c1, rfl, _, _⟩ := h.form
    rw [hml]
    clear h
    go_enter Try.func20, Try.ntmps20
    go_wp2
    go_loop [1, 5] (fun i j => i = .int .i64 k ∧ j = .int .i64 0) (fun _ _ => 0)
    case atStart => exact ⟨rfl, rfl⟩
    case round =>
      obtain ⟨rfl, rfl⟩ := hrel
      go_wp2
      go_ret
      exact ⟨rfl, rfl⟩
  · obtain ⟨g, c, rfl, hb, hg⟩ := h.blk (fun e => hne (by rw [← hml, e]; rfl))
    rw [hml] at h ⊢
    replace h := hid h
    go_enter Try.func20, Try.ntmps20
    go_wp2
    go_loop [1, 5] (fun q i => ∃ j : Nat, j ≤ n ∧ i = .int .i64 j ∧ q = .int .i64 ((k + j : Nat) : Int)) (fun _ i => n - (intOf i).toNat)
    case atStart => exact ⟨0, Nat.zero_le _, rfl, rfl⟩
    case round =>
      obtain ⟨j, hj, rfl, rfl⟩ := hrel
      by_cases hlt : j < n
      · have co := h.out.cellAt j _ (marks_get k n j hlt)
        have e1 : ((k + j : Nat) : Int) + 1 = ((k + (j + 1) : Nat) : Int) := by omega
        have e2 : ((k + j : Nat) : Int) < 1000000 := by omega
        have e3 : 0 ≤ ((k + j : Nat) : Int) := by omega
        generalize hkj : ((k + j : Nat) : Int) = kj at *
        go_wp2
        go_round
        case rel => exact ⟨j + 1, by omega, by go_num, by go_num⟩
        case measure => simp [intOf]; omega
      · obtain rfl : j = n := by omega
        go_wp2
        go_ret
        exact ⟨rfl, rfl⟩

theorem mark1 (w : World) (base : Nat) (v : Value) (cs : List Value) (n : Nat) (hn : cs.length = n) (h : Own w base 2 v cs) (hl : n < 999999) :
    Calls Try.prog 19 #[v, .int .i64 1] w fun e w' => e = .returned (.int .i64 ((n : Int) + 1)) ∧ Own w' base 2 v (marks 1 n) ∧ Below base w w' :=
  (markInt64S_any w base v cs n 1 hn h (by omega)).mono fun e w' ⟨h1, h2⟩ => ⟨h1.trans (retI (by omega)), h2⟩
theorem held1 (w : World) (base : Nat) (v : Value) (n : Nat) (h : Own w base 2 v (marks 1 n)) (hl : n < 999999) :
    Calls Try.prog 20 #[v, .int .i64 1] w fun e w' => e = .returned (.int .i64 ((n : Int) + 1)) ∧ w = w' :=
  (heldInt64S_any w base v n 1 h (by omega)).mono fun e w' ⟨h1, h2⟩ => ⟨h1.trans (retI (by omega)), h2⟩
end Go.Proofs.Ythempofohidlnaa
