/- Proved: for every number of letters and every text, the program's NumberOfDigits returns just what the reference's returns; no conditions. -/
import Derived.Test.YteecodopnemccaaPFnExactNumberOfDigitsx1
namespace Go.Proofs.Yteecodopnemccaa.Pure
open Go.RowKit Go.Proofs.Yteecodopnemccaa.PFnExactNumberOfDigits Go.Proofs.YteecodopnemccaaW.PrintWords Go.Proofs.YteecodopnemccaaW.PrintLast

theorem w64 {x : Int} (h : -9223372036854775808 ≤ x) (h' : x ≤ 9223372036854775807) : wrap64 x = x := by unfold wrap64; omega

theorem bt_bd (s : ByteArray) (i : Int) : 0 ≤ bt s i ∧ bt s i < 256 := by
  unfold bt
  split
  · have := (s[i.toNat]'(by assumption)).toNat_lt; omega
  · omega

theorem within_some (a b c : Int) : impl_within.f a b c = some (decide (b ≤ a ∧ a ≤ c)) := by
  unfold impl_within.f
  by_cases h : a ≥ b
  · rw [if_pos h]; congr 1; simp only [decide_eq_decide]; omega
  · rw [if_neg h]; congr 1; symm; simp only [decide_eq_false_iff_not]; omega

/-- From place i on, are all bytes letters? -/
def lets (d : Int) (w : ByteArray) : Nat → Nat → Bool
  | 0, _ => true
  | n + 1, i => if bt w i < 48 then false else if (bt w i - 48) % 256 ≥ d then false else lets d w n (i + 1)

theorem specLetters (d : Int) (w : ByteArray) (hw : w.size ≤ 1048576) : ∀ (k n i : Nat), i + n = w.size → n < k → spec_l01Letters.l0 k d w i = some (lets d w n i) := by
  intro k
  induction k with
  | zero => intro n i _ h; omega
  | succ k ih =>
    intro n i hn hk
    simp only [spec_l01Letters.l0]
    cases n with
    | zero => rw [if_neg (by omega)]; rfl
    | succ n =>
      rw [if_pos (by omega), if_pos (by omega), lets]
      split
      · rfl
      · split
        · rfl
        · rw [w64 (by omega) (by omega), show (i : Int) + 1 = ((i + 1 : Nat) : Int) by omega, ih n (i + 1) (by omega) (by omega)]

theorem implWord (d : Int) (w : ByteArray) (hw : w.size ≤ 1048576) : ∀ (k n i : Nat), i + n = w.size → n < k → impl_isWord.l0 k d w w.size i = some (lets d w n i && decide ((w.size : Int) ≤ 40)) := by
  intro k
  induction k with
  | zero => intro n i _ h; omega
  | succ k ih =>
    intro n i hn hk
    simp only [impl_isWord.l0]
    cases n with
    | zero => rw [if_neg (by omega)]; simp [lets]
    | succ n =>
      rw [if_pos (by omega), if_pos (by omega), if_pos (by omega), lets]
      split
      · rfl
      · split
        · rfl
        · rw [w64 (by omega) (by omega), show (i : Int) + 1 = ((i + 1 : Nat) : Int) by omega, ih n (i + 1) (by omega) (by omega)]

/-- The number of the first i digits, from the last one of them on. -/
def val (d : Int) (w : ByteArray) : Nat → Int → Int
  | 0, x => x
  | i + 1, x => val d w i (wrap64 (wrap64 (x * d) + (bt w i - 48) % 256))

theorem specNum (d : Int) (w : ByteArray) (hw : w.size ≤ 1048576) : ∀ (k i : Nat) (x : Int), i ≤ w.size → i < k → spec_NumberOfDigits.l0 k d w x ((i : Int) - 1) = some (val d w i x, 0) := by
  intro k
  induction k with
  | zero => intro i _ _ h; omega
  | succ k ih =>
    intro i x hi hk
    rw [spec_NumberOfDigits.l0]
    cases i with
    | zero => rw [if_neg (by omega)]; rfl
    | succ i =>
      rw [show ((i + 1 : Nat) : Int) - 1 = (i : Int) by omega, if_pos (by omega), if_pos (by omega), if_pos (by omega), w64 (x := (i : Int) - 1) (by omega) (by omega), ih i _ (by omega) (by omega), Int.mul_comm d x]
      rfl

theorem implNum (d : Int) (w : ByteArray) (hw : w.size ≤ 1048576) : ∀ (k i : Nat) (x : Int), i ≤ w.size → i < k → impl_NumberOfDigits.l0 k d w x ((i : Int) - 1) = some (val d w i x, 0) := by
  intro k
  induction k with
  | zero => intro i _ _ h; omega
  | succ k ih =>
    intro i x hi hk
    rw [impl_NumberOfDigits.l0]
    cases i with
    | zero => rw [if_neg (by omega)]; rfl
    | succ i =>
      rw [show ((i + 1 : Nat) : Int) - 1 = (i : Int) by omega, if_pos (by omega), if_pos (by omega), if_pos (by omega), w64 (x := (i : Int) - 1) (by omega) (by omega), ih i _ (by omega) (by omega)]
      rfl

theorem same (d : Int) (w : ByteArray) (hw : w.size ≤ 1048576) : ∃ k r, spec_NumberOfDigits.f k d w = some r ∧ impl_NumberOfDigits.f k d w = some r := by
  refine ⟨w.size + 5, ?_⟩
  have hl := specLetters d w hw (w.size + 3) w.size 0 (by omega) (by omega)
  have hi := implWord d w hw (w.size + 5) w.size 0 (by omega) (by omega)
  have hs := fun k hk => specNum d w hw k w.size 0 (Nat.le_refl _) hk
  have hm := fun k hk => implNum d w hw k w.size 0 (Nat.le_refl _) hk
  have hw1 : wrap64 ((w.size : Int) - 1) = (w.size : Int) - 1 := w64 (by omega) (by omega)
  unfold spec_NumberOfDigits.f impl_NumberOfDigits.f impl_areLetters.f
  simp only [within_some, Option.bind_some]
  by_cases hd : d = 2 ∨ d = 3
  · have h1 : (decide (2 ≤ d ∧ d ≤ 3)) = true := by simp; omega
    have h2 : (d != 3) = true ↔ ¬ d = 3 := by simp
    have hj : (if d = 2 then spec_NumberOfDigits.j0 (w.size + 5) d w false else spec_NumberOfDigits.j0 (w.size + 5) d w (d != 3)) = spec_NumberOfDigits.j0 (w.size + 5) d w false := by
      rcases hd with rfl | rfl <;> rfl
    rw [hj, if_pos h1]
    have hi' : impl_isWord.f (w.size + 5) d w = some (lets d w w.size 0 && decide ((w.size : Int) ≤ 40)) := hi
    have hl' : spec_l01Letters.f (w.size + 3 + 1) d w = some (lets d w w.size 0) := specLetters d w hw (w.size + 4) w.size 0 (by omega) (by omega)
    rw [hi']
    simp only [Option.bind_some]
    rw [show spec_NumberOfDigits.j0 (w.size + 5) d w false = (if (w.size : Int) > 40 then (spec_NumberOfDigits.j1 (w.size + 4) d w true) else ((spec_l01Letters.f (w.size + 4) d w).bind fun t101 => (spec_NumberOfDigits.j1 (w.size + 4) d w (!t101)))) from by
      rw [spec_NumberOfDigits.j0]; rfl]
    rw [hl']
    simp only [Option.bind_some]
    by_cases h40 : (w.size : Int) > 40
    · rw [if_pos h40, if_neg (by simp; omega)]
      exact ⟨(0, 1), by rw [spec_NumberOfDigits.j1]; rfl, rfl⟩
    · rw [if_neg h40]
      cases hlet : lets d w w.size 0 with
      | false => exact ⟨(0, 1), by rw [spec_NumberOfDigits.j1]; rfl, rfl⟩
      | true =>
        rw [if_pos (by simp; omega)]
        have hj1 : spec_NumberOfDigits.j1 (w.size + 4) d w (!true) = (if (w.size : Int) > 30 then (some (0, 2)) else (spec_NumberOfDigits.l0 (w.size + 3) d w 0 (wrap64 ((w.size : Int) - 1)))) := by
          rw [spec_NumberOfDigits.j1]; rfl
        rw [hj1, hw1]
        by_cases h30 : (w.size : Int) > 30
        · rw [if_pos h30, if_pos h30]; exact ⟨_, rfl, rfl⟩
        · rw [if_neg h30, if_neg h30, hs _ (by omega), hm _ (by omega)]; exact ⟨_, rfl, rfl⟩
  · have h1 : ¬ (decide (2 ≤ d ∧ d ≤ 3)) = true := by simp; omega
    rw [if_neg h1, if_neg (by omega)]
    have h3 : (d != 3) = true := by simp; omega
    rw [h3]
    exact ⟨(0, 2), by rw [spec_NumberOfDigits.j0]; rfl, rfl⟩

theorem FnExactNumberOfDigits : laws_FnExactNumberOfDigits.Pure := by
  intro d w _ hw
  unfold laws_FnExactNumberOfDigits.f
  by_cases hb : (w.size : Int) > 1048576
  · exact ⟨0, by rw [if_pos hb]⟩
  · obtain ⟨k, r, h1, h2⟩ := same d w (by omega)
    refine ⟨k, ?_⟩
    rw [if_neg hb, h1, h2]
    simp
end Go.Proofs.Yteecodopnemccaa.Pure
