/- Plain: a map of n numbers into themselves meets all of them just if it meets none twice; bits of numbers. -/
import Derived.Test.YthempofohidlnaaMach
import Derived.Laws.BitsAllLaws
import Derived.Laws.BitsLemmas
namespace Go.Proofs.Ythempofohidlnaa
open Go.RowKit
set_option linter.unusedVariables false
set_option linter.unusedSimpArgs false

def InjOn (f : Nat → Nat) (n : Nat) : Prop := ∀ i j, i < j → j < n → f i ≠ f j
def SurjOn (f : Nat → Nat) (n : Nat) : Prop := ∀ k, k < n → ∃ i, i < n ∧ f i = k

theorem inj_le : ∀ (n m : Nat) (f : Nat → Nat), (∀ i, i < n → f i < m) → InjOn f n → n ≤ m
  | 0, m, f, _, _ => Nat.zero_le _
  | n + 1, m, f, hf, hi => by
    have hm : 0 < m := by have := hf 0 (by omega); omega
    obtain ⟨m, rfl⟩ : ∃ k, m = k + 1 := ⟨m - 1, by omega⟩
    have := inj_le n m (fun i => if f i = m then f n else f i) (fun i h => by
        have h1 := hf i (by omega)
        have h2 := hf n (by omega)
        have h3 := hi i n h (by omega)
        split <;> omega)
      (fun i j hij hj => by
        have h3 := hi i n (by omega) (by omega)
        have h4 := hi j n (by omega) (by omega)
        have h5 := hi i j hij (by omega)
        dsimp only
        split <;> split <;> omega)
    omega

theorem surj_of_inj {f : Nat → Nat} {n : Nat} (hf : ∀ i, i < n → f i < n) (hi : InjOn f n) : SurjOn f n := fun k hk => by
  apply Classical.byContradiction
  intro hno
  have hne : ∀ i, i < n → f i ≠ k := fun i h e => hno ⟨i, h, e⟩
  have := inj_le n (n - 1) (fun i => if f i < k then f i else f i - 1) (fun i h => by
      have h1 := hf i h
      have h2 := hne i h
      split <;> omega)
    (fun i j hij hj => by
      have h1 := hne i (by omega)
      have h2 := hne j hj
      have h5 := hi i j hij hj
      dsimp only
      split <;> split <;> omega)
  omega

theorem inj_of_surj {f : Nat → Nat} {n : Nat} (hs : SurjOn f n) : InjOn f n := by
  have hg : ∃ g : Nat → Nat, ∀ k, k < n → g k < n ∧ f (g k) = k := by
    refine ⟨fun k => if h : k < n then Classical.choose (hs k h) else 0, fun k h => ?_⟩
    dsimp only
    rw [dif_pos h]
    exact Classical.choose_spec (hs k h)
  obtain ⟨g, hg⟩ := hg
  have gi : InjOn g n := fun i j hij hj e => by
    have h1 := (hg i (by omega)).2
    have h2 := (hg j hj).2
    rw [e, h2] at h1
    omega
  have gs := surj_of_inj (fun i h => (hg i h).1) gi
  intro i j hij hj e
  obtain ⟨a, ha, ea⟩ := gs i (by omega)
  obtain ⟨b, hb, eb⟩ := gs j hj
  have h1 := (hg a ha).2
  have h2 := (hg b hb).2
  rw [ea] at h1
  rw [eb] at h2
  have hab : a = b := by omega
  subst hab
  omega

theorem or_nat (a b : Nat) (ha : a < 9223372036854775808) (hb : b < 9223372036854775808) : bits BinOp.or IntKind.i64 (a : Int) (b : Int) = ((a ||| b : Nat) : Int) := by
  have hx : a ||| b < 2 ^ 63 := Nat.or_lt_two_pow (by omega) (by omega)
  have hy : 2 ^ 63 = 9223372036854775808 := by decide
  have ea : (BitVec.ofInt 64 (a : Int)).toNat = a := by rw [BitVec.ofInt_natCast, BitVec.toNat_ofNat]; exact Nat.mod_eq_of_lt (by omega)
  have eb : (BitVec.ofInt 64 (b : Int)).toNat = b := by rw [BitVec.ofInt_natCast, BitVec.toNat_ofNat]; exact Nat.mod_eq_of_lt (by omega)
  show IntKind.i64.wrap ((BitVec.ofInt 64 (a : Int) ||| BitVec.ofInt 64 (b : Int)).toNat : Int) = _
  rw [BitVec.toNat_or, ea, eb, IntKind.wrap_i64]
  omega

/-- The bits of the numbers met so far. -/
def orAll (f : Nat → Nat) : Nat → Nat
  | 0 => 0
  | q + 1 => orAll f q ||| (1 <<< f q)

theorem testBit_one_shift (o k : Nat) : (1 <<< o).testBit k = decide (k = o) := by
  rw [Nat.shiftLeft_eq, Nat.one_mul, Nat.testBit_two_pow]
  simp only [decide_eq_decide]
  omega

theorem orAll_bits (f : Nat → Nat) : ∀ q k, (orAll f q).testBit k = true ↔ ∃ p, p < q ∧ f p = k
  | 0, k => by simp [orAll]
  | q + 1, k => by
    unfold orAll
    rw [Nat.testBit_or, Bool.or_eq_true, orAll_bits f q k, testBit_one_shift, decide_eq_true_eq]
    constructor
    · rintro (⟨p, hp, e⟩ | e)
      · exact ⟨p, by omega, e⟩
      · exact ⟨q, by omega, e.symm⟩
    · rintro ⟨p, hp, e⟩
      by_cases h : p = q
      · subst h; exact .inr e.symm
      · exact .inl ⟨p, by omega, e⟩

theorem orAll_lt (f : Nat → Nat) (n : Nat) : ∀ q, (∀ p, p < q → f p < n) → orAll f q < 2 ^ n
  | 0, _ => by simp [orAll, Nat.two_pow_pos]
  | q + 1, h => by
    unfold orAll
    refine Nat.or_lt_two_pow (orAll_lt f n q fun p hp => h p (by omega)) ?_
    rw [Nat.shiftLeft_eq, Nat.one_mul]
    exact Nat.pow_lt_pow_right (by omega) (h q (by omega))

theorem orAll_full (f : Nat → Nat) (n : Nat) (hf : ∀ p, p < n → f p < n) : orAll f n = 2 ^ n - 1 ↔ InjOn f n := by
  constructor
  · intro h
    refine inj_of_surj fun k hk => ?_
    have : (orAll f n).testBit k = true := by rw [h, Nat.testBit_two_pow_sub_one]; exact decide_eq_true hk
    exact (orAll_bits f n k).1 this
  · intro h
    have hs := surj_of_inj hf h
    apply Nat.eq_of_testBit_eq
    intro k
    rw [Nat.testBit_two_pow_sub_one, Bool.eq_iff_iff, orAll_bits, decide_eq_true_eq]
    exact ⟨fun ⟨p, hp, e⟩ => e ▸ hf p hp, fun hk => hs k hk⟩
end Go.Proofs.Ythempofohidlnaa
