/- What the proof of FnPortraits leans on, part 2 of 26. -/
import Derived.Test.YtbmkkaecfogmoaaZFnPortraitsA
import Derived.Laws.BitsAllLaws
import Derived.Laws.BitsLemmas
/- Plain: a map of n numbers into themselves meets all of them just if it meets none twice; bits of numbers. -/
namespace Go.Proofs.Ytbmkkaecfogmoaa
open Go.RowKit
set_option linter.unusedVariables false
set_option linter.unusedSimpArgs false

def InjOn (f : Nat → Nat) (n : Nat) : Prop := ∀ i j, i < j → j < n → f i ≠ f j
def SurjOn (f : Nat → Nat) (n : Nat) : Prop := ∀ k, k < n → ∃ i, i < n ∧ f i = k

theorem inj_le : ∀ (n m : Nat) (f : Nat → Nat), (∀ i, i < n → f i < m) → InjOn f n → n ≤ m
  | 0, m, f, _, _ => Nat.zero_le _
  | n + 1, m, f, hf, hi => by
    have hm : 0 < m := by have := hf 0 (by omega); omega
    obtain ⟨m, rfl⟩ : ∃ k, m = k + 1 := ⟨m - 1, by omega⟩
    have := inj_le n m (fun i => if f i = m then f n else f i) (fun i h => by
        have h1 := hf i (by omega)
        have h2 := hf n (by omega)
        have h3 := hi i n h (by omega)
        split <;> omega)
      (fun i j hij hj => by
        have h3 := hi i n (by omega) (by omega)
        have h4 := hi j n (by omega) (by omega)
        have h5 := hi i j hij (by omega)
        dsimp only
        split <;> split <;> omega)
    omega

theorem surj_of_inj {f : Nat → Nat} {n : Nat} (hf : ∀ i, i < n → f i < n) (hi : InjOn f n) : SurjOn f n := fun k hk => by
  apply Classical.byContradiction
  intro hno
  have hne : ∀ i, i < n → f i ≠ k := fun i h e => hno ⟨i, h, e⟩
  have := inj_le n (n - 1) (fun i => if f i < k then f i else f i - 1) (fun i h => by
      have h1 := hf i h
      have h2 := hne i h
      split <;> omega)
    (fun i j hij hj => by
      have h1 := hne i (by omega)
      have h2 := hne j hj
      have h5 := hi i j hij hj
      dsimp only
      split <;> split <;> omega)
  omega

theorem inj_of_surj {f : Nat → Nat} {n : Nat} (hs : SurjOn f n) : InjOn f n := by
  have hg : ∃ g : Nat → Nat, ∀ k, k < n → g k < n ∧ f (g k) = k := by
    refine ⟨fun k => if h : k < n then Classical.choose (hs k h) else 0, fun k h => ?_⟩
    dsimp only
    rw [dif_pos h]
    exact Classical.choose_spec (hs k h)
  obtain ⟨g, hg⟩ := hg
  have gi : InjOn g n := fun i j hij hj e => by
    have h1 := (hg i (by omega)).2
    have h2 := (hg j hj).2
    rw [e, h2] at h1
    omega
  have gs := surj_of_inj (fun i h => (hg i h).1) gi
  intro i j hij hj e
  obtain ⟨a, ha, ea⟩ := gs i (by omega)
  obtain ⟨b, hb, eb⟩ := gs j hj
  have h1 := (hg a ha).2
  have h2 := (hg b hb).2
  rw [ea] at h1
  rw [eb] at h2
  have hab : a = b := by omega
  subst hab
  omega

theorem or_nat (a b : Nat) (ha : a < 9223372036854775808) (hb : b < 9223372036854775808) : bits BinOp.or IntKind.i64 (a : Int) (b : Int) = ((a ||| b : Nat) : Int) := by
  have hx : a ||| b < 2 ^ 63 := Nat.or_lt_two_pow (by omega) (by omega)
  have hy : 2 ^ 63 = 9223372036854775808 := by decide
  have ea : (BitVec.ofInt 64 (a : Int)).toNat = a := by rw [BitVec.ofInt_natCast, BitVec.toNat_ofNat]; exact Nat.mod_eq_of_lt (by omega)
  have eb : (BitVec.ofInt 64 (b : Int)).toNat = b := by rw [BitVec.ofInt_natCast, BitVec.toNat_ofNat]; exact Nat.mod_eq_of_lt (by omega)
  show IntKind.i64.wrap ((BitVec.ofInt 64 (a : Int) ||| BitVec.ofInt 64 (b : Int)).toNat : Int) = _
  rw [BitVec.toNat_or, ea, eb, IntKind.wrap_i64]
  omega

/-- The bits of the numbers met so far. -/
def orAll (f : Nat → Nat) : Nat → Nat
  | 0 => 0
  | q + 1 => orAll f q ||| (1 <<< f q)

theorem testBit_one_shift (o k : Nat) : (1 <<< o).testBit k = decide (k = o) := by
  rw [Nat.shiftLeft_eq, Nat.one_mul, Nat.testBit_two_pow]
  simp only [decide_eq_decide]
  omega

theorem orAll_bits (f : Nat → Nat) : ∀ q k, (orAll f q).testBit k = true ↔ ∃ p, p < q ∧ f p = k
  | 0, k => by simp [orAll]
  | q + 1, k => by
    unfold orAll
    rw [Nat.testBit_or, Bool.or_eq_true, orAll_bits f q k, testBit_one_shift, decide_eq_true_eq]
    constructor
    · rintro (⟨p, hp, e⟩ | e)
      · exact ⟨p, by omega, e⟩
      · exact ⟨q, by omega, e.symm⟩
    · rintro ⟨p, hp, e⟩
      by_cases h : p = q
      · subst h; exact .inr e.symm
      · exact .inl ⟨p, by omega, e⟩

theorem orAll_lt (f : Nat → Nat) (n : Nat) : ∀ q, (∀ p, p < q → f p < n) → orAll f q < 2 ^ n
  | 0, _ => by simp [orAll, Nat.two_pow_pos]
  | q + 1, h => by
    unfold orAll
    refine Nat.or_lt_two_pow (orAll_lt f n q fun p hp => h p (by omega)) ?_
    rw [Nat.shiftLeft_eq, Nat.one_mul]
    exact Nat.pow_lt_pow_right (by omega) (h q (by omega))

theorem orAll_full (f : Nat → Nat) (n : Nat) (hf : ∀ p, p < n → f p < n) : orAll f n = 2 ^ n - 1 ↔ InjOn f n := by
  constructor
  · intro h
    refine inj_of_surj fun k hk => ?_
    have : (orAll f n).testBit k = true := by rw [h, Nat.testBit_two_pow_sub_one]; exact decide_eq_true hk
    exact (orAll_bits f n k).1 this
  · intro h
    have hs := surj_of_inj hf h
    apply Nat.eq_of_testBit_eq
    intro k
    rw [Nat.testBit_two_pow_sub_one, Bool.eq_iff_iff, orAll_bits, decide_eq_true_eq]
    exact ⟨fun ⟨p, hp, e⟩ => e ▸ hf p hp, fun hk => hs k hk⟩
end Go.Proofs.Ytbmkkaecfogmoaa

/- Classes of equal states: how both the program and the reference find them. -/
namespace Go.Proofs.Ytbmkkaecfogmoaa
set_option linter.unusedVariables false
set_option linter.unusedSimpArgs false

/-- The first number from r on, at most d steps away, of which p is told; else where the steps end. -/
def fnd (p : Nat → Bool) : Nat → Nat → Nat
  | r, 0 => r
  | r, d + 1 => if p r then r else fnd p (r + 1) d
/-- The first number below n of which p is told; else n. -/
def fst (p : Nat → Bool) (n : Nat) : Nat := fnd p 0 n
theorem fnd_spec (p : Nat → Bool) : ∀ d r, r ≤ fnd p r d ∧ fnd p r d ≤ r + d ∧ (∀ j, r ≤ j → j < fnd p r d → p j = false) ∧ (fnd p r d < r + d → p (fnd p r d) = true)
  | 0, r => ⟨Nat.le_refl _, Nat.le_refl _, fun j h1 h2 => absurd h2 (by unfold fnd; omega), fun h => absurd h (by unfold fnd; omega)⟩
  | d + 1, r => by
    unfold fnd
    by_cases h : p r = true
    · rw [if_pos h]
      exact ⟨Nat.le_refl _, by omega, fun j h1 h2 => by omega, fun _ => h⟩
    · rw [if_neg h]
      obtain ⟨h1, h2, h3, h4⟩ := fnd_spec p d (r + 1)
      refine ⟨by omega, by omega, fun j h5 h6 => ?_, fun h5 => h4 (by omega)⟩
      by_cases e : j = r
      · subst e; simpa using h
      · exact h3 j (by omega) h6
theorem fst_le (p : Nat → Bool) (n : Nat) : fst p n ≤ n := by have := (fnd_spec p n 0).2.1; unfold fst; omega
theorem fst_none (p : Nat → Bool) (n j : Nat) (h : j < fst p n) : p j = false := (fnd_spec p n 0).2.2.1 j (Nat.zero_le _) h
theorem fst_some (p : Nat → Bool) (n : Nat) (h : fst p n < n) : p (fst p n) = true := (fnd_spec p n 0).2.2.2 (by unfold fst at h; omega)
theorem fst_eq (p : Nat → Bool) (n r : Nat) (hr : r ≤ n) (hno : ∀ j, j < r → p j = false) (hy : r < n → p r = true) : fst p n = r := by
  have h1 := fst_le p n
  rcases Nat.lt_trichotomy (fst p n) r with h | h | h
  · have h2 := fst_some p n (by omega)
    rw [hno _ h] at h2; cases h2
  · exact h
  · have h2 := fst_none p n r h
    rw [hy (by omega)] at h2; cases h2

/-- A machine with any number of states. -/
structure Tab where
  n : Nat
  L : Nat
  nx : Nat → Nat → Nat
  ot : Nat → Nat → Nat
structure Tab.Ok (T : Tab) : Prop where
  pos : 0 < T.n
  nx : ∀ q x, q < T.n → x < T.L → T.nx q x < T.n

def alls (L : Nat) (p : Nat → Bool) : Bool := (List.range L).all p
theorem alls_iff (L : Nat) (p : Nat → Bool) : alls L p = true ↔ ∀ x, x < L → p x = true := by
  unfold alls; rw [List.all_eq_true]; simp
/-- Not told apart yet, by a division into classes. -/
def like (T : Tab) (c : Nat → Nat) (r q : Nat) : Bool := (c r == c q) && (alls T.L fun x => T.ot r x == T.ot q x) && alls T.L fun x => c (T.nx r x) == c (T.nx q x)
def cls (T : Tab) : Nat → Nat → Nat
  | 0 => fun _ => 0
  | k + 1 => fun q => fst (fun r => like T (cls T k) r q) q
theorem cls_succ (T : Tab) (k q : Nat) : cls T (k + 1) q = fst (fun r => like T (cls T k) r q) q := rfl

theorem like_iff (T : Tab) (c : Nat → Nat) (r q : Nat) : like T c r q = true ↔ c r = c q ∧ (∀ x, x < T.L → T.ot r x = T.ot q x) ∧ ∀ x, x < T.L → c (T.nx r x) = c (T.nx q x) := by
  unfold like
  rw [Bool.and_eq_true, Bool.and_eq_true, alls_iff, alls_iff, beq_iff_eq]
  simp only [beq_iff_eq, and_assoc]
theorem like_refl (T : Tab) (c : Nat → Nat) (q : Nat) : like T c q q = true := (like_iff T c q q).2 ⟨rfl, fun _ _ => rfl, fun _ _ => rfl⟩
theorem like_symm {T : Tab} {c : Nat → Nat} {r q : Nat} (h : like T c r q = true) : like T c q r = true := by
  rw [like_iff] at h ⊢
  exact ⟨h.1.symm, fun x hx => (h.2.1 x hx).symm, fun x hx => (h.2.2 x hx).symm⟩
theorem like_trans {T : Tab} {c : Nat → Nat} {a b d : Nat} (h : like T c a b = true) (k : like T c b d = true) : like T c a d = true := by
  rw [like_iff] at h k ⊢
  exact ⟨h.1.trans k.1, fun x hx => (h.2.1 x hx).trans (k.2.1 x hx), fun x hx => (h.2.2 x hx).trans (k.2.2 x hx)⟩

theorem cls_le (T : Tab) (k q : Nat) : cls T k q ≤ q := by
  cases k with
  | zero => exact Nat.zero_le _
  | succ k => exact fst_le _ _
theorem cls_like (T : Tab) (k q : Nat) : like T (cls T k) (cls T (k + 1) q) q = true := by
  rw [cls_succ]
  by_cases h : fst (fun r => like T (cls T k) r q) q < q
  · exact fst_some _ _ h
  · have e := fst_le (fun r => like T (cls T k) r q) q
    rw [show fst (fun r => like T (cls T k) r q) q = q by omega]
    exact like_refl _ _ _
theorem cls_iff (T : Tab) (k r q : Nat) : cls T (k + 1) r = cls T (k + 1) q ↔ like T (cls T k) r q = true := by
  constructor
  · intro h
    have h1 := cls_like T k r
    rw [h] at h1
    exact like_trans (like_symm h1) (cls_like T k q)
  · intro h
    have main : ∀ a b, like T (cls T k) a b = true → cls T (k + 1) b ≤ cls T (k + 1) a := by
      intro a b hab
      rcases Nat.lt_or_ge (cls T (k + 1) a) (cls T (k + 1) b) with h1 | h1
      · have h2 := fst_none (fun r => like T (cls T k) r b) b _ (by rw [← cls_succ]; exact h1)
        rw [like_trans (cls_like T k a) hab] at h2
        cases h2
      · exact h1
    exact Nat.le_antisymm (main q r (like_symm h)) (main r q h)
theorem cls_cls (T : Tab) (k q : Nat) : cls T (k + 1) (cls T (k + 1) q) = cls T (k + 1) q := (cls_iff T k _ _).2 (cls_like T k q)
/-- One more round tells no two together that were apart. -/
theorem cls_fine {T : Tab} {k r q : Nat} (h : cls T (k + 1) r = cls T (k + 1) q) : cls T k r = cls T k q := ((like_iff _ _ _ _).1 ((cls_iff T k r q).1 h)).1
theorem cls_keep {T : Tab} {k q : Nat} (h : cls T (k + 1) q = q) : cls T (k + 2) q = q := by
  have h1 : cls T (k + 1) (cls T (k + 2) q) = cls T (k + 1) q := cls_fine (T := T) (k := k + 1) (cls_cls T (k + 1) q)
  rw [h] at h1
  have h2 := cls_le T (k + 1) (cls T (k + 2) q)
  have h3 := cls_le T (k + 2) q
  omega

/-- How many are the least of their classes. -/
def cnt1 (T : Tab) (k : Nat) : Nat → Nat
  | 0 => 0
  | n + 1 => cnt1 T k n + if cls T k n = n then 1 else 0
theorem cnt1_le (T : Tab) (k : Nat) : ∀ n, cnt1 T k n ≤ n
  | 0 => Nat.le_refl _
  | n + 1 => by unfold cnt1; have := cnt1_le T k n; split <;> omega
theorem cnt1_mono (T : Tab) (k : Nat) : ∀ n, cnt1 T (k + 1) n ≤ cnt1 T (k + 2) n
  | 0 => Nat.le_refl _
  | n + 1 => by
    unfold cnt1
    have := cnt1_mono T k n
    by_cases h : cls T (k + 1) n = n
    · rw [if_pos h, if_pos (cls_keep h)]; omega
    · rw [if_neg h]; omega
theorem cnt1_lt (T : Tab) (k : Nat) : ∀ n p, p < n → cls T (k + 2) p = p → cls T (k + 1) p ≠ p → cnt1 T (k + 1) n < cnt1 T (k + 2) n
  | n + 1, p, hp, h1, h2 => by
    unfold cnt1
    by_cases e : p = n
    · subst e
      have := cnt1_mono T k p
      rw [if_neg h2, if_pos h1]; omega
    · have := cnt1_lt T k n p (by omega) h1 h2
      by_cases h : cls T (k + 1) n = n
      · rw [if_pos h, if_pos (cls_keep h)]; omega
      · rw [if_neg h]; omega
theorem cnt1_congr (T : Tab) (k j : Nat) : ∀ n, (∀ q, q < n → cls T k q = cls T j q) → cnt1 T k n = cnt1 T j n
  | 0, _ => rfl
  | n + 1, h => by unfold cnt1; rw [cnt1_congr T k j n (fun q hq => h q (by omega)), h n (by omega)]
theorem cnt1_pos (T : Tab) (k : Nat) : ∀ n, 0 < n → 1 ≤ cnt1 T (k + 1) n
  | 1, _ => by
    have h : cls T (k + 1) 0 = 0 := Nat.le_zero.1 (cls_le T _ 0)
    simp [cnt1, h]
  | n + 2, _ => by have := cnt1_pos T k (n + 1) (by omega); unfold cnt1; omega
/-- The rounds tell no more apart: below n. -/
def Stable (T : Tab) (k : Nat) : Prop := ∀ q, q < T.n → cls T (k + 1) q = cls T k q
theorem stable_or (T : Tab) (k : Nat) (h : ¬ Stable T (k + 1)) : cnt1 T (k + 1) T.n < cnt1 T (k + 2) T.n := by
  have : ∃ q, q < T.n ∧ cls T (k + 2) q ≠ cls T (k + 1) q := by
    apply Classical.byContradiction
    intro hn
    exact h fun q hq => Classical.byContradiction fun e => hn ⟨q, hq, e⟩
  obtain ⟨q, hq, hne⟩ := this
  refine cnt1_lt T k T.n (cls T (k + 2) q) (Nat.lt_of_le_of_lt (cls_le _ _ _) hq) (cls_cls T (k + 1) q) fun e => hne ?_
  have h1 := cls_fine (T := T) (k := k + 1) (cls_cls T (k + 1) q)
  exact e.symm.trans h1
theorem stable_cnt {T : Tab} {k : Nat} (h : Stable T (k + 1)) : cnt1 T (k + 2) T.n = cnt1 T (k + 1) T.n := cnt1_congr T _ _ _ h
theorem stable_next {T : Tab} (hT : T.Ok) {k : Nat} (h : Stable T k) : Stable T (k + 1) := fun q hq => by
  rw [cls_succ, cls_succ]
  have e : ∀ r, r < T.n → like T (cls T (k + 1)) r q = like T (cls T k) r q := fun r hr => by
    rw [Bool.eq_iff_iff, like_iff, like_iff, h r hr, h q hq]
    constructor
    · rintro ⟨h1, h2, h3⟩
      exact ⟨h1, h2, fun x hx => by have := h3 x hx; rw [h _ (hT.nx r x hr hx), h _ (hT.nx q x hq hx)] at this; exact this⟩
    · rintro ⟨h1, h2, h3⟩
      exact ⟨h1, h2, fun x hx => by rw [h _ (hT.nx r x hr hx), h _ (hT.nx q x hq hx)]; exact h3 x hx⟩
  have hle := fst_le (fun r => like T (cls T k) r q) q
  refine fst_eq _ _ _ hle (fun j hj => ?_) (fun hlt => ?_)
  · rw [e j (by omega)]; exact fst_none _ _ j hj
  · rw [e _ (by omega)]; exact fst_some _ _ hlt
theorem stable_all {T : Tab} (hT : T.Ok) {k : Nat} (h : Stable T k) : ∀ d q, q < T.n → cls T (k + d) q = cls T k q
  | 0, _, _ => rfl
  | d + 1, q, hq => by
    have hs : ∀ d, Stable T (k + d) := fun d => by
      induction d with
      | zero => exact h
      | succ d ih => exact stable_next hT ih
    rw [show k + (d + 1) = (k + d) + 1 by omega, hs d q hq]
    exact stable_all hT h d q hq
/-- The classes in the end. -/
def fix (T : Tab) (q : Nat) : Nat := cls T (T.n + 1) q
theorem fix_of {T : Tab} (hT : T.Ok) {k : Nat} (hk : k ≤ T.n) (h : Stable T k) (q : Nat) (hq : q < T.n) : fix T q = cls T k q := by
  have := stable_all hT h (T.n + 1 - k) q hq
  rwa [show k + (T.n + 1 - k) = T.n + 1 by omega] at this
theorem fix_lt {T : Tab} (q : Nat) (hq : q < T.n) : fix T q < T.n := Nat.lt_of_le_of_lt (cls_le _ _ _) hq

/-- A search that begins at the state's own class finds the same. -/
theorem cls_next (T : Tab) (k q r : Nat) (h1 : cls T (k + 1) q ≤ r) (hr : r ≤ q) (hno : ∀ j, cls T (k + 1) q ≤ j → j < r → like T (cls T (k + 1)) j q = false) (hy : r < q → like T (cls T (k + 1)) r q = true) : cls T (k + 2) q = r := by
  rw [cls_succ]
  refine fst_eq _ _ _ hr (fun j hj => ?_) hy
  rcases Nat.lt_or_ge j (cls T (k + 1) q) with h | h
  · cases hl : like T (cls T (k + 1)) j q with
    | false => rfl
    | true =>
      have h2 := ((like_iff _ _ _ _).1 hl).1
      have h3 := cls_le T (k + 1) j
      omega
  · exact hno j h hj
theorem cls_one (T : Tab) (q r : Nat) (hr : r ≤ q) (hno : ∀ j, j < r → (alls T.L fun x => T.ot j x == T.ot q x) = false) (hy : (alls T.L fun x => T.ot r x == T.ot q x) = true) : cls T 1 q = r := by
  have e : ∀ j, like T (cls T 0) j q = alls T.L fun x => T.ot j x == T.ot q x := fun j => by
    rw [Bool.eq_iff_iff, like_iff, alls_iff]
    constructor
    · rintro ⟨_, h, _⟩ x hx; simp [h x hx]
    · intro h; exact ⟨rfl, fun x hx => by simpa using h x hx, fun _ _ => rfl⟩
  rw [cls_succ]
  exact fst_eq _ _ _ hr (fun j hj => by rw [e j]; exact hno j hj) (fun _ => by rw [e r]; exact hy)
/-- Among equal outputs alone the classes and what follows decide. -/
theorem like_same {T : Tab} {k r q : Nat} (h : cls T (k + 1) r = cls T (k + 1) q) : like T (cls T (k + 1)) r q = alls T.L fun x => cls T (k + 1) (T.nx q x) == cls T (k + 1) (T.nx r x) := by
  rw [Bool.eq_iff_iff, like_iff, alls_iff]
  constructor
  · rintro ⟨_, _, h3⟩ x hx; simp [h3 x hx]
  · intro h3
    exact ⟨h, ((like_iff _ _ _ _).1 ((cls_iff T k r q).1 h)).2.1, fun x hx => by have := h3 x hx; simp at this; exact this.symm⟩
end Go.Proofs.Ytbmkkaecfogmoaa

/- Cycles of a permutation: plain law. -/
namespace Go.Proofs.Ytbmkkaecfogmoaa
open Go.RowKit
set_option linter.unusedVariables false
set_option linter.unusedSimpArgs false

/-- How many are not met. -/
def cf (s : List Bool) : Nat := s.count false
/-- From a on, until a met number: what is met then, and how many were new. -/
def cyrun (p : List Nat) : Nat → List Bool → Nat → List Bool × Nat
  | 0, s, _ => (s, 0)
  | f + 1, s, a => if s.getD a true then (s, 0) else ((cyrun p f (s.set a true) (p.getD a 0)).1, (cyrun p f (s.set a true) (p.getD a 0)).2 + 1)
def crun (p : List Nat) (s : List Bool) (a : Nat) : List Bool × Nat := cyrun p (cf s) s a
theorem crun_seen {p : List Nat} {s : List Bool} {a : Nat} (h : s[a]? = some true) : crun p s a = (s, 0) := by
  unfold crun
  cases cf s with
  | zero => rfl
  | succ f => unfold cyrun; rw [List.getD_eq_getElem?_getD, h]; rfl
theorem cf_set : ∀ {s : List Bool} {a : Nat}, s[a]? = some false → cf s = cf (s.set a true) + 1
  | [], a, h => by simp at h
  | b :: s, 0, h => by
    simp at h; subst h
    simp [cf]
  | b :: s, a + 1, h => by
    have ih := cf_set (s := s) (a := a) (by simpa using h)
    simp only [cf, List.set_cons_succ, List.count_cons] at ih ⊢
    omega
theorem crun_new {p : List Nat} {s : List Bool} {a : Nat} (h : s[a]? = some false) : crun p s a = ((crun p (s.set a true) (p.getD a 0)).1, (crun p (s.set a true) (p.getD a 0)).2 + 1) := by
  unfold crun
  rw [cf_set h]
  conv => lhs; unfold cyrun
  rw [List.getD_eq_getElem?_getD, h]
  rfl
/-- What is met, and the cycles' lengths, before k. -/
def cyst (p : List Nat) : Nat → List Bool × List Nat
  | 0 => (List.replicate p.length false, [])
  | k + 1 => ((crun p (cyst p k).1 k).1, if 0 < (crun p (cyst p k).1 k).2 then (cyst p k).2 ++ [(crun p (cyst p k).1 k).2] else (cyst p k).2)
/-- The lengths of the cycles, in the order of their least numbers. -/
def cyc (p : List Nat) : List Nat := (cyst p p.length).2
theorem cyrun_len (p : List Nat) : ∀ f s a, (cyrun p f s a).1.length = s.length
  | 0, _, _ => rfl
  | f + 1, s, a => by
    unfold cyrun
    split
    · rfl
    · show (cyrun p f (s.set a true) _).1.length = _
      rw [cyrun_len p f]; simp
theorem crun_len (p : List Nat) (s : List Bool) (a : Nat) : (crun p s a).1.length = s.length := cyrun_len p _ s a
theorem cyst_len (p : List Nat) : ∀ k, (cyst p k).1.length = p.length
  | 0 => by simp [cyst]
  | k + 1 => by rw [cyst]; dsimp only; rw [crun_len, cyst_len p k]
theorem cyrun_le (p : List Nat) : ∀ f s a, (cyrun p f s a).2 ≤ f
  | 0, _, _ => Nat.le_refl _
  | f + 1, s, a => by
    unfold cyrun
    split
    · exact Nat.zero_le _
    · exact Nat.succ_le_succ (cyrun_le p f _ _)
theorem crun_le (p : List Nat) (s : List Bool) (a : Nat) : (crun p s a).2 ≤ s.length := Nat.le_trans (cyrun_le p _ s a) (by unfold cf; exact List.count_le_length)
theorem cyst_out (p : List Nat) : ∀ k, (cyst p k).2.length ≤ k
  | 0 => Nat.le_refl _
  | k + 1 => by
    have := cyst_out p k
    rw [cyst]; dsimp only
    split
    · simp; omega
    · omega
theorem cyst_pos (p : List Nat) : ∀ k c, c ∈ (cyst p k).2 → 0 < c ∧ c ≤ p.length
  | 0, c, h => by simp [cyst] at h
  | k + 1, c, h => by
    rw [cyst] at h; dsimp only at h
    split at h
    · rename_i hp
      rcases List.mem_append.1 h with h | h
      · exact cyst_pos p k c h
      · rw [List.mem_singleton] at h
        subst h
        exact ⟨hp, by have := crun_le p (cyst p k).1 k; rw [cyst_len] at this; exact this⟩
    · exact cyst_pos p k c h
/-! Cycles of a permutation. -/
def itp (p : List Nat) : Nat → Nat → Nat
  | 0, k => k
  | j + 1, k => p.getD (itp p j k) 0
/-- p leads the numbers below its length to such, each from one. -/
structure IsPm (p : List Nat) : Prop where
  lt : ∀ k, k < p.length → p.getD k 0 < p.length
  inj : ∀ i j, i < p.length → j < p.length → p.getD i 0 = p.getD j 0 → i = j
theorem itp_lt {p : List Nat} (h : IsPm p) {k : Nat} (hk : k < p.length) : ∀ j, itp p j k < p.length
  | 0 => hk
  | j + 1 => h.lt _ (itp_lt h hk j)
theorem itp_add (p : List Nat) (i k : Nat) : ∀ j, itp p (j + i) k = itp p j (itp p i k)
  | 0 => by rw [Nat.zero_add]; rfl
  | j + 1 => by rw [show j + 1 + i = (j + i) + 1 by omega]; show p.getD _ 0 = p.getD _ 0; rw [itp_add p i k j]
theorem itp_inj {p : List Nat} (h : IsPm p) {a b : Nat} (ha : a < p.length) (hb : b < p.length) : ∀ j, itp p j a = itp p j b → a = b
  | 0, e => e
  | j + 1, e => itp_inj h ha hb j (h.inj _ _ (itp_lt h ha j) (itp_lt h hb j) e)
theorem itp_mul {p : List Nat} {c k : Nat} (h : itp p c k = k) : ∀ j, itp p (j * c) k = k
  | 0 => by rw [Nat.zero_mul]; rfl
  | j + 1 => by rw [Nat.succ_mul, itp_add, h]; exact itp_mul h j
/-- c is the length of the cycle of k. -/
structure IsCy (p : List Nat) (k c : Nat) : Prop where
  pos : 0 < c
  back : itp p c k = k
  min : ∀ j, 0 < j → j < c → itp p j k ≠ k
theorem IsCy.dvd {p : List Nat} {k c K : Nat} (h : IsCy p k c) (hK : itp p K k = k) : c ∣ K := by
  have e : itp p (K % c) k = k := by
    have h1 : K = K % c + (K / c) * c := by have := Nat.div_add_mod K c; rw [Nat.mul_comm] at this; omega
    have h2 : itp p (K % c + (K / c) * c) k = k := by rw [← h1]; exact hK
    rw [itp_add, itp_mul h.back] at h2
    exact h2
  rcases Nat.eq_zero_or_pos (K % c) with h0 | h0
  · exact Nat.dvd_of_mod_eq_zero h0
  · exact absurd e (h.min _ h0 (Nat.mod_lt _ h.pos))
theorem cy_ex {p : List Nat} (h : IsPm p) {k : Nat} (hk : k < p.length) : ∃ c, IsCy p k c := by
  have hex : ∃ c, 0 < c ∧ itp p c k = k := by
    apply Classical.byContradiction
    intro hn
    have := inj_le (p.length + 1) p.length (fun i => itp p i k) (fun i _ => itp_lt h hk i) (fun i j hij _ e => by
      refine hn ⟨j - i, by omega, ?_⟩
      have h1 : itp p (i + (j - i)) k = itp p i (itp p (j - i) k) := itp_add p (j - i) k i
      rw [show i + (j - i) = j by omega] at h1
      exact itp_inj h (itp_lt h hk _) hk i (by rw [← h1]; exact e.symm))
    omega
  obtain ⟨c, hc⟩ := hex
  induction c using Nat.strongRecOn with
  | ind c ih =>
    by_cases hm : ∃ j, j < c ∧ 0 < j ∧ itp p j k = k
    · obtain ⟨j, h1, h2⟩ := hm
      exact ih j h1 h2
    · exact ⟨c, hc.1, hc.2, fun j h1 h2 h3 => hm ⟨j, h2, h1, h3⟩⟩
/-- Whole cycles are met. -/
def Clo (p : List Nat) (s : List Bool) : Prop := ∀ x, x < p.length → (s[x]? = some true ↔ s[p.getD x 0]? = some true)
def mkd (p : List Nat) (s : List Bool) (k : Nat) : Nat → List Bool
  | 0 => s
  | j + 1 => (mkd p s k j).set (itp p j k) true
theorem mkd_len (p : List Nat) (s : List Bool) (k : Nat) : ∀ j, (mkd p s k j).length = s.length
  | 0 => rfl
  | j + 1 => by rw [mkd, List.length_set, mkd_len p s k j]
theorem mkd_get {p : List Nat} {s : List Bool} {k x : Nat} (hx : x < s.length) : ∀ j, ((mkd p s k j)[x]? = some true ↔ s[x]? = some true ∨ ∃ i, i < j ∧ itp p i k = x)
  | 0 => ⟨fun h => .inl h, fun h => h.elim id fun ⟨i, hi, _⟩ => absurd hi (Nat.not_lt_zero _)⟩
  | j + 1 => by
    rw [mkd, List.getElem?_set, mkd_len]
    by_cases e : itp p j k = x
    · rw [if_pos e, if_pos (by omega)]
      exact ⟨fun _ => .inr ⟨j, by omega, e⟩, fun _ => rfl⟩
    · rw [if_neg e, mkd_get hx j]
      constructor
      · rintro (h | ⟨i, hi, h⟩)
        · exact .inl h
        · exact .inr ⟨i, by omega, h⟩
      · rintro (h | ⟨i, hi, h⟩)
        · exact .inl h
        · by_cases e2 : i = j
          · subst e2; exact absurd h e
          · exact .inr ⟨i, by omega, h⟩
theorem Clo.it {p : List Nat} {s : List Bool} (hc : Clo p s) (h : IsPm p) {k : Nat} (hk : k < p.length) : ∀ j, (s[k]? = some true ↔ s[itp p j k]? = some true)
  | 0 => Iff.rfl
  | j + 1 => (hc.it h hk j).trans (hc _ (itp_lt h hk j))
theorem get_bool {s : List Bool} {x : Nat} (hx : x < s.length) (h : ¬ s[x]? = some true) : s[x]? = some false := by
  rw [List.getElem?_eq_getElem hx] at h ⊢
  cases hb : s[x] with
  | true => rw [hb] at h; exact absurd rfl h
  | false => rfl
theorem crun_cy {p : List Nat} {s : List Bool} (h : IsPm p) (hl : s.length = p.length) (hc : Clo p s) {k c : Nat} (hk : k < p.length) (hs : ¬ s[k]? = some true) (hy : IsCy p k c) :
    ∀ f j, j + f = c → crun p (mkd p s k j) (itp p j k) = (mkd p s k c, f)
  | 0, j, e => by
    obtain rfl : j = c := by omega
    rw [hy.back]
    exact crun_seen ((mkd_get (by omega) j).2 (.inr ⟨0, hy.pos, rfl⟩))
  | f + 1, j, e => by
    have hlt := itp_lt h hk j
    have hn : (mkd p s k j)[itp p j k]? = some false := get_bool (by rw [mkd_len]; omega) fun ht => by
      rcases (mkd_get (by omega) j).1 ht with h1 | ⟨i, hi, h1⟩
      · exact hs ((hc.it h hk j).2 h1)
      · refine hy.min (j - i) (by omega) (by omega) (itp_inj h (itp_lt h hk _) hk i ?_)
        rw [← itp_add, show i + (j - i) = j by omega]
        exact h1.symm
    rw [crun_new hn]
    have ih := crun_cy h hl hc hk hs hy f (j + 1) (by omega)
    have e2 : (mkd p s k j).set (itp p j k) true = mkd p s k (j + 1) := rfl
    have e3 : p.getD (itp p j k) 0 = itp p (j + 1) k := rfl
    rw [e2, e3, ih]
theorem mkd_clo {p : List Nat} {s : List Bool} (h : IsPm p) (hl : s.length = p.length) (hc : Clo p s) {k c : Nat} (hk : k < p.length) (hy : IsCy p k c) : Clo p (mkd p s k c) := fun x hx => by
  have hp := h.lt x hx
  rw [mkd_get (by omega), mkd_get (by omega)]
  constructor
  · rintro (h1 | ⟨i, hi, rfl⟩)
    · exact .inl ((hc x hx).1 h1)
    · by_cases e : i + 1 = c
      · exact .inr ⟨0, hy.pos, by show k = itp p (i + 1) k; rw [e, hy.back]⟩
      · exact .inr ⟨i + 1, by omega, rfl⟩
  · rintro (h1 | ⟨i, hi, h1⟩)
    · exact .inl ((hc x hx).2 h1)
    · cases i with
      | zero =>
        obtain ⟨d, rfl⟩ : ∃ d, c = d + 1 := ⟨c - 1, by have := hy.pos; omega⟩
        have h2 : p.getD (itp p d k) 0 = p.getD x 0 := hy.back.trans h1
        exact .inr ⟨d, by omega, h.inj _ _ (itp_lt h hk d) hx h2⟩
      | succ i => exact .inr ⟨i, by omega, h.inj _ _ (itp_lt h hk i) hx h1⟩
theorem IsCy.of_it {p : List Nat} (h : IsPm p) {k c : Nat} (hk : k < p.length) (hy : IsCy p k c) (i : Nat) : IsCy p (itp p i k) c where
  pos := hy.pos
  back := by rw [← itp_add, Nat.add_comm, itp_add, hy.back]
  min := fun j h1 h2 h3 => hy.min j h1 h2 (itp_inj h (itp_lt h hk _) hk i (by rw [← itp_add, Nat.add_comm, itp_add]; exact h3))
/-- What is known of the numbers before k. -/
theorem cyst_ok {p : List Nat} (h : IsPm p) : ∀ k, k ≤ p.length → Clo p (cyst p k).1 ∧ (∀ c ∈ (cyst p k).2, ∃ x, x < p.length ∧ IsCy p x c) ∧ (∀ x, x < p.length → (cyst p k).1[x]? = some true → ∃ c ∈ (cyst p k).2, IsCy p x c) ∧ (∀ x, x < k → (cyst p k).1[x]? = some true)
  | 0, _ => by
    refine ⟨fun x hx => ?_, fun c hc => by simp [cyst] at hc, fun x hx ht => ?_, fun x hx => absurd hx (Nat.not_lt_zero _)⟩
    · have hp := h.lt x hx
      simp only [cyst, List.getElem?_replicate, hx, hp, if_true]
    · simp [cyst, hx] at ht
  | k + 1, hk => by
    obtain ⟨h1, h2, h3, h4⟩ := cyst_ok h k (by omega)
    have hl := cyst_len p k
    by_cases hs : (cyst p k).1[k]? = some true
    · have e : cyst p (k + 1) = cyst p k := by rw [cyst, crun_seen hs]; rfl
      rw [e]
      exact ⟨h1, h2, h3, fun x hx => by by_cases e : x = k; · subst e; exact hs
                                        · exact h4 x (by omega)⟩
    · obtain ⟨c, hy⟩ := cy_ex h (show k < p.length by omega)
      have hr := crun_cy h hl h1 (by omega) hs hy c 0 (by omega)
      have hr2 : crun p (cyst p k).1 k = (mkd p (cyst p k).1 k c, c) := hr
      have e : cyst p (k + 1) = (mkd p (cyst p k).1 k c, (cyst p k).2 ++ [c]) := by rw [cyst, hr2]; dsimp only; rw [if_pos hy.pos]
      rw [e]
      refine ⟨mkd_clo h hl h1 (by omega) hy, fun c' hc' => ?_, fun x hx ht => ?_, fun x hx => ?_⟩
      · rcases List.mem_append.1 hc' with hc' | hc'
        · exact h2 c' hc'
        · rw [List.mem_singleton] at hc'; subst hc'; exact ⟨k, by omega, hy⟩
      · rcases (mkd_get (by omega) c).1 ht with ht | ⟨i, hi, rfl⟩
        · obtain ⟨c', hc', hy'⟩ := h3 x hx ht
          exact ⟨c', List.mem_append.2 (.inl hc'), hy'⟩
        · exact ⟨c, by simp, hy.of_it h (by omega) i⟩
      · refine (mkd_get (by omega) c).2 ?_
        by_cases e : x = k
        · subst e; exact .inr ⟨0, hy.pos, rfl⟩
        · exact .inl (h4 x (by omega))
theorem cyc_cy {p : List Nat} (h : IsPm p) {c : Nat} (hc : c ∈ cyc p) : ∃ x, x < p.length ∧ IsCy p x c := (cyst_ok h p.length (Nat.le_refl _)).2.1 c hc
theorem cyc_all {p : List Nat} (h : IsPm p) {x : Nat} (hx : x < p.length) : ∃ c ∈ cyc p, IsCy p x c :=
  have hk := cyst_ok h p.length (Nat.le_refl _)
  hk.2.2.1 x hx (hk.2.2.2 x hx)
theorem cyc_dvd {p : List Nat} (h : IsPm p) {K : Nat} (hK : ∀ x, x < p.length → itp p K x = x) {c : Nat} (hc : c ∈ cyc p) : c ∣ K := by
  obtain ⟨x, hx, hy⟩ := cyc_cy h hc
  exact hy.dvd (hK x hx)
/-- The order so far. -/
def ordL (l : List Nat) : Nat := l.foldl Nat.lcm 1
theorem foldl_lcm_dvd {K : Nat} : ∀ (l : List Nat) (a : Nat), a ∣ K → (∀ c ∈ l, c ∣ K) → l.foldl Nat.lcm a ∣ K
  | [], _, h, _ => h
  | c :: l, a, h, hl => foldl_lcm_dvd l _ (Nat.lcm_dvd h (hl c (by simp))) fun d hd => hl d (by simp [hd])
theorem foldl_lcm_start : ∀ (l : List Nat) (a : Nat), a ∣ l.foldl Nat.lcm a
  | [], _ => Nat.dvd_refl _
  | c :: l, a => Nat.dvd_trans (Nat.dvd_lcm_left a c) (foldl_lcm_start l _)
theorem foldl_lcm_mem : ∀ (l : List Nat) (a : Nat) (c : Nat), c ∈ l → c ∣ l.foldl Nat.lcm a
  | d :: l, a, c, h => by
    rcases List.mem_cons.1 h with rfl | h
    · exact Nat.dvd_trans (Nat.dvd_lcm_right a c) (foldl_lcm_start l _)
    · exact foldl_lcm_mem l _ c h
theorem ordL_dvd {K : Nat} {l : List Nat} (h : ∀ c ∈ l, c ∣ K) : ordL l ∣ K := foldl_lcm_dvd l 1 (Nat.one_dvd _) h
theorem ordL_mem {l : List Nat} {c : Nat} (h : c ∈ l) : c ∣ ordL l := foldl_lcm_mem l 1 c h
theorem ordL_congr {l l' : List Nat} (h : ∀ c, c ∈ l ↔ c ∈ l') : ordL l = ordL l' :=
  Nat.dvd_antisymm (ordL_dvd fun c hc => ordL_mem ((h c).1 hc)) (ordL_dvd fun c hc => ordL_mem ((h c).2 hc))
end Go.Proofs.Ytbmkkaecfogmoaa
