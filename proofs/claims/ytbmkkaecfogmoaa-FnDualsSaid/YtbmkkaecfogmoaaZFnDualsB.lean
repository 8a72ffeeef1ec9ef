/- What the proof of FnDuals leans on, part 2 of 26. -/
import Derived.Test.YtbmkkaecfogmoaaZFnDualsA
import Derived.Laws.BitsAllLaws
import Derived.Laws.BitsLemmas
/- Plain: a map of n numbers into themselves meets all of them just if it meets none twice; bits of numbers. -/
namespace Go.Proofs.Ytbmkkaecfogmoaa
open Go.RowKit
set_option linter.unusedVariables false
set_option linter.unusedSimpArgs false

def InjOn (f : Nat → Nat) (n : Nat) : Prop := ∀ i j, i < j → j < n → f i ≠ f j
def SurjOn (f : Nat → Nat) (n : Nat) : Prop := ∀ k, k < n → ∃ i, i < n ∧ f i = k

theorem inj_le : ∀ (n m : Nat) (f : Nat → Nat), (∀ i, i < n → f i < m) → InjOn f n → n ≤ m
  | 0, m, f, _, _ => Nat.zero_le _
  | n + 1, m, f, hf, hi => by
    have hm : 0 < m := by have := hf 0 (by omega); omega
    obtain ⟨m, rfl⟩ : ∃ k, m = k + 1 := ⟨m - 1, by omega⟩
    have := inj_le n m (fun i => if f i = m then f n else f i) (fun i h => by
        have h1 := hf i (by omega)
        have h2 := hf n (by omega)
        have h3 := hi i n h (by omega)
        split <;> omega)
      (fun i j hij hj => by
        have h3 := hi i n (by omega) (by omega)
        have h4 := hi j n (by omega) (by omega)
        have h5 := hi i j hij (by omega)
        dsimp only
        split <;> split <;> omega)
    omega

theorem surj_of_inj {f : Nat → Nat} {n : Nat} (hf : ∀ i, i < n → f i < n) (hi : InjOn f n) : SurjOn f n := fun k hk => by
  apply Classical.byContradiction
  intro hno
  have hne : ∀ i, i < n → f i ≠ k := fun i h e => hno ⟨i, h, e⟩
  have := inj_le n (n - 1) (fun i => if f i < k then f i else f i - 1) (fun i h => by
      have h1 := hf i h
      have h2 := hne i h
      split <;> omega)
    (fun i j hij hj => by
      have h1 := hne i (by omega)
      have h2 := hne j hj
      have h5 := hi i j hij hj
      dsimp only
      split <;> split <;> omega)
  omega

theorem inj_of_surj {f : Nat → Nat} {n : Nat} (hs : SurjOn f n) : InjOn f n := by
  have hg : ∃ g : Nat → Nat, ∀ k, k < n → g k < n ∧ f (g k) = k := by
    refine ⟨fun k => if h : k < n then Classical.choose (hs k h) else 0, fun k h => ?_⟩
    dsimp only
    rw [dif_pos h]
    exact Classical.choose_spec (hs k h)
  obtain ⟨g, hg⟩ := hg
  have gi : InjOn g n := fun i j hij hj e => by
    have h1 := (hg i (by omega)).2
    have h2 := (hg j hj).2
    rw [e, h2] at h1
    omega
  have gs := surj_of_inj (fun i h => (hg i h).1) gi
  intro i j hij hj e
  obtain ⟨a, ha, ea⟩ := gs i (by omega)
  obtain ⟨b, hb, eb⟩ := gs j hj
  have h1 := (hg a ha).2
  have h2 := (hg b hb).2
  rw [ea] at h1
  rw [eb] at h2
  have hab : a = b := by omega
  subst hab
  omega

theorem or_nat (a b : Nat) (ha : a < 9223372036854775808) (hb : b < 9223372036854775808) : bits BinOp.or IntKind.i64 (a : Int) (b : Int) = ((a ||| b : Nat) : Int) := by
  have hx : a ||| b < 2 ^ 63 := Nat.or_lt_two_pow (by omega) (by omega)
  have hy : 2 ^ 63 = 9223372036854775808 := by decide
  have ea : (BitVec.ofInt 64 (a : Int)).toNat = a := by rw [BitVec.ofInt_natCast, BitVec.toNat_ofNat]; exact Nat.mod_eq_of_lt (by omega)
  have eb : (BitVec.ofInt 64 (b : Int)).toNat = b := by rw [BitVec.ofInt_natCast, BitVec.toNat_ofNat]; exact Nat.mod_eq_of_lt (by omega)
  show IntKind.i64.wrap ((BitVec.ofInt 64 (a : Int) ||| BitVec.ofInt 64 (b : Int)).toNat : Int) = _
  rw [BitVec.toNat_or, ea, eb, IntKind.wrap_i64]
  omega

/-- The bits of the numbers met so far. -/
def orAll (f : Nat → Nat) : Nat → Nat
  | 0 => 0
  | q + 1 => orAll f q ||| (1 <<< f q)

theorem testBit_one_shift (o k : Nat) : (1 <<< o).testBit k = decide (k = o) := by
  rw [Nat.shiftLeft_eq, Nat.one_mul, Nat.testBit_two_pow]
  simp only [decide_eq_decide]
  omega

theorem orAll_bits (f : Nat → Nat) : ∀ q k, (orAll f q).testBit k = true ↔ ∃ p, p < q ∧ f p = k
  | 0, k => by simp [orAll]
  | q + 1, k => by
    unfold orAll
    rw [Nat.testBit_or, Bool.or_eq_true, orAll_bits f q k, testBit_one_shift, decide_eq_true_eq]
    constructor
    · rintro (⟨p, hp, e⟩ | e)
      · exact ⟨p, by omega, e⟩
      · exact ⟨q, by omega, e.symm⟩
    · rintro ⟨p, hp, e⟩
      by_cases h : p = q
      · subst h; exact .inr e.symm
      · exact .inl ⟨p, by omega, e⟩

theorem orAll_lt (f : Nat → Nat) (n : Nat) : ∀ q, (∀ p, p < q → f p < n) → orAll f q < 2 ^ n
  | 0, _ => by simp [orAll, Nat.two_pow_pos]
  | q + 1, h => by
    unfold orAll
    refine Nat.or_lt_two_pow (orAll_lt f n q fun p hp => h p (by omega)) ?_
    rw [Nat.shiftLeft_eq, Nat.one_mul]
    exact Nat.pow_lt_pow_right (by omega) (h q (by omega))

theorem orAll_full (f : Nat → Nat) (n : Nat) (hf : ∀ p, p < n → f p < n) : orAll f n = 2 ^ n - 1 ↔ InjOn f n := by
  constructor
  · intro h
    refine inj_of_surj fun k hk => ?_
    have : (orAll f n).testBit k = true := by rw [h, Nat.testBit_two_pow_sub_one]; exact decide_eq_true hk
    exact (orAll_bits f n k).1 this
  · intro h
    have hs := surj_of_inj hf h
    apply Nat.eq_of_testBit_eq
    intro k
    rw [Nat.testBit_two_pow_sub_one, Bool.eq_iff_iff, orAll_bits, decide_eq_true_eq]
    exact ⟨fun ⟨p, hp, e⟩ => e ▸ hf p hp, fun hk => hs k hk⟩
end Go.Proofs.Ytbmkkaecfogmoaa

/- Classes of equal states: how both the program and the reference find them. -/
namespace Go.Proofs.Ytbmkkaecfogmoaa
set_option linter.unusedVariables false
set_option linter.unusedSimpArgs false

/-- The first number from r on, at most d steps away, of which p is told; else where the steps end. -/
def fnd (p : Nat → Bool) : Nat → Nat → Nat
  | r, 0 => r
  | r, d + 1 => if p r then r else fnd p (r + 1) d
/-- The first number below n of which p is told; else n. -/
def fst (p : Nat → Bool) (n : Nat) : Nat := fnd p 0 n
theorem fnd_spec (p : Nat → Bool) : ∀ d r, r ≤ fnd p r d ∧ fnd p r d ≤ r + d ∧ (∀ j, r ≤ j → j < fnd p r d → p j = false) ∧ (fnd p r d < r + d → p (fnd p r d) = true)
  | 0, r => ⟨Nat.le_refl _, Nat.le_refl _, fun j h1 h2 => absurd h2 (by unfold fnd; omega), fun h => absurd h (by unfold fnd; omega)⟩
  | d + 1, r => by
    unfold fnd
    by_cases h : p r = true
    · rw [if_pos h]
      exact ⟨Nat.le_refl _, by omega, fun j h1 h2 => by omega, fun _ => h⟩
    · rw [if_neg h]
      obtain ⟨h1, h2, h3, h4⟩ := fnd_spec p d (r + 1)
      refine ⟨by omega, by omega, fun j h5 h6 => ?_, fun h5 => h4 (by omega)⟩
      by_cases e : j = r
      · subst e; simpa using h
      · exact h3 j (by omega) h6
theorem fst_le (p : Nat → Bool) (n : Nat) : fst p n ≤ n := by have := (fnd_spec p n 0).2.1; unfold fst; omega
theorem fst_none (p : Nat → Bool) (n j : Nat) (h : j < fst p n) : p j = false := (fnd_spec p n 0).2.2.1 j (Nat.zero_le _) h
theorem fst_some (p : Nat → Bool) (n : Nat) (h : fst p n < n) : p (fst p n) = true := (fnd_spec p n 0).2.2.2 (by unfold fst at h; omega)
theorem fst_eq (p : Nat → Bool) (n r : Nat) (hr : r ≤ n) (hno : ∀ j, j < r → p j = false) (hy : r < n → p r = true) : fst p n = r := by
  have h1 := fst_le p n
  rcases Nat.lt_trichotomy (fst p n) r with h | h | h
  · have h2 := fst_some p n (by omega)
    rw [hno _ h] at h2; cases h2
  · exact h
  · have h2 := fst_none p n r h
    rw [hy (by omega)] at h2; cases h2

/-- A machine with any number of states. -/
structure Tab where
  n : Nat
  L : Nat
  nx : Nat → Nat → Nat
  ot : Nat → Nat → Nat
structure Tab.Ok (T : Tab) : Prop where
  pos : 0 < T.n
  nx : ∀ q x, q < T.n → x < T.L → T.nx q x < T.n

def alls (L : Nat) (p : Nat → Bool) : Bool := (List.range L).all p
theorem alls_iff (L : Nat) (p : Nat → Bool) : alls L p = true ↔ ∀ x, x < L → p x = true := by
  unfold alls; rw [List.all_eq_true]; simp
/-- Not told apart yet, by a division into classes. -/
def like (T : Tab) (c : Nat → Nat) (r q : Nat) : Bool := (c r == c q) && (alls T.L fun x => T.ot r x == T.ot q x) && alls T.L fun x => c (T.nx r x) == c (T.nx q x)
def cls (T : Tab) : Nat → Nat → Nat
  | 0 => fun _ => 0
  | k + 1 => fun q => fst (fun r => like T (cls T k) r q) q
theorem cls_succ (T : Tab) (k q : Nat) : cls T (k + 1) q = fst (fun r => like T (cls T k) r q) q := rfl

theorem like_iff (T : Tab) (c : Nat → Nat) (r q : Nat) : like T c r q = true ↔ c r = c q ∧ (∀ x, x < T.L → T.ot r x = T.ot q x) ∧ ∀ x, x < T.L → c (T.nx r x) = c (T.nx q x) := by
  unfold like
  rw [Bool.and_eq_true, Bool.and_eq_true, alls_iff, alls_iff, beq_iff_eq]
  simp only [beq_iff_eq, and_assoc]
theorem like_refl (T : Tab) (c : Nat → Nat) (q : Nat) : like T c q q = true := (like_iff T c q q).2 ⟨rfl, fun _ _ => rfl, fun _ _ => rfl⟩
theorem like_symm {T : Tab} {c : Nat → Nat} {r q : Nat} (h : like T c r q = true) : like T c q r = true := by
  rw [like_iff] at h ⊢
  exact ⟨h.1.symm, fun x hx => (h.2.1 x hx).symm, fun x hx => (h.2.2 x hx).symm⟩
theorem like_trans {T : Tab} {c : Nat → Nat} {a b d : Nat} (h : like T c a b = true) (k : like T c b d = true) : like T c a d = true := by
  rw [like_iff] at h k ⊢
  exact ⟨h.1.trans k.1, fun x hx => (h.2.1 x hx).trans (k.2.1 x hx), fun x hx => (h.2.2 x hx).trans (k.2.2 x hx)⟩

theorem cls_le (T : Tab) (k q : Nat) : cls T k q ≤ q := by
  cases k with
  | zero => exact Nat.zero_le _
  | succ k => exact fst_le _ _
theorem cls_like (T : Tab) (k q : Nat) : like T (cls T k) (cls T (k + 1) q) q = true := by
  rw [cls_succ]
  by_cases h : fst (fun r => like T (cls T k) r q) q < q
  · exact fst_some _ _ h
  · have e := fst_le (fun r => like T (cls T k) r q) q
    rw [show fst (fun r => like T (cls T k) r q) q = q by omega]
    exact like_refl _ _ _
theorem cls_iff (T : Tab) (k r q : Nat) : cls T (k + 1) r = cls T (k + 1) q ↔ like T (cls T k) r q = true := by
  constructor
  · intro h
    have h1 := cls_like T k r
    rw [h] at h1
    exact like_trans (like_symm h1) (cls_like T k q)
  · intro h
    have main : ∀ a b, like T (cls T k) a b = true → cls T (k + 1) b ≤ cls T (k + 1) a := by
      intro a b hab
      rcases Nat.lt_or_ge (cls T (k + 1) a) (cls T (k + 1) b) with h1 | h1
      · have h2 := fst_none (fun r => like T (cls T k) r b) b _ (by rw [← cls_succ]; exact h1)
        rw [like_trans (cls_like T k a) hab] at h2
        cases h2
      · exact h1
    exact Nat.le_antisymm (main q r (like_symm h)) (main r q h)
theorem cls_cls (T : Tab) (k q : Nat) : cls T (k + 1) (cls T (k + 1) q) = cls T (k + 1) q := (cls_iff T k _ _).2 (cls_like T k q)
/-- One more round tells no two together that were apart. -/
theorem cls_fine {T : Tab} {k r q : Nat} (h : cls T (k + 1) r = cls T (k + 1) q) : cls T k r = cls T k q := ((like_iff _ _ _ _).1 ((cls_iff T k r q).1 h)).1
theorem cls_keep {T : Tab} {k q : Nat} (h : cls T (k + 1) q = q) : cls T (k + 2) q = q := by
  have h1 : cls T (k + 1) (cls T (k + 2) q) = cls T (k + 1) q := cls_fine (T := T) (k := k + 1) (cls_cls T (k + 1) q)
  rw [h] at h1
  have h2 := cls_le T (k + 1) (cls T (k + 2) q)
  have h3 := cls_le T (k + 2) q
  omega

/-- How many are the least of their classes. -/
def cnt1 (T : Tab) (k : Nat) : Nat → Nat
  | 0 => 0
  | n + 1 => cnt1 T k n + if cls T k n = n then 1 else 0
theorem cnt1_le (T : Tab) (k : Nat) : ∀ n, cnt1 T k n ≤ n
  | 0 => Nat.le_refl _
  | n + 1 => by unfold cnt1; have := cnt1_le T k n; split <;> omega
theorem cnt1_mono (T : Tab) (k : Nat) : ∀ n, cnt1 T (k + 1) n ≤ cnt1 T (k + 2) n
  | 0 => Nat.le_refl _
  | n + 1 => by
    unfold cnt1
    have := cnt1_mono T k n
    by_cases h : cls T (k + 1) n = n
    · rw [if_pos h, if_pos (cls_keep h)]; omega
    · rw [if_neg h]; omega
theorem cnt1_lt (T : Tab) (k : Nat) : ∀ n p, p < n → cls T (k + 2) p = p → cls T (k + 1) p ≠ p → cnt1 T (k + 1) n < cnt1 T (k + 2) n
  | n + 1, p, hp, h1, h2 => by
    unfold cnt1
    by_cases e : p = n
    · subst e
      have := cnt1_mono T k p
      rw [if_neg h2, if_pos h1]; omega
    · have := cnt1_lt T k n p (by omega) h1 h2
      by_cases h : cls T (k + 1) n = n
      · rw [if_pos h, if_pos (cls_keep h)]; omega
      · rw [if_neg h]; omega
theorem cnt1_congr (T : Tab) (k j : Nat) : ∀ n, (∀ q, q < n → cls T k q = cls T j q) → cnt1 T k n = cnt1 T j n
  | 0, _ => rfl
  | n + 1, h => by unfold cnt1; rw [cnt1_congr T k j n (fun q hq => h q (by omega)), h n (by omega)]
theorem cnt1_pos (T : Tab) (k : Nat) : ∀ n, 0 < n → 1 ≤ cnt1 T (k + 1) n
  | 1, _ => by
    have h : cls T (k + 1) 0 = 0 := Nat.le_zero.1 (cls_le T _ 0)
    simp [cnt1, h]
  | n + 2, _ => by have := cnt1_pos T k (n + 1) (by omega); unfold cnt1; omega
/-- The rounds tell no more apart: below n. -/
def Stable (T : Tab) (k : Nat) : Prop := ∀ q, q < T.n → cls T (k + 1) q = cls T k q
theorem stable_or (T : Tab) (k : Nat) (h : ¬ Stable T (k + 1)) : cnt1 T (k + 1) T.n < cnt1 T (k + 2) T.n := by
  have : ∃ q, q < T.n ∧ cls T (k + 2) q ≠ cls T (k + 1) q := by
    apply Classical.byContradiction
    intro hn
    exact h fun q hq => Classical.byContradiction fun e => hn ⟨q, hq, e⟩
  obtain ⟨q, hq, hne⟩ := this
  refine cnt1_lt T k T.n (cls T (k + 2) q) (Nat.lt_of_le_of_lt (cls_le _ _ _) hq) (cls_cls T (k + 1) q) fun e => hne ?_
  have h1 := cls_fine (T := T) (k := k + 1) (cls_cls T (k + 1) q)
  exact e.symm.trans h1
theorem stable_cnt {T : Tab} {k : Nat} (h : Stable T (k + 1)) : cnt1 T (k + 2) T.n = cnt1 T (k + 1) T.n := cnt1_congr T _ _ _ h
theorem stable_next {T : Tab} (hT : T.Ok) {k : Nat} (h : Stable T k) : Stable T (k + 1) := fun q hq => by
  rw [cls_succ, cls_succ]
  have e : ∀ r, r < T.n → like T (cls T (k + 1)) r q = like T (cls T k) r q := fun r hr => by
    rw [Bool.eq_iff_iff, like_iff, like_iff, h r hr, h q hq]
    constructor
    · rintro ⟨h1, h2, h3⟩
      exact ⟨h1, h2, fun x hx => by have := h3 x hx; rw [h _ (hT.nx r x hr hx), h _ (hT.nx q x hq hx)] at this; exact this⟩
    · rintro ⟨h1, h2, h3⟩
      exact ⟨h1, h2, fun x hx => by rw [h _ (hT.nx r x hr hx), h _ (hT.nx q x hq hx)]; exact h3 x hx⟩
  have hle := fst_le (fun r => like T (cls T k) r q) q
  refine fst_eq _ _ _ hle (fun j hj => ?_) (fun hlt => ?_)
  · rw [e j (by omega)]; exact fst_none _ _ j hj
  · rw [e _ (by omega)]; exact fst_some _ _ hlt
theorem stable_all {T : Tab} (hT : T.Ok) {k : Nat} (h : Stable T k) : ∀ d q, q < T.n → cls T (k + d) q = cls T k q
  | 0, _, _ => rfl
  | d + 1, q, hq => by
    have hs : ∀ d, Stable T (k + d) := fun d => by
      induction d with
      | zero => exact h
      | succ d ih => exact stable_next hT ih
    rw [show k + (d + 1) = (k + d) + 1 by omega, hs d q hq]
    exact stable_all hT h d q hq
/-- The classes in the end. -/
def fix (T : Tab) (q : Nat) : Nat := cls T (T.n + 1) q
theorem fix_of {T : Tab} (hT : T.Ok) {k : Nat} (hk : k ≤ T.n) (h : Stable T k) (q : Nat) (hq : q < T.n) : fix T q = cls T k q := by
  have := stable_all hT h (T.n + 1 - k) q hq
  rwa [show k + (T.n + 1 - k) = T.n + 1 by omega] at this
theorem fix_lt {T : Tab} (q : Nat) (hq : q < T.n) : fix T q < T.n := Nat.lt_of_le_of_lt (cls_le _ _ _) hq

/-- A search that begins at the state's own class finds the same. -/
theorem cls_next (T : Tab) (k q r : Nat) (h1 : cls T (k + 1) q ≤ r) (hr : r ≤ q) (hno : ∀ j, cls T (k + 1) q ≤ j → j < r → like T (cls T (k + 1)) j q = false) (hy : r < q → like T (cls T (k + 1)) r q = true) : cls T (k + 2) q = r := by
  rw [cls_succ]
  refine fst_eq _ _ _ hr (fun j hj => ?_) hy
  rcases Nat.lt_or_ge j (cls T (k + 1) q) with h | h
  · cases hl : like T (cls T (k + 1)) j q with
    | false => rfl
    | true =>
      have h2 := ((like_iff _ _ _ _).1 hl).1
      have h3 := cls_le T (k + 1) j
      omega
  · exact hno j h hj
theorem cls_one (T : Tab) (q r : Nat) (hr : r ≤ q) (hno : ∀ j, j < r → (alls T.L fun x => T.ot j x == T.ot q x) = false) (hy : (alls T.L fun x => T.ot r x == T.ot q x) = true) : cls T 1 q = r := by
  have e : ∀ j, like T (cls T 0) j q = alls T.L fun x => T.ot j x == T.ot q x := fun j => by
    rw [Bool.eq_iff_iff, like_iff, alls_iff]
    constructor
    · rintro ⟨_, h, _⟩ x hx; simp [h x hx]
    · intro h; exact ⟨rfl, fun x hx => by simpa using h x hx, fun _ _ => rfl⟩
  rw [cls_succ]
  exact fst_eq _ _ _ hr (fun j hj => by rw [e j]; exact hno j hj) (fun _ => by rw [e r]; exact hy)
/-- Among equal outputs alone the classes and what follows decide. -/
theorem like_same {T : Tab} {k r q : Nat} (h : cls T (k + 1) r = cls T (k + 1) q) : like T (cls T (k + 1)) r q = alls T.L fun x => cls T (k + 1) (T.nx q x) == cls T (k + 1) (T.nx r x) := by
  rw [Bool.eq_iff_iff, like_iff, alls_iff]
  constructor
  · rintro ⟨_, _, h3⟩ x hx; simp [h3 x hx]
  · intro h3
    exact ⟨h, ((like_iff _ _ _ _).1 ((cls_iff T k r q).1 h)).2.1, fun x hx => by have := h3 x hx; simp at this; exact this.symm⟩
end Go.Proofs.Ytbmkkaecfogmoaa
