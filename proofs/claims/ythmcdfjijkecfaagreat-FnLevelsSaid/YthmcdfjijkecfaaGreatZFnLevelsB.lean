/- What the proof of FnLevels leans on, part 2 of 28. -/
import Derived.Test.YthmcdfjijkecfaaGreatZFnLevelsA
import Derived.Laws.BitsAllLaws
import Derived.Laws.BitsLemmas
/- Plain: a map of n numbers into themselves meets all of them just if it meets none twice; bits of numbers. -/
namespace Go.Proofs.YthmcdfjijkecfaaGreat
open Go.RowKit
set_option linter.unusedVariables false
set_option linter.unusedSimpArgs false

def InjOn (f : Nat → Nat) (n : Nat) : Prop := ∀ i j, i < j → j < n → f i ≠ f j
def SurjOn (f : Nat → Nat) (n : Nat) : Prop := ∀ k, k < n → ∃ i, i < n ∧ f i = k

theorem inj_le : ∀ (n m : Nat) (f : Nat → Nat), (∀ i, i < n → f i < m) → InjOn f n → n ≤ m
  | 0, m, f, _, _ => Nat.zero_le _
  | n + 1, m, f, hf, hi => by
    have hm : 0 < m := by have := hf 0 (by omega); omega
    obtain ⟨m, rfl⟩ : ∃ k, m = k + 1 := ⟨m - 1, by omega⟩
    have := inj_le n m (fun i => if f i = m then f n else f i) (fun i h => by
        have h1 := hf i (by omega)
        have h2 := hf n (by omega)
        have h3 := hi i n h (by omega)
        split <;> omega)
      (fun i j hij hj => by
        have h3 := hi i n (by omega) (by omega)
        have h4 := hi j n (by omega) (by omega)
        have h5 := hi i j hij (by omega)
        dsimp only
        split <;> split <;> omega)
    omega

theorem surj_of_inj {f : Nat → Nat} {n : Nat} (hf : ∀ i, i < n → f i < n) (hi : InjOn f n) : SurjOn f n := fun k hk => by
  apply Classical.byContradiction
  intro hno
  have hne : ∀ i, i < n → f i ≠ k := fun i h e => hno ⟨i, h, e⟩
  have := inj_le n (n - 1) (fun i => if f i < k then f i else f i - 1) (fun i h => by
      have h1 := hf i h
      have h2 := hne i h
      split <;> omega)
    (fun i j hij hj => by
      have h1 := hne i (by omega)
      have h2 := hne j hj
      have h5 := hi i j hij hj
      dsimp only
      split <;> split <;> omega)
  omega

theorem inj_of_surj {f : Nat → Nat} {n : Nat} (hs : SurjOn f n) : InjOn f n := by
  have hg : ∃ g : Nat → Nat, ∀ k, k < n → g k < n ∧ f (g k) = k := by
    refine ⟨fun k => if h : k < n then Classical.choose (hs k h) else 0, fun k h => ?_⟩
    dsimp only
    rw [dif_pos h]
    exact Classical.choose_spec (hs k h)
  obtain ⟨g, hg⟩ := hg
  have gi : InjOn g n := fun i j hij hj e => by
    have h1 := (hg i (by omega)).2
    have h2 := (hg j hj).2
    rw [e, h2] at h1
    omega
  have gs := surj_of_inj (fun i h => (hg i h).1) gi
  intro i j hij hj e
  obtain ⟨a, ha, ea⟩ := gs i (by omega)
  obtain ⟨b, hb, eb⟩ := gs j hj
  have h1 := (hg a ha).2
  have h2 := (hg b hb).2
  rw [ea] at h1
  rw [eb] at h2
  have hab : a = b := by omega
  subst hab
  omega

theorem or_nat (a b : Nat) (ha : a < 9223372036854775808) (hb : b < 9223372036854775808) : bits BinOp.or IntKind.i64 (a : Int) (b : Int) = ((a ||| b : Nat) : Int) := by
  have hx : a ||| b < 2 ^ 63 := Nat.or_lt_two_pow (by omega) (by omega)
  have hy : 2 ^ 63 = 9223372036854775808 := by decide
  have ea : (BitVec.ofInt 64 (a : Int)).toNat = a := by rw [BitVec.ofInt_natCast, BitVec.toNat_ofNat]; exact Nat.mod_eq_of_lt (by omega)
  have eb : (BitVec.ofInt 64 (b : Int)).toNat = b := by rw [BitVec.ofInt_natCast, BitVec.toNat_ofNat]; exact Nat.mod_eq_of_lt (by omega)
  show IntKind.i64.wrap ((BitVec.ofInt 64 (a : Int) ||| BitVec.ofInt 64 (b : Int)).toNat : Int) = _
  rw [BitVec.toNat_or, ea, eb, IntKind.wrap_i64]
  omega

/-- The bits of the numbers met so far. -/
def orAll (f : Nat → Nat) : Nat → Nat
  | 0 => 0
  | q + 1 => orAll f q ||| (1 <<< f q)

theorem testBit_one_shift (o k : Nat) : (1 <<< o).testBit k = decide (k = o) := by
  rw [Nat.shiftLeft_eq, Nat.one_mul, Nat.testBit_two_pow]
  simp only [decide_eq_decide]
  omega

theorem orAll_bits (f : Nat → Nat) : ∀ q k, (orAll f q).testBit k = true ↔ ∃ p, p < q ∧ f p = k
  | 0, k => by simp [orAll]
  | q + 1, k => by
    unfold orAll
    rw [Nat.testBit_or, Bool.or_eq_true, orAll_bits f q k, testBit_one_shift, decide_eq_true_eq]
    constructor
    · rintro (⟨p, hp, e⟩ | e)
      · exact ⟨p, by omega, e⟩
      · exact ⟨q, by omega, e.symm⟩
    · rintro ⟨p, hp, e⟩
      by_cases h : p = q
      · subst h; exact .inr e.symm
      · exact .inl ⟨p, by omega, e⟩

theorem orAll_lt (f : Nat → Nat) (n : Nat) : ∀ q, (∀ p, p < q → f p < n) → orAll f q < 2 ^ n
  | 0, _ => by simp [orAll, Nat.two_pow_pos]
  | q + 1, h => by
    unfold orAll
    refine Nat.or_lt_two_pow (orAll_lt f n q fun p hp => h p (by omega)) ?_
    rw [Nat.shiftLeft_eq, Nat.one_mul]
    exact Nat.pow_lt_pow_right (by omega) (h q (by omega))

theorem orAll_full (f : Nat → Nat) (n : Nat) (hf : ∀ p, p < n → f p < n) : orAll f n = 2 ^ n - 1 ↔ InjOn f n := by
  constructor
  · intro h
    refine inj_of_surj fun k hk => ?_
    have : (orAll f n).testBit k = true := by rw [h, Nat.testBit_two_pow_sub_one]; exact decide_eq_true hk
    exact (orAll_bits f n k).1 this
  · intro h
    have hs := surj_of_inj hf h
    apply Nat.eq_of_testBit_eq
    intro k
    rw [Nat.testBit_two_pow_sub_one, Bool.eq_iff_iff, orAll_bits, decide_eq_true_eq]
    exact ⟨fun ⟨p, hp, e⟩ => e ▸ hf p hp, fun hk => hs k hk⟩
end Go.Proofs.YthmcdfjijkecfaaGreat

/- The tree of a word in a graph: plain law. -/
namespace Go.Proofs.YthmcdfjijkecfaaGreat
set_option linter.unusedVariables false
set_option linter.unusedSimpArgs false

/-- A tree: its queue, the distances, the ways. -/
structure Tr where
  q : List Nat
  far : List Int
  ways : List (List Int)
/-- What one step from fr tx `tx` does. -/
def meetT (t : Tr) (fr tx : Nat) (st : Int) : Tr :=
  if t.far.getD tx 0 < 0 then ⟨t.q ++ [tx], t.far.set tx (t.far.getD fr 0 + 1), t.ways.set tx (t.ways.getD fr [] ++ [st])⟩ else t
/-- The step by table j of 2s. -/
def stpT (s j : Nat) : Int := if j < s then (j : Int) + 1 else (s : Int) - (j : Int) - 1
/-- The first j steps from fr. -/
def rndT (T : Nat → Nat → Nat) (s : Nat) (t : Tr) (fr : Nat) : Nat → Tr
  | 0 => t
  | j + 1 => meetT (rndT T s t fr j) fr (T j fr) (stpT s j)
def tr0 (n k : Nat) : Tr := ⟨[k], (List.replicate n (-1)).set k 0, List.replicate n []⟩
/-- The tree when i words of the queue are done. -/
def growT (T : Nat → Nat → Nat) (s n k : Nat) : Nat → Tr
  | 0 => tr0 n k
  | i + 1 => match (growT T s n k i).q[i]? with
    | some fr => rndT T s (growT T s n k i) fr (2 * s)
    | none => growT T s n k i
/-- The tree. -/
def treeT (T : Nat → Nat → Nat) (s n k : Nat) : Tr := growT T s n k n

theorem nodup_le {n : Nat} {q : List Nat} (hd : q.Nodup) (hb : ∀ x ∈ q, x < n) : q.length ≤ n := by
  refine inj_le q.length n (fun i => q.getD i 0) (fun i hi => ?_) ?_
  · simp only [List.getD_eq_getElem?_getD, List.getElem?_eq_getElem hi, Option.getD_some]
    exact hb _ (List.getElem_mem hi)
  · intro i j hij hj e
    have hi : i < q.length := by omega
    simp only [List.getD_eq_getElem?_getD, List.getElem?_eq_getElem hi, List.getElem?_eq_getElem hj, Option.getD_some] at e
    exact List.pairwise_iff_getElem.1 hd i j hi hj hij e

structure TrOk (n : Nat) (t : Tr) : Prop where
  fl : t.far.length = n
  wl : t.ways.length = n
  nd : t.q.Nodup
  qb : ∀ x ∈ t.q, x < n
  fb : ∀ (x : Nat) (v : Int), t.far[x]? = some v → (v = -1 ∧ x ∉ t.q) ∨ (x ∈ t.q ∧ 0 ≤ v ∧ v < t.q.length)
  wb : ∀ (x : Nat) (u : List Int), t.ways[x]? = some u → u.length < t.q.length
theorem TrOk.ql {n : Nat} {t : Tr} (h : TrOk n t) : t.q.length ≤ n := nodup_le h.nd h.qb
theorem tr0_ok {n k : Nat} (hk : k < n) : TrOk n (tr0 n k) where
  fl := by simp [tr0]
  wl := by simp [tr0]
  nd := by simp [tr0]
  qb := fun x hx => by simp [tr0] at hx; omega
  fb := fun x v hv => by
    simp only [tr0, List.getElem?_set] at hv
    by_cases e : k = x
    · subst e
      simp [hk] at hv
      subst hv
      exact .inr ⟨by simp [tr0], by omega, by simp [tr0]⟩
    · rw [if_neg e] at hv
      rw [List.getElem?_replicate] at hv
      split at hv
      · injection hv with hv
        exact .inl ⟨hv.symm, by simp [tr0]; omega⟩
      · simp at hv
  wb := fun x u hu => by
    simp only [tr0, List.getElem?_replicate] at hu
    split at hu
    · injection hu with hu
      subst hu; simp [tr0]
    · simp at hu
theorem TrOk.meet {n : Nat} {t : Tr} (h : TrOk n t) {fr tx : Nat} (st : Int) (hfr : fr ∈ t.q) (hto : tx < n) : TrOk n (meetT t fr tx st) := by
  unfold meetT
  split
  · rename_i hneg
    have hfn := h.qb fr hfr
    have e1 : t.far[tx]? = some (t.far.getD tx 0) := by
      rw [List.getD_eq_getElem?_getD, List.getElem?_eq_getElem (by rw [h.fl]; exact hto)]; rfl
    have e2 : t.far[fr]? = some (t.far.getD fr 0) := by
      rw [List.getD_eq_getElem?_getD, List.getElem?_eq_getElem (by rw [h.fl]; exact hfn)]; rfl
    have e3 : t.ways[fr]? = some (t.ways.getD fr []) := by
      rw [List.getD_eq_getElem?_getD, List.getElem?_eq_getElem (by rw [h.wl]; exact hfn)]; rfl
    have hnq : tx ∉ t.q := by
      rcases h.fb tx _ e1 with h1 | h1
      · exact h1.2
      · omega
    have hff : 0 ≤ t.far.getD fr 0 ∧ t.far.getD fr 0 < t.q.length := by
      rcases h.fb fr _ e2 with h1 | h1
      · exact absurd hfr h1.2
      · exact h1.2
    exact {
      fl := by simp [h.fl]
      wl := by simp [h.wl]
      nd := by
        refine List.nodup_append.2 ⟨h.nd, by simp, fun a ha b hb => ?_⟩
        simp at hb; subst hb
        intro e; subst e; exact hnq ha
      qb := fun x hx => by
        rcases List.mem_append.1 hx with hx | hx
        · exact h.qb x hx
        · simp at hx; omega
      fb := fun x v hv => by
        simp only [List.getElem?_set] at hv
        by_cases e : tx = x
        · subst e
          simp [h.fl, hto] at hv
          subst hv
          exact .inr ⟨by simp, by rw [← List.getD_eq_getElem?_getD]; omega, by rw [← List.getD_eq_getElem?_getD]; simp only [List.length_append, List.length_singleton]; omega⟩
        · rw [if_neg e] at hv
          rcases h.fb x v hv with ⟨h1, h2⟩ | ⟨h1, h2, h3⟩
          · exact .inl ⟨h1, by simp; exact ⟨h2, fun e' => e e'.symm⟩⟩
          · exact .inr ⟨by simp [h1], h2, by simp only [List.length_append, List.length_singleton]; omega⟩
      wb := fun x u hu => by
        have hw := h.wb fr _ e3
        simp only [List.getElem?_set] at hu
        by_cases e : tx = x
        · subst e
          simp only [h.wl, hto, if_true] at hu
          injection hu with hu
          subst hu
          simp only [List.length_append, List.length_singleton]; omega
        · rw [if_neg e] at hu
          have := h.wb x u hu
          simp only [List.length_append, List.length_singleton]; omega }
  · exact h
theorem meetT_mem {t : Tr} {fr tx : Nat} {st : Int} {x : Nat} (h : x ∈ t.q) : x ∈ (meetT t fr tx st).q := by
  unfold meetT; split
  · simp [h]
  · exact h
theorem meetT_get {t : Tr} {fr tx : Nat} {st : Int} {i x : Nat} (h : t.q[i]? = some x) : (meetT t fr tx st).q[i]? = some x := by
  unfold meetT; split
  · show (t.q ++ [tx])[i]? = some x
    rw [List.getElem?_append_left (List.getElem?_eq_some_iff.1 h).1]; exact h
  · exact h
theorem rndT_ok {T : Nat → Nat → Nat} {s n : Nat} {t : Tr} (h : TrOk n t) {fr : Nat} (hfr : fr ∈ t.q) (hT : ∀ j, j < 2 * s → T j fr < n) :
    ∀ j, j ≤ 2 * s → TrOk n (rndT T s t fr j) ∧ fr ∈ (rndT T s t fr j).q
  | 0, _ => ⟨h, hfr⟩
  | j + 1, hj => by
    have ih := rndT_ok h hfr hT j (by omega)
    exact ⟨ih.1.meet _ ih.2 (hT j (by omega)), meetT_mem ih.2⟩
theorem rndT_get {T : Nat → Nat → Nat} {s : Nat} {t : Tr} {fr i x : Nat} (h : t.q[i]? = some x) : ∀ j, (rndT T s t fr j).q[i]? = some x
  | 0 => h
  | j + 1 => meetT_get (rndT_get h j)
theorem growT_ok {T : Nat → Nat → Nat} {s n k : Nat} (hk : k < n) (hT : ∀ j fr, j < 2 * s → fr < n → T j fr < n) : ∀ i, TrOk n (growT T s n k i)
  | 0 => tr0_ok hk
  | i + 1 => by
    have ih := growT_ok hk hT i
    unfold growT
    split
    · rename_i fr hfr
      have hm := List.mem_of_getElem? hfr
      exact (rndT_ok ih hm (fun j hj => hT j fr hj (ih.qb fr hm)) _ (Nat.le_refl _)).1
    · exact ih
theorem growT_step {T : Nat → Nat → Nat} {s n k i fr : Nat} (h : (growT T s n k i).q[i]? = some fr) : growT T s n k (i + 1) = rndT T s (growT T s n k i) fr (2 * s) := by
  rw [growT, h]
theorem growT_stop {T : Nat → Nat → Nat} {s n k i : Nat} (h : (growT T s n k i).q.length ≤ i) : ∀ j, growT T s n k (i + j) = growT T s n k i
  | 0 => rfl
  | j + 1 => by
    have ih := growT_stop h j
    show growT T s n k (i + j + 1) = _
    rw [growT, ih, List.getElem?_eq_none (by omega)]
theorem growT_end {T : Nat → Nat → Nat} {s n k i : Nat} (hi : i ≤ n) (h : (growT T s n k i).q.length ≤ i) : treeT T s n k = growT T s n k i := by
  obtain ⟨j, rfl⟩ := Nat.exists_eq_add_of_le hi
  exact growT_stop (n := i + j) h j
theorem rndT_len {T : Nat → Nat → Nat} {s : Nat} {t : Tr} {fr : Nat} : ∀ j, t.q.length ≤ (rndT T s t fr j).q.length
  | 0 => Nat.le_refl _
  | j + 1 => by
    have ih := rndT_len (T := T) (s := s) (t := t) (fr := fr) j
    show _ ≤ (meetT _ _ _ _).q.length
    unfold meetT; split
    · show _ ≤ (_ ++ [_]).length
      simp; omega
    · exact ih
end Go.Proofs.YthmcdfjijkecfaaGreat

/- Classes of equal states: how both the program and the reference find them. -/
namespace Go.Proofs.YthmcdfjijkecfaaGreat
set_option linter.unusedVariables false
set_option linter.unusedSimpArgs false

/-- The first number from r on, at most d steps away, of which p is told; else where the steps end. -/
def fnd (p : Nat → Bool) : Nat → Nat → Nat
  | r, 0 => r
  | r, d + 1 => if p r then r else fnd p (r + 1) d
/-- The first number below n of which p is told; else n. -/
def fst (p : Nat → Bool) (n : Nat) : Nat := fnd p 0 n
theorem fnd_spec (p : Nat → Bool) : ∀ d r, r ≤ fnd p r d ∧ fnd p r d ≤ r + d ∧ (∀ j, r ≤ j → j < fnd p r d → p j = false) ∧ (fnd p r d < r + d → p (fnd p r d) = true)
  | 0, r => ⟨Nat.le_refl _, Nat.le_refl _, fun j h1 h2 => absurd h2 (by unfold fnd; omega), fun h => absurd h (by unfold fnd; omega)⟩
  | d + 1, r => by
    unfold fnd
    by_cases h : p r = true
    · rw [if_pos h]
      exact ⟨Nat.le_refl _, by omega, fun j h1 h2 => by omega, fun _ => h⟩
    · rw [if_neg h]
      obtain ⟨h1, h2, h3, h4⟩ := fnd_spec p d (r + 1)
      refine ⟨by omega, by omega, fun j h5 h6 => ?_, fun h5 => h4 (by omega)⟩
      by_cases e : j = r
      · subst e; simpa using h
      · exact h3 j (by omega) h6
theorem fst_le (p : Nat → Bool) (n : Nat) : fst p n ≤ n := by have := (fnd_spec p n 0).2.1; unfold fst; omega
theorem fst_none (p : Nat → Bool) (n j : Nat) (h : j < fst p n) : p j = false := (fnd_spec p n 0).2.2.1 j (Nat.zero_le _) h
theorem fst_some (p : Nat → Bool) (n : Nat) (h : fst p n < n) : p (fst p n) = true := (fnd_spec p n 0).2.2.2 (by unfold fst at h; omega)
theorem fst_eq (p : Nat → Bool) (n r : Nat) (hr : r ≤ n) (hno : ∀ j, j < r → p j = false) (hy : r < n → p r = true) : fst p n = r := by
  have h1 := fst_le p n
  rcases Nat.lt_trichotomy (fst p n) r with h | h | h
  · have h2 := fst_some p n (by omega)
    rw [hno _ h] at h2; cases h2
  · exact h
  · have h2 := fst_none p n r h
    rw [hy (by omega)] at h2; cases h2

/-- A machine with any number of states. -/
structure Tab where
  n : Nat
  L : Nat
  nx : Nat → Nat → Nat
  ot : Nat → Nat → Nat
structure Tab.Ok (T : Tab) : Prop where
  pos : 0 < T.n
  nx : ∀ q x, q < T.n → x < T.L → T.nx q x < T.n

def alls (L : Nat) (p : Nat → Bool) : Bool := (List.range L).all p
theorem alls_iff (L : Nat) (p : Nat → Bool) : alls L p = true ↔ ∀ x, x < L → p x = true := by
  unfold alls; rw [List.all_eq_true]; simp
/-- Not told apart yet, by a division into classes. -/
def like (T : Tab) (c : Nat → Nat) (r q : Nat) : Bool := (c r == c q) && (alls T.L fun x => T.ot r x == T.ot q x) && alls T.L fun x => c (T.nx r x) == c (T.nx q x)
def cls (T : Tab) : Nat → Nat → Nat
  | 0 => fun _ => 0
  | k + 1 => fun q => fst (fun r => like T (cls T k) r q) q
theorem cls_succ (T : Tab) (k q : Nat) : cls T (k + 1) q = fst (fun r => like T (cls T k) r q) q := rfl

theorem like_iff (T : Tab) (c : Nat → Nat) (r q : Nat) : like T c r q = true ↔ c r = c q ∧ (∀ x, x < T.L → T.ot r x = T.ot q x) ∧ ∀ x, x < T.L → c (T.nx r x) = c (T.nx q x) := by
  unfold like
  rw [Bool.and_eq_true, Bool.and_eq_true, alls_iff, alls_iff, beq_iff_eq]
  simp only [beq_iff_eq, and_assoc]
theorem like_refl (T : Tab) (c : Nat → Nat) (q : Nat) : like T c q q = true := (like_iff T c q q).2 ⟨rfl, fun _ _ => rfl, fun _ _ => rfl⟩
theorem like_symm {T : Tab} {c : Nat → Nat} {r q : Nat} (h : like T c r q = true) : like T c q r = true := by
  rw [like_iff] at h ⊢
  exact ⟨h.1.symm, fun x hx => (h.2.1 x hx).symm, fun x hx => (h.2.2 x hx).symm⟩
theorem like_trans {T : Tab} {c : Nat → Nat} {a b d : Nat} (h : like T c a b = true) (k : like T c b d = true) : like T c a d = true := by
  rw [like_iff] at h k ⊢
  exact ⟨h.1.trans k.1, fun x hx => (h.2.1 x hx).trans (k.2.1 x hx), fun x hx => (h.2.2 x hx).trans (k.2.2 x hx)⟩

theorem cls_le (T : Tab) (k q : Nat) : cls T k q ≤ q := by
  cases k with
  | zero => exact Nat.zero_le _
  | succ k => exact fst_le _ _
theorem cls_like (T : Tab) (k q : Nat) : like T (cls T k) (cls T (k + 1) q) q = true := by
  rw [cls_succ]
  by_cases h : fst (fun r => like T (cls T k) r q) q < q
  · exact fst_some _ _ h
  · have e := fst_le (fun r => like T (cls T k) r q) q
    rw [show fst (fun r => like T (cls T k) r q) q = q by omega]
    exact like_refl _ _ _
theorem cls_iff (T : Tab) (k r q : Nat) : cls T (k + 1) r = cls T (k + 1) q ↔ like T (cls T k) r q = true := by
  constructor
  · intro h
    have h1 := cls_like T k r
    rw [h] at h1
    exact like_trans (like_symm h1) (cls_like T k q)
  · intro h
    have main : ∀ a b, like T (cls T k) a b = true → cls T (k + 1) b ≤ cls T (k + 1) a := by
      intro a b hab
      rcases Nat.lt_or_ge (cls T (k + 1) a) (cls T (k + 1) b) with h1 | h1
      · have h2 := fst_none (fun r => like T (cls T k) r b) b _ (by rw [← cls_succ]; exact h1)
        rw [like_trans (cls_like T k a) hab] at h2
        cases h2
      · exact h1
    exact Nat.le_antisymm (main q r (like_symm h)) (main r q h)
theorem cls_cls (T : Tab) (k q : Nat) : cls T (k + 1) (cls T (k + 1) q) = cls T (k + 1) q := (cls_iff T k _ _).2 (cls_like T k q)
/-- One more round tells no two together that were apart. -/
theorem cls_fine {T : Tab} {k r q : Nat} (h : cls T (k + 1) r = cls T (k + 1) q) : cls T k r = cls T k q := ((like_iff _ _ _ _).1 ((cls_iff T k r q).1 h)).1
theorem cls_keep {T : Tab} {k q : Nat} (h : cls T (k + 1) q = q) : cls T (k + 2) q = q := by
  have h1 : cls T (k + 1) (cls T (k + 2) q) = cls T (k + 1) q := cls_fine (T := T) (k := k + 1) (cls_cls T (k + 1) q)
  rw [h] at h1
  have h2 := cls_le T (k + 1) (cls T (k + 2) q)
  have h3 := cls_le T (k + 2) q
  omega

/-- How many are the least of their classes. -/
def cnt1 (T : Tab) (k : Nat) : Nat → Nat
  | 0 => 0
  | n + 1 => cnt1 T k n + if cls T k n = n then 1 else 0
theorem cnt1_le (T : Tab) (k : Nat) : ∀ n, cnt1 T k n ≤ n
  | 0 => Nat.le_refl _
  | n + 1 => by unfold cnt1; have := cnt1_le T k n; split <;> omega
theorem cnt1_mono (T : Tab) (k : Nat) : ∀ n, cnt1 T (k + 1) n ≤ cnt1 T (k + 2) n
  | 0 => Nat.le_refl _
  | n + 1 => by
    unfold cnt1
    have := cnt1_mono T k n
    by_cases h : cls T (k + 1) n = n
    · rw [if_pos h, if_pos (cls_keep h)]; omega
    · rw [if_neg h]; omega
theorem cnt1_lt (T : Tab) (k : Nat) : ∀ n p, p < n → cls T (k + 2) p = p → cls T (k + 1) p ≠ p → cnt1 T (k + 1) n < cnt1 T (k + 2) n
  | n + 1, p, hp, h1, h2 => by
    unfold cnt1
    by_cases e : p = n
    · subst e
      have := cnt1_mono T k p
      rw [if_neg h2, if_pos h1]; omega
    · have := cnt1_lt T k n p (by omega) h1 h2
      by_cases h : cls T (k + 1) n = n
      · rw [if_pos h, if_pos (cls_keep h)]; omega
      · rw [if_neg h]; omega
theorem cnt1_congr (T : Tab) (k j : Nat) : ∀ n, (∀ q, q < n → cls T k q = cls T j q) → cnt1 T k n = cnt1 T j n
  | 0, _ => rfl
  | n + 1, h => by unfold cnt1; rw [cnt1_congr T k j n (fun q hq => h q (by omega)), h n (by omega)]
theorem cnt1_pos (T : Tab) (k : Nat) : ∀ n, 0 < n → 1 ≤ cnt1 T (k + 1) n
  | 1, _ => by
    have h : cls T (k + 1) 0 = 0 := Nat.le_zero.1 (cls_le T _ 0)
    simp [cnt1, h]
  | n + 2, _ => by have := cnt1_pos T k (n + 1) (by omega); unfold cnt1; omega
/-- The rounds tell no more apart: below n. -/
def Stable (T : Tab) (k : Nat) : Prop := ∀ q, q < T.n → cls T (k + 1) q = cls T k q
theorem stable_or (T : Tab) (k : Nat) (h : ¬ Stable T (k + 1)) : cnt1 T (k + 1) T.n < cnt1 T (k + 2) T.n := by
  have : ∃ q, q < T.n ∧ cls T (k + 2) q ≠ cls T (k + 1) q := by
    apply Classical.byContradiction
    intro hn
    exact h fun q hq => Classical.byContradiction fun e => hn ⟨q, hq, e⟩
  obtain ⟨q, hq, hne⟩ := this
  refine cnt1_lt T k T.n (cls T (k + 2) q) (Nat.lt_of_le_of_lt (cls_le _ _ _) hq) (cls_cls T (k + 1) q) fun e => hne ?_
  have h1 := cls_fine (T := T) (k := k + 1) (cls_cls T (k + 1) q)
  exact e.symm.trans h1
theorem stable_cnt {T : Tab} {k : Nat} (h : Stable T (k + 1)) : cnt1 T (k + 2) T.n = cnt1 T (k + 1) T.n := cnt1_congr T _ _ _ h
theorem stable_next {T : Tab} (hT : T.Ok) {k : Nat} (h : Stable T k) : Stable T (k + 1) := fun q hq => by
  rw [cls_succ, cls_succ]
  have e : ∀ r, r < T.n → like T (cls T (k + 1)) r q = like T (cls T k) r q := fun r hr => by
    rw [Bool.eq_iff_iff, like_iff, like_iff, h r hr, h q hq]
    constructor
    · rintro ⟨h1, h2, h3⟩
      exact ⟨h1, h2, fun x hx => by have := h3 x hx; rw [h _ (hT.nx r x hr hx), h _ (hT.nx q x hq hx)] at this; exact this⟩
    · rintro ⟨h1, h2, h3⟩
      exact ⟨h1, h2, fun x hx => by rw [h _ (hT.nx r x hr hx), h _ (hT.nx q x hq hx)]; exact h3 x hx⟩
  have hle := fst_le (fun r => like T (cls T k) r q) q
  refine fst_eq _ _ _ hle (fun j hj => ?_) (fun hlt => ?_)
  · rw [e j (by omega)]; exact fst_none _ _ j hj
  · rw [e _ (by omega)]; exact fst_some _ _ hlt
theorem stable_all {T : Tab} (hT : T.Ok) {k : Nat} (h : Stable T k) : ∀ d q, q < T.n → cls T (k + d) q = cls T k q
  | 0, _, _ => rfl
  | d + 1, q, hq => by
    have hs : ∀ d, Stable T (k + d) := fun d => by
      induction d with
      | zero => exact h
      | succ d ih => exact stable_next hT ih
    rw [show k + (d + 1) = (k + d) + 1 by omega, hs d q hq]
    exact stable_all hT h d q hq
/-- The classes in the end. -/
def fix (T : Tab) (q : Nat) : Nat := cls T (T.n + 1) q
theorem fix_of {T : Tab} (hT : T.Ok) {k : Nat} (hk : k ≤ T.n) (h : Stable T k) (q : Nat) (hq : q < T.n) : fix T q = cls T k q := by
  have := stable_all hT h (T.n + 1 - k) q hq
  rwa [show k + (T.n + 1 - k) = T.n + 1 by omega] at this
theorem fix_lt {T : Tab} (q : Nat) (hq : q < T.n) : fix T q < T.n := Nat.lt_of_le_of_lt (cls_le _ _ _) hq

/-- A search that begins at the state's own class finds the same. -/
theorem cls_next (T : Tab) (k q r : Nat) (h1 : cls T (k + 1) q ≤ r) (hr : r ≤ q) (hno : ∀ j, cls T (k + 1) q ≤ j → j < r → like T (cls T (k + 1)) j q = false) (hy : r < q → like T (cls T (k + 1)) r q = true) : cls T (k + 2) q = r := by
  rw [cls_succ]
  refine fst_eq _ _ _ hr (fun j hj => ?_) hy
  rcases Nat.lt_or_ge j (cls T (k + 1) q) with h | h
  · cases hl : like T (cls T (k + 1)) j q with
    | false => rfl
    | true =>
      have h2 := ((like_iff _ _ _ _).1 hl).1
      have h3 := cls_le T (k + 1) j
      omega
  · exact hno j h hj
theorem cls_one (T : Tab) (q r : Nat) (hr : r ≤ q) (hno : ∀ j, j < r → (alls T.L fun x => T.ot j x == T.ot q x) = false) (hy : (alls T.L fun x => T.ot r x == T.ot q x) = true) : cls T 1 q = r := by
  have e : ∀ j, like T (cls T 0) j q = alls T.L fun x => T.ot j x == T.ot q x := fun j => by
    rw [Bool.eq_iff_iff, like_iff, alls_iff]
    constructor
    · rintro ⟨_, h, _⟩ x hx; simp [h x hx]
    · intro h; exact ⟨rfl, fun x hx => by simpa using h x hx, fun _ _ => rfl⟩
  rw [cls_succ]
  exact fst_eq _ _ _ hr (fun j hj => by rw [e j]; exact hno j hj) (fun _ => by rw [e r]; exact hy)
/-- Among equal outputs alone the classes and what follows decide. -/
theorem like_same {T : Tab} {k r q : Nat} (h : cls T (k + 1) r = cls T (k + 1) q) : like T (cls T (k + 1)) r q = alls T.L fun x => cls T (k + 1) (T.nx q x) == cls T (k + 1) (T.nx r x) := by
  rw [Bool.eq_iff_iff, like_iff, alls_iff]
  constructor
  · rintro ⟨_, _, h3⟩ x hx; simp [h3 x hx]
  · intro h3
    exact ⟨h, ((like_iff _ _ _ _).1 ((cls_iff T k r q).1 h)).2.1, fun x hx => by have := h3 x hx; simp at this; exact this.symm⟩
end Go.Proofs.YthmcdfjijkecfaaGreat

/- Cycles of a permutation: plain law. -/
namespace Go.Proofs.YthmcdfjijkecfaaGreat
open Go.RowKit
set_option linter.unusedVariables false
set_option linter.unusedSimpArgs false

/-- How many are not met. -/
def cf (s : List Bool) : Nat := s.count false
/-- From a on, until a met number: what is met then, and how many were new. -/
def cyrun (p : List Nat) : Nat → List Bool → Nat → List Bool × Nat
  | 0, s, _ => (s, 0)
  | f + 1, s, a => if s.getD a true then (s, 0) else ((cyrun p f (s.set a true) (p.getD a 0)).1, (cyrun p f (s.set a true) (p.getD a 0)).2 + 1)
def crun (p : List Nat) (s : List Bool) (a : Nat) : List Bool × Nat := cyrun p (cf s) s a
theorem crun_seen {p : List Nat} {s : List Bool} {a : Nat} (h : s[a]? = some true) : crun p s a = (s, 0) := by
  unfold crun
  cases cf s with
  | zero => rfl
  | succ f => unfold cyrun; rw [List.getD_eq_getElem?_getD, h]; rfl
theorem cf_set : ∀ {s : List Bool} {a : Nat}, s[a]? = some false → cf s = cf (s.set a true) + 1
  | [], a, h => by simp at h
  | b :: s, 0, h => by
    simp at h; subst h
    simp [cf]
  | b :: s, a + 1, h => by
    have ih := cf_set (s := s) (a := a) (by simpa using h)
    simp only [cf, List.set_cons_succ, List.count_cons] at ih ⊢
    omega
theorem crun_new {p : List Nat} {s : List Bool} {a : Nat} (h : s[a]? = some false) : crun p s a = ((crun p (s.set a true) (p.getD a 0)).1, (crun p (s.set a true) (p.getD a 0)).2 + 1) := by
  unfold crun
  rw [cf_set h]
  conv => lhs; unfold cyrun
  rw [List.getD_eq_getElem?_getD, h]
  rfl
/-- What is met, and the cycles' lengths, before k. -/
def cyst (p : List Nat) : Nat → List Bool × List Nat
  | 0 => (List.replicate p.length false, [])
  | k + 1 => ((crun p (cyst p k).1 k).1, if 0 < (crun p (cyst p k).1 k).2 then (cyst p k).2 ++ [(crun p (cyst p k).1 k).2] else (cyst p k).2)
/-- The lengths of the cycles, in the order of their least numbers. -/
def cyc (p : List Nat) : List Nat := (cyst p p.length).2
theorem cyrun_len (p : List Nat) : ∀ f s a, (cyrun p f s a).1.length = s.length
  | 0, _, _ => rfl
  | f + 1, s, a => by
    unfold cyrun
    split
    · rfl
    · show (cyrun p f (s.set a true) _).1.length = _
      rw [cyrun_len p f]; simp
theorem crun_len (p : List Nat) (s : List Bool) (a : Nat) : (crun p s a).1.length = s.length := cyrun_len p _ s a
theorem cyst_len (p : List Nat) : ∀ k, (cyst p k).1.length = p.length
  | 0 => by simp [cyst]
  | k + 1 => by rw [cyst]; dsimp only; rw [crun_len, cyst_len p k]
theorem cyrun_le (p : List Nat) : ∀ f s a, (cyrun p f s a).2 ≤ f
  | 0, _, _ => Nat.le_refl _
  | f + 1, s, a => by
    unfold cyrun
    split
    · exact Nat.zero_le _
    · exact Nat.succ_le_succ (cyrun_le p f _ _)
theorem crun_le (p : List Nat) (s : List Bool) (a : Nat) : (crun p s a).2 ≤ s.length := Nat.le_trans (cyrun_le p _ s a) (by unfold cf; exact List.count_le_length)
theorem cyst_out (p : List Nat) : ∀ k, (cyst p k).2.length ≤ k
  | 0 => Nat.le_refl _
  | k + 1 => by
    have := cyst_out p k
    rw [cyst]; dsimp only
    split
    · simp; omega
    · omega
theorem cyst_pos (p : List Nat) : ∀ k c, c ∈ (cyst p k).2 → 0 < c ∧ c ≤ p.length
  | 0, c, h => by simp [cyst] at h
  | k + 1, c, h => by
    rw [cyst] at h; dsimp only at h
    split at h
    · rename_i hp
      rcases List.mem_append.1 h with h | h
      · exact cyst_pos p k c h
      · rw [List.mem_singleton] at h
        subst h
        exact ⟨hp, by have := crun_le p (cyst p k).1 k; rw [cyst_len] at this; exact this⟩
    · exact cyst_pos p k c h
/-! Cycles of a permutation. -/
def itp (p : List Nat) : Nat → Nat → Nat
  | 0, k => k
  | j + 1, k => p.getD (itp p j k) 0
/-- p leads the numbers below its length to such, each from one. -/
structure IsPm (p : List Nat) : Prop where
  lt : ∀ k, k < p.length → p.getD k 0 < p.length
  inj : ∀ i j, i < p.length → j < p.length → p.getD i 0 = p.getD j 0 → i = j
theorem itp_lt {p : List Nat} (h : IsPm p) {k : Nat} (hk : k < p.length) : ∀ j, itp p j k < p.length
  | 0 => hk
  | j + 1 => h.lt _ (itp_lt h hk j)
theorem itp_add (p : List Nat) (i k : Nat) : ∀ j, itp p (j + i) k = itp p j (itp p i k)
  | 0 => by rw [Nat.zero_add]; rfl
  | j + 1 => by rw [show j + 1 + i = (j + i) + 1 by omega]; show p.getD _ 0 = p.getD _ 0; rw [itp_add p i k j]
theorem itp_inj {p : List Nat} (h : IsPm p) {a b : Nat} (ha : a < p.length) (hb : b < p.length) : ∀ j, itp p j a = itp p j b → a = b
  | 0, e => e
  | j + 1, e => itp_inj h ha hb j (h.inj _ _ (itp_lt h ha j) (itp_lt h hb j) e)
theorem itp_mul {p : List Nat} {c k : Nat} (h : itp p c k = k) : ∀ j, itp p (j * c) k = k
  | 0 => by rw [Nat.zero_mul]; rfl
  | j + 1 => by rw [Nat.succ_mul, itp_add, h]; exact itp_mul h j
/-- c is the length of the cycle of k. -/
structure IsCy (p : List Nat) (k c : Nat) : Prop where
  pos : 0 < c
  back : itp p c k = k
  min : ∀ j, 0 < j → j < c → itp p j k ≠ k
theorem IsCy.dvd {p : List Nat} {k c K : Nat} (h : IsCy p k c) (hK : itp p K k = k) : c ∣ K := by
  have e : itp p (K % c) k = k := by
    have h1 : K = K % c + (K / c) * c := by have := Nat.div_add_mod K c; rw [Nat.mul_comm] at this; omega
    have h2 : itp p (K % c + (K / c) * c) k = k := by rw [← h1]; exact hK
    rw [itp_add, itp_mul h.back] at h2
    exact h2
  rcases Nat.eq_zero_or_pos (K % c) with h0 | h0
  · exact Nat.dvd_of_mod_eq_zero h0
  · exact absurd e (h.min _ h0 (Nat.mod_lt _ h.pos))
theorem cy_ex {p : List Nat} (h : IsPm p) {k : Nat} (hk : k < p.length) : ∃ c, IsCy p k c := by
  have hex : ∃ c, 0 < c ∧ itp p c k = k := by
    apply Classical.byContradiction
    intro hn
    have := inj_le (p.length + 1) p.length (fun i => itp p i k) (fun i _ => itp_lt h hk i) (fun i j hij _ e => by
      refine hn ⟨j - i, by omega, ?_⟩
      have h1 : itp p (i + (j - i)) k = itp p i (itp p (j - i) k) := itp_add p (j - i) k i
      rw [show i + (j - i) = j by omega] at h1
      exact itp_inj h (itp_lt h hk _) hk i (by rw [← h1]; exact e.symm))
    omega
  obtain ⟨c, hc⟩ := hex
  induction c using Nat.strongRecOn with
  | ind c ih =>
    by_cases hm : ∃ j, j < c ∧ 0 < j ∧ itp p j k = k
    · obtain ⟨j, h1, h2⟩ := hm
      exact ih j h1 h2
    · exact ⟨c, hc.1, hc.2, fun j h1 h2 h3 => hm ⟨j, h2, h1, h3⟩⟩
/-- Whole cycles are met. -/
def Clo (p : List Nat) (s : List Bool) : Prop := ∀ x, x < p.length → (s[x]? = some true ↔ s[p.getD x 0]? = some true)
def mkd (p : List Nat) (s : List Bool) (k : Nat) : Nat → List Bool
  | 0 => s
  | j + 1 => (mkd p s k j).set (itp p j k) true
theorem mkd_len (p : List Nat) (s : List Bool) (k : Nat) : ∀ j, (mkd p s k j).length = s.length
  | 0 => rfl
  | j + 1 => by rw [mkd, List.length_set, mkd_len p s k j]
theorem mkd_get {p : List Nat} {s : List Bool} {k x : Nat} (hx : x < s.length) : ∀ j, ((mkd p s k j)[x]? = some true ↔ s[x]? = some true ∨ ∃ i, i < j ∧ itp p i k = x)
  | 0 => ⟨fun h => .inl h, fun h => h.elim id fun ⟨i, hi, _⟩ => absurd hi (Nat.not_lt_zero _)⟩
  | j + 1 => by
    rw [mkd, List.getElem?_set, mkd_len]
    by_cases e : itp p j k = x
    · rw [if_pos e, if_pos (by omega)]
      exact ⟨fun _ => .inr ⟨j, by omega, e⟩, fun _ => rfl⟩
    · rw [if_neg e, mkd_get hx j]
      constructor
      · rintro (h | ⟨i, hi, h⟩)
        · exact .inl h
        · exact .inr ⟨i, by omega, h⟩
      · rintro (h | ⟨i, hi, h⟩)
        · exact .inl h
        · by_cases e2 : i = j
          · subst e2; exact absurd h e
          · exact .inr ⟨i, by omega, h⟩
theorem Clo.it {p : List Nat} {s : List Bool} (hc : Clo p s) (h : IsPm p) {k : Nat} (hk : k < p.length) : ∀ j, (s[k]? = some true ↔ s[itp p j k]? = some true)
  | 0 => Iff.rfl
  | j + 1 => (hc.it h hk j).trans (hc _ (itp_lt h hk j))
theorem get_bool {s : List Bool} {x : Nat} (hx : x < s.length) (h : ¬ s[x]? = some true) : s[x]? = some false := by
  rw [List.getElem?_eq_getElem hx] at h ⊢
  cases hb : s[x] with
  | true => rw [hb] at h; exact absurd rfl h
  | false => rfl
theorem crun_cy {p : List Nat} {s : List Bool} (h : IsPm p) (hl : s.length = p.length) (hc : Clo p s) {k c : Nat} (hk : k < p.length) (hs : ¬ s[k]? = some true) (hy : IsCy p k c) :
    ∀ f j, j + f = c → crun p (mkd p s k j) (itp p j k) = (mkd p s k c, f)
  | 0, j, e => by
    obtain rfl : j = c := by omega
    rw [hy.back]
    exact crun_seen ((mkd_get (by omega) j).2 (.inr ⟨0, hy.pos, rfl⟩))
  | f + 1, j, e => by
    have hlt := itp_lt h hk j
    have hn : (mkd p s k j)[itp p j k]? = some false := get_bool (by rw [mkd_len]; omega) fun ht => by
      rcases (mkd_get (by omega) j).1 ht with h1 | ⟨i, hi, h1⟩
      · exact hs ((hc.it h hk j).2 h1)
      · refine hy.min (j - i) (by omega) (by omega) (itp_inj h (itp_lt h hk _) hk i ?_)
        rw [← itp_add, show i + (j - i) = j by omega]
        exact h1.symm
    rw [crun_new hn]
    have ih := crun_cy h hl hc hk hs hy f (j + 1) (by omega)
    have e2 : (mkd p s k j).set (itp p j k) true = mkd p s k (j + 1) := rfl
    have e3 : p.getD (itp p j k) 0 = itp p (j + 1) k := rfl
    rw [e2, e3, ih]
theorem mkd_clo {p : List Nat} {s : List Bool} (h : IsPm p) (hl : s.length = p.length) (hc : Clo p s) {k c : Nat} (hk : k < p.length) (hy : IsCy p k c) : Clo p (mkd p s k c) := fun x hx => by
  have hp := h.lt x hx
  rw [mkd_get (by omega), mkd_get (by omega)]
  constructor
  · rintro (h1 | ⟨i, hi, rfl⟩)
    · exact .inl ((hc x hx).1 h1)
    · by_cases e : i + 1 = c
      · exact .inr ⟨0, hy.pos, by show k = itp p (i + 1) k; rw [e, hy.back]⟩
      · exact .inr ⟨i + 1, by omega, rfl⟩
  · rintro (h1 | ⟨i, hi, h1⟩)
    · exact .inl ((hc x hx).2 h1)
    · cases i with
      | zero =>
        obtain ⟨d, rfl⟩ : ∃ d, c = d + 1 := ⟨c - 1, by have := hy.pos; omega⟩
        have h2 : p.getD (itp p d k) 0 = p.getD x 0 := hy.back.trans h1
        exact .inr ⟨d, by omega, h.inj _ _ (itp_lt h hk d) hx h2⟩
      | succ i => exact .inr ⟨i, by omega, h.inj _ _ (itp_lt h hk i) hx h1⟩
theorem IsCy.of_it {p : List Nat} (h : IsPm p) {k c : Nat} (hk : k < p.length) (hy : IsCy p k c) (i : Nat) : IsCy p (itp p i k) c where
  pos := hy.pos
  back := by rw [← itp_add, Nat.add_comm, itp_add, hy.back]
  min := fun j h1 h2 h3 => hy.min j h1 h2 (itp_inj h (itp_lt h hk _) hk i (by rw [← itp_add, Nat.add_comm, itp_add]; exact h3))
/-- What is known of the numbers before k. -/
theorem cyst_ok {p : List Nat} (h : IsPm p) : ∀ k, k ≤ p.length → Clo p (cyst p k).1 ∧ (∀ c ∈ (cyst p k).2, ∃ x, x < p.length ∧ IsCy p x c) ∧ (∀ x, x < p.length → (cyst p k).1[x]? = some true → ∃ c ∈ (cyst p k).2, IsCy p x c) ∧ (∀ x, x < k → (cyst p k).1[x]? = some true)
  | 0, _ => by
    refine ⟨fun x hx => ?_, fun c hc => by simp [cyst] at hc, fun x hx ht => ?_, fun x hx => absurd hx (Nat.not_lt_zero _)⟩
    · have hp := h.lt x hx
      simp only [cyst, List.getElem?_replicate, hx, hp, if_true]
    · simp [cyst, hx] at ht
  | k + 1, hk => by
    obtain ⟨h1, h2, h3, h4⟩ := cyst_ok h k (by omega)
    have hl := cyst_len p k
    by_cases hs : (cyst p k).1[k]? = some true
    · have e : cyst p (k + 1) = cyst p k := by rw [cyst, crun_seen hs]; rfl
      rw [e]
      exact ⟨h1, h2, h3, fun x hx => by by_cases e : x = k; · subst e; exact hs
                                        · exact h4 x (by omega)⟩
    · obtain ⟨c, hy⟩ := cy_ex h (show k < p.length by omega)
      have hr := crun_cy h hl h1 (by omega) hs hy c 0 (by omega)
      have hr2 : crun p (cyst p k).1 k = (mkd p (cyst p k).1 k c, c) := hr
      have e : cyst p (k + 1) = (mkd p (cyst p k).1 k c, (cyst p k).2 ++ [c]) := by rw [cyst, hr2]; dsimp only; rw [if_pos hy.pos]
      rw [e]
      refine ⟨mkd_clo h hl h1 (by omega) hy, fun c' hc' => ?_, fun x hx ht => ?_, fun x hx => ?_⟩
      · rcases List.mem_append.1 hc' with hc' | hc'
        · exact h2 c' hc'
        · rw [List.mem_singleton] at hc'; subst hc'; exact ⟨k, by omega, hy⟩
      · rcases (mkd_get (by omega) c).1 ht with ht | ⟨i, hi, rfl⟩
        · obtain ⟨c', hc', hy'⟩ := h3 x hx ht
          exact ⟨c', List.mem_append.2 (.inl hc'), hy'⟩
        · exact ⟨c, by simp, hy.of_it h (by omega) i⟩
      · refine (mkd_get (by omega) c).2 ?_
        by_cases e : x = k
        · subst e; exact .inr ⟨0, hy.pos, rfl⟩
        · exact .inl (h4 x (by omega))
theorem cyc_cy {p : List Nat} (h : IsPm p) {c : Nat} (hc : c ∈ cyc p) : ∃ x, x < p.length ∧ IsCy p x c := (cyst_ok h p.length (Nat.le_refl _)).2.1 c hc
theorem cyc_all {p : List Nat} (h : IsPm p) {x : Nat} (hx : x < p.length) : ∃ c ∈ cyc p, IsCy p x c :=
  have hk := cyst_ok h p.length (Nat.le_refl _)
  hk.2.2.1 x hx (hk.2.2.2 x hx)
theorem cyc_dvd {p : List Nat} (h : IsPm p) {K : Nat} (hK : ∀ x, x < p.length → itp p K x = x) {c : Nat} (hc : c ∈ cyc p) : c ∣ K := by
  obtain ⟨x, hx, hy⟩ := cyc_cy h hc
  exact hy.dvd (hK x hx)
/-- The order so far. -/
def ordL (l : List Nat) : Nat := l.foldl Nat.lcm 1
theorem foldl_lcm_dvd {K : Nat} : ∀ (l : List Nat) (a : Nat), a ∣ K → (∀ c ∈ l, c ∣ K) → l.foldl Nat.lcm a ∣ K
  | [], _, h, _ => h
  | c :: l, a, h, hl => foldl_lcm_dvd l _ (Nat.lcm_dvd h (hl c (by simp))) fun d hd => hl d (by simp [hd])
theorem foldl_lcm_start : ∀ (l : List Nat) (a : Nat), a ∣ l.foldl Nat.lcm a
  | [], _ => Nat.dvd_refl _
  | c :: l, a => Nat.dvd_trans (Nat.dvd_lcm_left a c) (foldl_lcm_start l _)
theorem foldl_lcm_mem : ∀ (l : List Nat) (a : Nat) (c : Nat), c ∈ l → c ∣ l.foldl Nat.lcm a
  | d :: l, a, c, h => by
    rcases List.mem_cons.1 h with rfl | h
    · exact Nat.dvd_trans (Nat.dvd_lcm_right a c) (foldl_lcm_start l _)
    · exact foldl_lcm_mem l _ c h
theorem ordL_dvd {K : Nat} {l : List Nat} (h : ∀ c ∈ l, c ∣ K) : ordL l ∣ K := foldl_lcm_dvd l 1 (Nat.one_dvd _) h
theorem ordL_mem {l : List Nat} {c : Nat} (h : c ∈ l) : c ∣ ordL l := foldl_lcm_mem l 1 c h
theorem ordL_congr {l l' : List Nat} (h : ∀ c, c ∈ l ↔ c ∈ l') : ordL l = ordL l' :=
  Nat.dvd_antisymm (ordL_dvd fun c hc => ordL_mem ((h c).1 hc)) (ordL_dvd fun c hc => ordL_mem ((h c).2 hc))
end Go.Proofs.YthmcdfjijkecfaaGreat

/- The tree of a word: where each word was met from (plain law). -/
namespace Go.Proofs.YthmcdfjijkecfaaGreat
set_option linter.unusedVariables false
set_option linter.unusedSimpArgs false

/-- What one step writes down of where a word was met from, and by which step. -/
def meetF (t : Tr) (X : List Int × List Int) (fr tx : Nat) (st : Int) : List Int × List Int :=
  if t.far.getD tx 0 < 0 then (X.1.set tx (fr : Int), X.2.set tx st) else X
structure Lk (n k : Nat) (t : Tr) (X : List Int × List Int) : Prop where
  l1 : X.1.length = n
  l2 : X.2.length = n
  q0 : t.q[0]? = some k
  wk : t.ways[k]? = some []
  lk : ∀ x ∈ t.q, x = k ∨ ∃ (f : Nat) (st : Int) (u : List Int), X.1[x]? = some (f : Int) ∧ X.2[x]? = some st ∧ f ∈ t.q ∧ t.ways[f]? = some u ∧ t.ways[x]? = some (u ++ [st])
theorem Lk.zero {n k : Nat} (hk : k < n) : Lk n k (tr0 n k) (List.replicate n 0, List.replicate n 0) where
  l1 := by simp
  l2 := by simp
  q0 := rfl
  wk := by simp [tr0, hk]
  lk := fun x hx => by simp [tr0] at hx; exact .inl hx
theorem Lk.meet {n k : Nat} {t : Tr} {X : List Int × List Int} (h : Lk n k t X) (ok : TrOk n t) {fr tx : Nat} (st : Int) (hfr : fr ∈ t.q) (hto : tx < n) : Lk n k (meetT t fr tx st) (meetF t X fr tx st) := by
  unfold meetT meetF
  split
  · rename_i hneg
    have hfn := ok.qb fr hfr
    have e1 : t.far[tx]? = some (t.far.getD tx 0) := by
      rw [List.getD_eq_getElem?_getD, List.getElem?_eq_getElem (by rw [ok.fl]; exact hto)]; rfl
    have e3 : t.ways[fr]? = some (t.ways.getD fr []) := by
      rw [List.getD_eq_getElem?_getD, List.getElem?_eq_getElem (by rw [ok.wl]; exact hfn)]; rfl
    have hnq : tx ∉ t.q := by
      rcases ok.fb tx _ e1 with h1 | h1
      · exact h1.2
      · omega
    have hne : ∀ x ∈ t.q, tx ≠ x := fun x hx e => hnq (e ▸ hx)
    have hkq : k ∈ t.q := List.mem_of_getElem? h.q0
    exact {
      l1 := by simp [h.l1]
      l2 := by simp [h.l2]
      q0 := by
        show (t.q ++ [tx])[0]? = some k
        rw [List.getElem?_append_left (List.getElem?_eq_some_iff.1 h.q0).1]; exact h.q0
      wk := by
        show (t.ways.set tx _)[k]? = some []
        rw [List.getElem?_set, if_neg (hne k hkq)]; exact h.wk
      lk := fun x hx => by
        rcases List.mem_append.1 hx with hx | hx
        · rcases h.lk x hx with h1 | ⟨f, s, u, h1, h2, h3, h4, h5⟩
          · exact .inl h1
          · refine .inr ⟨f, s, u, ?_, ?_, by simp [h3], ?_, ?_⟩
            · simp only [List.getElem?_set, if_neg (hne x hx)]; exact h1
            · simp only [List.getElem?_set, if_neg (hne x hx)]; exact h2
            · simp only [List.getElem?_set, if_neg (hne f h3)]; exact h4
            · simp only [List.getElem?_set, if_neg (hne x hx)]; exact h5
        · simp at hx
          subst hx
          refine .inr ⟨fr, st, t.ways.getD fr [], ?_, ?_, by simp [hfr], ?_, ?_⟩
          · simp only [List.getElem?_set, h.l1, hto, if_true]
          · simp only [List.getElem?_set, h.l2, hto, if_true]
          · simp only [List.getElem?_set, if_neg (hne fr hfr)]; exact e3
          · simp only [List.getElem?_set, ok.wl, hto, if_true] }
  · exact h
/-- A word's way by the links. -/
theorem Lk.way {n k : Nat} {t : Tr} {X : List Int × List Int} (h : Lk n k t X) (ok : TrOk n t) {x : Nat} (hx : x ∈ t.q) : x = k ∧ t.ways[x]? = some [] ∨ ∃ (f : Nat) (st : Int) (u : List Int), x ≠ k ∧ X.1[x]? = some (f : Int) ∧ X.2[x]? = some st ∧ f ∈ t.q ∧ t.ways[f]? = some u ∧ t.ways[x]? = some (u ++ [st]) := by
  by_cases e : x = k
  · exact .inl ⟨e, e ▸ h.wk⟩
  · rcases h.lk x hx with h1 | ⟨f, s, u, h1⟩
    · exact absurd h1 e
    · exact .inr ⟨f, s, u, e, h1⟩
end Go.Proofs.YthmcdfjijkecfaaGreat

/- The tree of a word: its distances are those of the shortest walks, its ways lead there. -/
namespace Go.Proofs.YthmcdfjijkecfaaGreat
set_option linter.unusedVariables false
set_option linter.unusedSimpArgs false

/-- A walk of so many steps from k. -/
def Wlk (T : Nat → Nat → Nat) (s k : Nat) : Nat → Nat → Prop
  | 0, x => x = k
  | d + 1, x => ∃ y j, Wlk T s k d y ∧ j < 2 * s ∧ T j y = x
def Tr.F (t : Tr) (x : Nat) : Int := t.far.getD x 0
def Tr.W (t : Tr) (x : Nat) : List Int := t.ways.getD x []
/-- The table of a step. -/
def tabT (s : Nat) (st : Int) : Nat := if 0 < st then (st - 1).toNat else s + (-st - 1).toNat
/-- Where steps lead. -/
def runT (T : Nat → Nat → Nat) (s : Nat) : List Int → Nat → Nat
  | [], k => k
  | st :: u, k => runT T s u (T (tabT s st) k)
theorem runT_append (T : Nat → Nat → Nat) (s : Nat) (v : List Int) : ∀ (u : List Int) (k : Nat), runT T s (u ++ v) k = runT T s v (runT T s u k)
  | [], _ => rfl
  | st :: u, k => runT_append T s v u _
theorem tabT_stpT (s j : Nat) : tabT s (stpT s j) = j := by
  unfold tabT stpT
  by_cases h : j < s
  · rw [if_pos h, if_pos (by omega)]; omega
  · rw [if_neg h, if_neg (by omega)]; omega
theorem TrOk.F_cases {n : Nat} {t : Tr} (h : TrOk n t) {x : Nat} (hx : x < n) : (t.F x = -1 ∧ x ∉ t.q) ∨ (x ∈ t.q ∧ 0 ≤ t.F x) := by
  have e1 : t.far[x]? = some (t.F x) := by
    unfold Tr.F; rw [List.getD_eq_getElem?_getD, List.getElem?_eq_getElem (by rw [h.fl]; exact hx)]; rfl
  rcases h.fb x _ e1 with h1 | h1
  · exact .inl h1
  · exact .inr ⟨h1.1, h1.2.1⟩
theorem meetT_old {n : Nat} {t : Tr} (h : TrOk n t) {fr tx : Nat} {st : Int} (htx : tx ∈ t.q) : meetT t fr tx st = t := by
  unfold meetT
  rcases h.F_cases (h.qb tx htx) with h1 | h1
  · exact absurd htx h1.2
  · have := h1.2
    rw [if_neg (by unfold Tr.F at this; omega)]
theorem meetT_new {n : Nat} {t : Tr} (h : TrOk n t) {fr tx : Nat} {st : Int} (hn : tx < n) (htx : tx ∉ t.q) :
    (meetT t fr tx st).q = t.q ++ [tx] ∧ (∀ x, (meetT t fr tx st).F x = if x = tx then t.F fr + 1 else t.F x) ∧ (∀ x, (meetT t fr tx st).W x = if x = tx then t.W fr ++ [st] else t.W x) := by
  unfold meetT
  rcases h.F_cases hn with h1 | h1
  · have := h1.1
    rw [if_pos (by unfold Tr.F at this; omega)]
    refine ⟨rfl, fun x => ?_, fun x => ?_⟩
    · unfold Tr.F
      by_cases e : x = tx
      · subst e; rw [if_pos rfl]; simp [List.getD_eq_getElem?_getD, List.getElem?_set, h.fl, hn]
      · rw [if_neg e]; simp [List.getD_eq_getElem?_getD, List.getElem?_set, Ne.symm e]
    · unfold Tr.W
      by_cases e : x = tx
      · subst e; rw [if_pos rfl]; simp [List.getD_eq_getElem?_getD, List.getElem?_set, h.wl, hn]
      · rw [if_neg e]; simp [List.getD_eq_getElem?_getD, List.getElem?_set, Ne.symm e]
  · exact absurd h1.1 htx

/-- A step by one of 2 s tables. -/
def StpOk (s : Nat) (st : Int) : Prop := ∃ j, j < 2 * s ∧ st = stpT s j
/-- What holds of a tree when i words of its queue are done, and j steps from the next one. -/
structure TrP (T : Nat → Nat → Nat) (s k : Nat) (t : Tr) (i j : Nat) : Prop where
  root : t.F k = 0 ∧ t.q[0]? = some k
  wk : ∀ x ∈ t.q, ∃ d : Nat, t.F x = d ∧ Wlk T s k d x
  srt : t.q.Pairwise fun x y => t.F x ≤ t.F y
  bnd : ∀ x, t.q[i]? = some x → ∀ y ∈ t.q, t.F y ≤ t.F x + 1
  nb : ∀ a x, t.q[a]? = some x → ∀ j', (a < i ∧ j' < 2 * s) ∨ (a = i ∧ j' < j) → T j' x ∈ t.q ∧ t.F (T j' x) ≤ t.F x + 1
  way : ∀ x ∈ t.q, t.F x = (t.W x).length ∧ runT T s (t.W x) k = x ∧ ∀ st ∈ t.W x, StpOk s st
section
variable {T : Nat → Nat → Nat} {s n k : Nat} {t : Tr}
theorem TrP.start (hk : k < n) : TrP T s k (tr0 n k) 0 0 := by
  have e0 : (tr0 n k).F k = 0 := by simp [tr0, Tr.F, List.getD_eq_getElem?_getD, List.getElem?_set, hk]
  have ew : (tr0 n k).W k = [] := by simp [tr0, Tr.W, List.getD_eq_getElem?_getD, hk]
  have em : ∀ x, x ∈ (tr0 n k).q → x = k := fun x hx => by simpa [tr0] using hx
  refine ⟨⟨e0, rfl⟩, fun x hx => ?_, by simp [tr0], fun x hx y hy => ?_, fun a x ha j' h => ?_, fun x hx => ?_⟩
  · rw [em x hx]; exact ⟨0, e0, rfl⟩
  · rw [em y hy, em x (List.mem_of_getElem? hx)]; omega
  · omega
  · rw [em x hx, e0, ew]; exact ⟨rfl, rfl, fun st hst => by cases hst⟩
theorem TrP.meet {i j fr : Nat} (h : TrP T s k t i j) (ok : TrOk n t) (hfr : t.q[i]? = some fr) (hj : j < 2 * s) (hT : T j fr < n) : TrP T s k (meetT t fr (T j fr) (stpT s j)) i (j + 1) := by
  have hfm := List.mem_of_getElem? hfr
  by_cases hm : T j fr ∈ t.q
  · rw [meetT_old ok hm]
    refine ⟨h.root, h.wk, h.srt, h.bnd, fun a x ha j' hj' => ?_, h.way⟩
    by_cases e : a = i ∧ j' = j
    · obtain ⟨rfl, rfl⟩ := e
      rw [hfr] at ha
      obtain rfl : fr = x := by injection ha
      exact ⟨hm, h.bnd fr hfr _ hm⟩
    · exact h.nb a x ha j' (by omega)
  · obtain ⟨eq, eF, eW⟩ := meetT_new (st := stpT s j) (fr := fr) ok hT hm
    generalize meetT t fr (T j fr) (stpT s j) = t' at *
    have eF' : ∀ x ∈ t.q, t'.F x = t.F x := fun x hx => by rw [eF, if_neg (fun e : x = T j fr => hm (e ▸ hx))]
    have eW' : ∀ x ∈ t.q, t'.W x = t.W x := fun x hx => by rw [eW, if_neg (fun e : x = T j fr => hm (e ▸ hx))]
    have eN : t'.F (T j fr) = t.F fr + 1 := by rw [eF, if_pos rfl]
    have eM : t'.W (T j fr) = t.W fr ++ [stpT s j] := by rw [eW, if_pos rfl]
    have hle := h.bnd fr hfr
    have hil : i < t.q.length := (List.getElem?_eq_some_iff.1 hfr).1
    refine ⟨⟨?_, ?_⟩, fun x hx => ?_, ?_, fun x hx y hy => ?_, fun a x ha j' hj' => ?_, fun x hx => ?_⟩
    · rw [eF' _ (List.mem_of_getElem? h.root.2)]; exact h.root.1
    · rw [eq, List.getElem?_append_left (by omega)]; exact h.root.2
    · rw [eq] at hx
      rcases List.mem_append.1 hx with hx | hx
      · rw [eF' x hx]; exact h.wk x hx
      · rw [List.mem_singleton.1 hx, eN]
        obtain ⟨d, hd, hw⟩ := h.wk fr hfm
        exact ⟨d + 1, by omega, fr, j, hw, hj, rfl⟩
    · rw [eq, List.pairwise_append]
      refine ⟨?_, List.pairwise_singleton _ _, fun a ha b hb => ?_⟩
      · exact (List.Pairwise.and_mem.1 h.srt).imp fun ⟨ha, hb, hab⟩ => by rw [eF' _ ha, eF' _ hb]; exact hab
      · rw [List.mem_singleton.1 hb, eN, eF' a ha]; exact hle a ha
    · rw [eq, List.getElem?_append_left hil, hfr] at hx
      obtain rfl : fr = x := by injection hx
      rw [eF' fr hfm]
      rw [eq] at hy
      rcases List.mem_append.1 hy with hy | hy
      · rw [eF' y hy]; exact hle y hy
      · rw [List.mem_singleton.1 hy, eN]; omega
    · have key : ∀ z, z ∈ t.q ∧ t.F z ≤ t.F x + 1 → x ∈ t.q → z ∈ t'.q ∧ t'.F z ≤ t'.F x + 1 := fun z hz hx => by
        rw [eF' z hz.1, eF' x hx, eq]; exact ⟨List.mem_append_left _ hz.1, hz.2⟩
      have hai : a < t.q.length := by omega
      rw [eq, List.getElem?_append_left hai] at ha
      have hxm := List.mem_of_getElem? ha
      by_cases e : a = i ∧ j' = j
      · obtain ⟨rfl, rfl⟩ := e
        rw [hfr] at ha
        obtain rfl : fr = x := by injection ha
        rw [eN, eF' fr hfm, eq]
        exact ⟨by simp, by omega⟩
      · exact key _ (h.nb a x ha j' (by omega)) hxm
    · rw [eq] at hx
      rcases List.mem_append.1 hx with hx | hx
      · rw [eF' x hx, eW' x hx]; exact h.way x hx
      · obtain ⟨h1, h2, h3⟩ := h.way fr hfm
        rw [List.mem_singleton.1 hx, eN, eM, runT_append, h2]
        refine ⟨by simp only [List.length_append, List.length_singleton]; omega, ?_, fun st hst => ?_⟩
        · show T (tabT s (stpT s j)) fr = T j fr
          rw [tabT_stpT]
        · rcases List.mem_append.1 hst with hst | hst
          · exact h3 st hst
          · exact ⟨j, hj, List.mem_singleton.1 hst⟩
theorem TrP.rnd {i fr : Nat} (h : TrP T s k t i 0) (ok : TrOk n t) (hfr : t.q[i]? = some fr) (hT : ∀ j, j < 2 * s → T j fr < n) :
    ∀ j, j ≤ 2 * s → TrP T s k (rndT T s t fr j) i j
  | 0, _ => h
  | j + 1, hj => (TrP.rnd h ok hfr hT j (by omega)).meet (rndT_ok ok (List.mem_of_getElem? hfr) hT j (by omega)).1 (rndT_get hfr j) (by omega) (hT j (by omega))
theorem TrP.next {i : Nat} (h : TrP T s k t i (2 * s)) : TrP T s k t (i + 1) 0 := by
  refine ⟨h.root, h.wk, h.srt, fun x hx y hy => ?_, fun a x ha j' hj' => h.nb a x ha j' (by omega), h.way⟩
  by_cases hi : i < t.q.length
  · have hfr : t.q[i]? = some t.q[i] := List.getElem?_eq_getElem hi
    have h1 := h.bnd _ hfr y hy
    obtain ⟨hi1, hx1⟩ := List.getElem?_eq_some_iff.1 hx
    have h2 := List.pairwise_iff_getElem.1 h.srt i (i + 1) hi hi1 (by omega)
    rw [hx1] at h2
    omega
  · rw [List.getElem?_eq_none (by omega)] at hx; cases hx
theorem growT_P (hk : k < n) (hT : ∀ j fr, j < 2 * s → fr < n → T j fr < n) : ∀ i, TrP T s k (growT T s n k i) i 0
  | 0 => TrP.start hk
  | i + 1 => by
    have ih := growT_P hk hT i
    have ok := growT_ok hk hT i
    cases h : (growT T s n k i).q[i]? with
    | some fr =>
      rw [growT_step h]
      exact (ih.rnd ok h (fun j hj => hT j fr hj (ok.qb fr (List.mem_of_getElem? h))) _ (Nat.le_refl _)).next
    | none =>
      rw [growT, h]
      dsimp only
      refine ⟨ih.root, ih.wk, ih.srt, fun x hx => ?_, fun a x ha j' hj' => ih.nb a x ha j' ?_, ih.way⟩
      · rw [List.getElem?_eq_none (by have := List.getElem?_eq_none_iff.1 h; omega)] at hx; cases hx
      · rcases Nat.lt_or_ge a i with h1 | h1
        · left; omega
        · rw [List.getElem?_eq_none (by have := List.getElem?_eq_none_iff.1 h; omega)] at ha; cases ha
/-- What the whole tree tells. -/
structure TrD (T : Nat → Nat → Nat) (s n k : Nat) (t : Tr) : Prop where
  ok : TrOk n t
  kq : k ∈ t.q
  k0 : t.F k = 0
  wk : ∀ x ∈ t.q, ∃ d : Nat, t.F x = d ∧ Wlk T s k d x
  nb : ∀ x ∈ t.q, ∀ j, j < 2 * s → T j x ∈ t.q ∧ t.F (T j x) ≤ t.F x + 1
  way : ∀ x ∈ t.q, t.F x = (t.W x).length ∧ runT T s (t.W x) k = x ∧ ∀ st ∈ t.W x, StpOk s st
theorem treeT_D (hk : k < n) (hT : ∀ j fr, j < 2 * s → fr < n → T j fr < n) : TrD T s n k (treeT T s n k) := by
  have ok : TrOk n (treeT T s n k) := growT_ok hk hT n
  have h : TrP T s k (treeT T s n k) n 0 := growT_P hk hT n
  refine ⟨ok, List.mem_of_getElem? h.root.2, h.root.1, h.wk, fun x hx j hj => ?_, h.way⟩
  obtain ⟨a, ha, rfl⟩ := List.getElem_of_mem hx
  exact h.nb a _ (List.getElem?_eq_getElem ha) j (.inl ⟨Nat.lt_of_lt_of_le ha ok.ql, hj⟩)
theorem TrD.min (h : TrD T s n k t) : ∀ d x, Wlk T s k d x → x ∈ t.q ∧ t.F x ≤ d
  | 0, x, hx => by
    have e : x = k := hx
    rw [e, h.k0]; exact ⟨h.kq, Int.le_refl _⟩
  | d + 1, x, hx => by
    obtain ⟨y, j, hy, hj, rfl⟩ := hx
    obtain ⟨h1, h2⟩ := h.min d y hy
    obtain ⟨h3, h4⟩ := h.nb y h1 j hj
    exact ⟨h3, by omega⟩
theorem Wlk.lt (hk : k < n) (hT : ∀ j fr, j < 2 * s → fr < n → T j fr < n) : ∀ d x, Wlk T s k d x → x < n
  | 0, x, h => by have e : x = k := h; omega
  | d + 1, x, h => by
    obtain ⟨y, j, hy, hj, rfl⟩ := h
    exact hT j y hj (Wlk.lt hk hT d y hy)
theorem Wlk.cons {j k' : Nat} (hj : j < 2 * s) (e : T j k' = k) : ∀ d x, Wlk T s k d x → Wlk T s k' (d + 1) x
  | 0, x, h => by have e' : x = k := h; exact ⟨k', j, rfl, hj, by rw [e, e']⟩
  | d + 1, x, h => by
    obtain ⟨y, i, hy, hi, rfl⟩ := h
    exact ⟨y, i, Wlk.cons hj e d y hy, hi, rfl⟩
/-- Tables forward, then those that lead back. -/
def Bak (T : Nat → Nat → Nat) (s n : Nat) : Prop := ∀ j i, j < s → i < n → T (s + j) (T j i) = i ∧ T j (T (s + j) i) = i
theorem Bak.one (h : Bak T s n) {j i : Nat} (hj : j < 2 * s) (hi : i < n) : ∃ j', j' < 2 * s ∧ T j' (T j i) = i := by
  by_cases e : j < s
  · exact ⟨s + j, by omega, (h j i e hi).1⟩
  · have := (h (j - s) i (by omega) hi).2
    rw [show s + (j - s) = j by omega] at this
    exact ⟨j - s, by omega, this⟩
theorem Wlk.rev (hb : Bak T s n) (hk : k < n) (hT : ∀ j fr, j < 2 * s → fr < n → T j fr < n) : ∀ d x, Wlk T s k d x → Wlk T s x d k
  | 0, x, h => by have e : x = k := h; exact e.symm
  | d + 1, x, h => by
    obtain ⟨y, j, hy, hj, rfl⟩ := h
    obtain ⟨j', hj', e⟩ := hb.one hj (Wlk.lt hk hT d y hy)
    exact Wlk.cons hj' e d k (Wlk.rev hb hk hT d y hy)
/-- Distances do not depend on the direction. -/
theorem far_sym {l : Nat} (hb : Bak T s n) (hk : k < n) (hl : l < n) (hT : ∀ j fr, j < 2 * s → fr < n → T j fr < n) :
    (treeT T s n k).F l = (treeT T s n l).F k ∧ (l ∈ (treeT T s n k).q ↔ k ∈ (treeT T s n l).q) := by
  have D := treeT_D hk hT
  have E := treeT_D hl hT
  have half : ∀ {a b : Nat} {t t' : Tr}, a < n → b < n → TrD T s n a t → TrD T s n b t' → b ∈ t.q → a ∈ t'.q ∧ t'.F a ≤ t.F b := fun ha hb' hD hE hm => by
    obtain ⟨d, hd, hw⟩ := hD.wk _ hm
    have := hE.min d _ (Wlk.rev hb ha hT d _ hw)
    rw [hd]; exact this
  by_cases hm : l ∈ (treeT T s n k).q
  · obtain ⟨h1, h2⟩ := half hk hl D E hm
    obtain ⟨h3, h4⟩ := half hl hk E D h1
    exact ⟨by omega, ⟨fun _ => h1, fun _ => hm⟩⟩
  · have hm' : k ∉ (treeT T s n l).q := fun h => hm (half hl hk E D h).1
    rcases D.ok.F_cases hl with h1 | h1
    · rcases E.ok.F_cases hk with h2 | h2
      · exact ⟨by rw [h1.1, h2.1], ⟨fun h => absurd h hm, fun h => absurd h hm'⟩⟩
      · exact absurd h2.1 hm'
    · exact absurd h1.1 hm
/-- Being joined. -/
theorem Wlk.trans {b : Nat} (d : Nat) (h : Wlk T s k d b) : ∀ e x, Wlk T s b e x → Wlk T s k (d + e) x
  | 0, x, h' => by have e : x = b := h'; rw [e]; exact h
  | e + 1, x, h' => by
    obtain ⟨y, j, hy, hj, rfl⟩ := h'
    exact ⟨y, j, Wlk.trans d h e y hy, hj, rfl⟩
theorem TrD.mem_iff (h : TrD T s n k t) (x : Nat) : x ∈ t.q ↔ ∃ d, Wlk T s k d x :=
  ⟨fun hx => (h.wk x hx).elim fun d hd => ⟨d, hd.2⟩, fun ⟨d, hd⟩ => (h.min d x hd).1⟩
end
end Go.Proofs.YthmcdfjijkecfaaGreat
