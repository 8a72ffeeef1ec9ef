/- The machine of a state: the classes as they are met. -/
import Derived.Test.YthempofohidlnaaCls
import Derived.Test.YthempofohidlnaaRev
namespace Go.Proofs.Ythempofohidlnaa
set_option linter.unusedVariables false
set_option linter.unusedSimpArgs false

def meet (st : List Nat) (c : Nat) : List Nat := if c ∈ st then st else st ++ [c]
def meets (T : Tab) (c : Nat → Nat) (s : Nat) (st : List Nat) : Nat → List Nat
  | 0 => st
  | x + 1 => meet (meets T c s st x) (c (T.nx s x))
def bfs (T : Tab) (c : Nat → Nat) (q : Nat) : Nat → List Nat
  | 0 => [c q]
  | i + 1 => match (bfs T c q i)[i]? with
    | some s => meets T c s (bfs T c q i) T.L
    | none => bfs T c q i
def fin (T : Tab) (c : Nat → Nat) (q : Nat) : List Nat := bfs T c q T.n

theorem meet_pre (st : List Nat) (c : Nat) : ∃ r, meet st c = st ++ r := by
  unfold meet; split
  · exact ⟨[], by simp⟩
  · exact ⟨[c], rfl⟩
theorem meet_mem (st : List Nat) (c : Nat) : c ∈ meet st c := by unfold meet; split <;> simp_all
theorem meets_pre (T : Tab) (c : Nat → Nat) (s : Nat) (st : List Nat) : ∀ x, ∃ r, meets T c s st x = st ++ r
  | 0 => ⟨[], by simp [meets]⟩
  | x + 1 => by
    obtain ⟨r, hr⟩ := meets_pre T c s st x
    obtain ⟨r', hr'⟩ := meet_pre (meets T c s st x) (c (T.nx s x))
    exact ⟨r ++ r', by unfold meets; rw [hr', hr, List.append_assoc]⟩
theorem meets_mem (T : Tab) (c : Nat → Nat) (s : Nat) (st : List Nat) : ∀ x y, y < x → c (T.nx s y) ∈ meets T c s st x
  | x + 1, y, hy => by
    unfold meets
    by_cases e : y = x
    · subst e; exact meet_mem _ _
    · obtain ⟨r, hr⟩ := meet_pre (meets T c s st x) (c (T.nx s x))
      rw [hr]
      exact List.mem_append_left _ (meets_mem T c s st x y (by omega))
/-- A list of numbers below n, each once. -/
def Uniq (n : Nat) (st : List Nat) : Prop := st.Nodup ∧ ∀ s, s ∈ st → s < n
theorem Uniq.meet {n c : Nat} {st : List Nat} (h : Uniq n st) (hc : c < n) : Uniq n (meet st c) := by
  unfold Go.Proofs.Ythempofohidlnaa.meet
  split
  · exact h
  · rename_i hn
    refine ⟨List.nodup_append.2 ⟨h.1, by simp, fun a ha b hb e => ?_⟩, fun s hs => ?_⟩
    · simp at hb; subst hb; subst e; exact hn ha
    · rcases List.mem_append.1 hs with hs | hs
      · exact h.2 s hs
      · simp at hs; omega
theorem Uniq.meets {T : Tab} {c : Nat → Nat} (hT : T.Ok) (hc : ∀ q, q < T.n → c q < T.n) {s : Nat} (hs : s < T.n) {st : List Nat} (h : Uniq T.n st) : ∀ x, x ≤ T.L → Uniq T.n (meets T c s st x)
  | 0, _ => h
  | x + 1, hx => (Uniq.meets hT hc hs h x (by omega)).meet (hc _ (hT.nx s x hs (by omega)))
theorem Uniq.len {n : Nat} {st : List Nat} (h : Uniq n st) : st.length ≤ n := by
  refine inj_le st.length n (fun i => st.getD i 0) (fun i hi => ?_) (fun i j hij hj e => ?_)
  · rw [List.getD_eq_getElem?_getD, List.getElem?_eq_getElem hi]
    exact h.2 _ (List.getElem_mem hi)
  · dsimp only at e
    rw [List.getD_eq_getElem?_getD, List.getD_eq_getElem?_getD, List.getElem?_eq_getElem hj, List.getElem?_eq_getElem (show i < st.length by omega)] at e
    exact (List.pairwise_iff_getElem.1 h.1 i j (by omega) hj hij) e
section
variable {T : Tab} {c : Nat → Nat}
theorem bfs_uniq (hT : T.Ok) (hc : ∀ q, q < T.n → c q < T.n) (q : Nat) (hq : q < T.n) : ∀ i, Uniq T.n (bfs T c q i)
  | 0 => ⟨by simp [bfs], fun s hs => by simp [bfs] at hs; subst hs; exact hc q hq⟩
  | i + 1 => by
    have ih := bfs_uniq hT hc q hq i
    unfold bfs
    split
    · rename_i s hs
      exact Uniq.meets hT hc (ih.2 s (List.mem_of_getElem? hs)) ih T.L (Nat.le_refl _)
    · exact ih
theorem bfs_some (T : Tab) (c : Nat → Nat) {q i s : Nat} (h : (bfs T c q i)[i]? = some s) : bfs T c q (i + 1) = meets T c s (bfs T c q i) T.L := by rw [bfs, h]
theorem bfs_none (T : Tab) (c : Nat → Nat) {q i : Nat} (h : (bfs T c q i).length ≤ i) : bfs T c q (i + 1) = bfs T c q i := by rw [bfs, List.getElem?_eq_none h]
theorem bfs_stay (T : Tab) (c : Nat → Nat) {q i : Nat} (h : (bfs T c q i).length ≤ i) : ∀ d, bfs T c q (i + d) = bfs T c q i
  | 0 => rfl
  | d + 1 => by
    have ih := bfs_stay T c h d
    rw [← ih, show i + (d + 1) = (i + d) + 1 by omega]
    exact bfs_none T c (by rw [ih]; omega)
theorem fin_of (hT : T.Ok) (hc : ∀ q, q < T.n → c q < T.n) {q i : Nat} (hq : q < T.n) (hi : (bfs T c q i).length = i) : fin T c q = bfs T c q i := by
  have h1 := (bfs_uniq hT hc q hq i).len
  have := bfs_stay T c (q := q) (i := i) (by omega) (T.n - i)
  rwa [show i + (T.n - i) = T.n by omega] at this
theorem bfs_pre (T : Tab) (c : Nat → Nat) (q i : Nat) : ∀ d, ∃ r, bfs T c q (i + d) = bfs T c q i ++ r
  | 0 => ⟨[], by simp⟩
  | d + 1 => by
    obtain ⟨r, hr⟩ := bfs_pre T c q i d
    rw [show i + (d + 1) = (i + d) + 1 by omega]
    cases h : (bfs T c q (i + d))[i + d]? with
    | some s =>
      obtain ⟨r', hr'⟩ := meets_pre T c s (bfs T c q (i + d)) T.L
      exact ⟨r ++ r', by rw [bfs_some T c h, hr', hr, List.append_assoc]⟩
    | none => exact ⟨r, by rw [bfs, h]; exact hr⟩
/-- What is met goes on within what is met. -/
theorem fin_closed (hT : T.Ok) (hc : ∀ q, q < T.n → c q < T.n) {q : Nat} (hq : q < T.n) : ∀ s, s ∈ fin T c q → ∀ x, x < T.L → c (T.nx s x) ∈ fin T c q := by
  intro s hs x hx
  obtain ⟨i, hi, rfl⟩ := List.getElem_of_mem hs
  have hlen := (bfs_uniq hT hc q hq T.n).len
  have hi' : i < T.n := Nat.lt_of_lt_of_le hi hlen
  -- the list before round i has the element, for all rounds behind are its continuations
  have key : ∀ j, j ≤ T.n → (bfs T c q j).length ≤ j → bfs T c q j = fin T c q := fun j hj hl => by
    have := bfs_stay T c hl (T.n - j)
    rw [show j + (T.n - j) = T.n by omega] at this
    exact this.symm
  by_cases hl : (bfs T c q i).length ≤ i
  · have := key i (by omega) hl
    rw [← this] at hi
    omega
  · obtain ⟨r, hr⟩ := bfs_pre T c q i (T.n - i)
    rw [show i + (T.n - i) = T.n by omega] at hr
    have hr' : fin T c q = bfs T c q i ++ r := hr
    have hg : (bfs T c q i)[i]? = some (fin T c q)[i] := by
      have h1 : (bfs T c q i ++ r)[i]? = some (fin T c q)[i] := by rw [← hr']; exact List.getElem?_eq_getElem hi
      rwa [List.getElem?_append_left (by omega)] at h1
    obtain ⟨r2, hr2⟩ := bfs_pre T c q (i + 1) (T.n - (i + 1))
    rw [show i + 1 + (T.n - (i + 1)) = T.n by omega] at hr2
    have hm := meets_mem T c (fin T c q)[i] (bfs T c q i) T.L x hx
    rw [← bfs_some T c hg] at hm
    show c (T.nx (fin T c q)[i] x) ∈ bfs T c q T.n
    rw [hr2]
    exact List.mem_append_left _ hm
theorem fin_pos (T : Tab) (c : Nat → Nat) (q : Nat) : 0 < (fin T c q).length := by
  obtain ⟨r, hr⟩ := bfs_pre T c q 0 T.n
  rw [Nat.zero_add] at hr
  unfold fin
  rw [hr]; simp [bfs]
end

/-- The machine of some states, as far as it is written: i rows, and x letters of the next one. -/
def gthP (T : Tab) (c : Nat → Nat) (st : List Nat) (i x : Nat) : Mach :=
  ⟨T.L, st.length, fun p => if (p / 3 < i ∨ p / 3 = i ∧ p % 3 < x) ∧ p % 3 < T.L then st.idxOf (c (T.nx (st.getD (p / 3) 0) (p % 3))) else 0,
   fun p => if (p / 3 < i ∨ p / 3 = i ∧ p % 3 < x) ∧ p % 3 < T.L then T.ot (st.getD (p / 3) 0) (p % 3) else 0⟩
def gth (T : Tab) (c : Nat → Nat) (st : List Nat) : Mach := gthP T c st st.length 0
theorem gthP_row (T : Tab) (c : Nat → Nat) (st : List Nat) (i : Nat) (hL : T.L ≤ 3) : gthP T c st i T.L = gthP T c st (i + 1) 0 := by
  have e : ∀ p, ((p / 3 < i ∨ p / 3 = i ∧ p % 3 < T.L) ∧ p % 3 < T.L) = ((p / 3 < i + 1 ∨ p / 3 = i + 1 ∧ p % 3 < 0) ∧ p % 3 < T.L) := fun p => by
    apply propext
    constructor
    · rintro ⟨h1, h2⟩; exact ⟨by omega, h2⟩
    · rintro ⟨h1, h2⟩; exact ⟨by omega, h2⟩
  unfold gthP
  simp only [e]
theorem gthP_zero (T : Tab) (c : Nat → Nat) (st : List Nat) : gthP T c st 0 0 = ⟨T.L, st.length, fun _ => 0, fun _ => 0⟩ := by
  have e : ∀ p, ((p / 3 < 0 ∨ p / 3 = 0 ∧ p % 3 < 0) ∧ p % 3 < T.L) = False := fun p => by
    apply propext
    constructor
    · rintro ⟨h1, h2⟩; omega
    · exact False.elim
  unfold gthP
  simp only [e, if_false]
theorem gthP_step (T : Tab) (c : Nat → Nat) (st : List Nat) (i x s : Nat) (hx : x < T.L) (hL : T.L ≤ 3) (hs : st[i]? = some s) :
    gthP T c st i (x + 1) = { (gthP T c st i x) with nx := upd (gthP T c st i x).nx (i * 3 + x) (st.idxOf (c (T.nx s x))), ot := upd (gthP T c st i x).ot (i * 3 + x) (T.ot s x) } := by
  have hg : st.getD i 0 = s := by rw [List.getD_eq_getElem?_getD, hs]; rfl
  unfold gthP upd
  dsimp only
  congr 1
  · funext p
    by_cases e : p = i * 3 + x
    · subst e
      rw [if_pos rfl, show (i * 3 + x) / 3 = i by omega, show (i * 3 + x) % 3 = x by omega, if_pos (by omega), hg]
    · rw [if_neg e]
      by_cases h : (p / 3 < i ∨ p / 3 = i ∧ p % 3 < x) ∧ p % 3 < T.L
      · rw [if_pos h, if_pos (by omega)]
      · rw [if_neg h, if_neg (by omega)]
  · funext p
    by_cases e : p = i * 3 + x
    · subst e
      rw [if_pos rfl, show (i * 3 + x) / 3 = i by omega, show (i * 3 + x) % 3 = x by omega, if_pos (by omega), hg]
    · rw [if_neg e]
      by_cases h : (p / 3 < i ∨ p / 3 = i ∧ p % 3 < x) ∧ p % 3 < T.L
      · rw [if_pos h, if_pos (by omega)]
      · rw [if_neg h, if_neg (by omega)]
/-- The machine of the state q of a table; no machine if it has too many states. -/
def fromM (T : Tab) (q : Nat) : Mach := if (fin T (fix T) q).length ≤ 16 then gth T (fix T) (fin T (fix T) q) else ⟨0, 0, fun _ => 0, fun _ => 0⟩
def fromC (T : Tab) (q : Nat) : Int := if (fin T (fix T) q).length ≤ 16 then 0 else 3
theorem mem_idxOf_lt {l : List Nat} {a : Nat} (h : a ∈ l) : l.idxOf a < l.length := List.idxOf_lt_length_of_mem h
end Go.Proofs.Ythempofohidlnaa
