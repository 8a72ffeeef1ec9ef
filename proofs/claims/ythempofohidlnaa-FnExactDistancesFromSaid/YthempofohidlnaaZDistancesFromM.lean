/- What the proof of DistancesFrom leans on, part 13 of 15. -/
import Derived.Test.YthempofohidlnaaZDistancesFromL
/- The tree of a word: where each word was met from (plain law). -/
namespace Go.Proofs.Ythempofohidlnaa
set_option linter.unusedVariables false
set_option linter.unusedSimpArgs false

/-- What one step writes down of where a word was met from, and by which step. -/
def meetF (t : Tr) (X : List Int × List Int) (fr tx : Nat) (st : Int) : List Int × List Int :=
  if t.far.getD tx 0 < 0 then (X.1.set tx (fr : Int), X.2.set tx st) else X
structure Lk (n k : Nat) (t : Tr) (X : List Int × List Int) : Prop where
  l1 : X.1.length = n
  l2 : X.2.length = n
  q0 : t.q[0]? = some k
  wk : t.ways[k]? = some []
  lk : ∀ x ∈ t.q, x = k ∨ ∃ (f : Nat) (st : Int) (u : List Int), X.1[x]? = some (f : Int) ∧ X.2[x]? = some st ∧ f ∈ t.q ∧ t.ways[f]? = some u ∧ t.ways[x]? = some (u ++ [st])
theorem Lk.zero {n k : Nat} (hk : k < n) : Lk n k (tr0 n k) (List.replicate n 0, List.replicate n 0) where
  l1 := by simp
  l2 := by simp
  q0 := rfl
  wk := by simp [tr0, hk]
  lk := fun x hx => by simp [tr0] at hx; exact .inl hx
theorem Lk.meet {n k : Nat} {t : Tr} {X : List Int × List Int} (h : Lk n k t X) (ok : TrOk n t) {fr tx : Nat} (st : Int) (hfr : fr ∈ t.q) (hto : tx < n) : Lk n k (meetT t fr tx st) (meetF t X fr tx st) := by
  unfold meetT meetF
  split
  · rename_i hneg
    have hfn := ok.qb fr hfr
    have e1 : t.far[tx]? = some (t.far.getD tx 0) := by
      rw [List.getD_eq_getElem?_getD, List.getElem?_eq_getElem (by rw [ok.fl]; exact hto)]; rfl
    have e3 : t.ways[fr]? = some (t.ways.getD fr []) := by
      rw [List.getD_eq_getElem?_getD, List.getElem?_eq_getElem (by rw [ok.wl]; exact hfn)]; rfl
    have hnq : tx ∉ t.q := by
      rcases ok.fb tx _ e1 with h1 | h1
      · exact h1.2
      · omega
    have hne : ∀ x ∈ t.q, tx ≠ x := fun x hx e => hnq (e ▸ hx)
    have hkq : k ∈ t.q := List.mem_of_getElem? h.q0
    exact {
      l1 := by simp [h.l1]
      l2 := by simp [h.l2]
      q0 := by
        show (t.q ++ [tx])[0]? = some k
        rw [List.getElem?_append_left (List.getElem?_eq_some_iff.1 h.q0).1]; exact h.q0
      wk := by
        show (t.ways.set tx _)[k]? = some []
        rw [List.getElem?_set, if_neg (hne k hkq)]; exact h.wk
      lk := fun x hx => by
        rcases List.mem_append.1 hx with hx | hx
        · rcases h.lk x hx with h1 | ⟨f, s, u, h1, h2, h3, h4, h5⟩
          · exact .inl h1
          · refine .inr ⟨f, s, u, ?_, ?_, by simp [h3], ?_, ?_⟩
            · simp only [List.getElem?_set, if_neg (hne x hx)]; exact h1
            · simp only [List.getElem?_set, if_neg (hne x hx)]; exact h2
            · simp only [List.getElem?_set, if_neg (hne f h3)]; exact h4
            · simp only [List.getElem?_set, if_neg (hne x hx)]; exact h5
        · simp at hx
          subst hx
          refine .inr ⟨fr, st, t.ways.getD fr [], ?_, ?_, by simp [hfr], ?_, ?_⟩
          · simp only [List.getElem?_set, h.l1, hto, if_true]
          · simp only [List.getElem?_set, h.l2, hto, if_true]
          · simp only [List.getElem?_set, if_neg (hne fr hfr)]; exact e3
          · simp only [List.getElem?_set, ok.wl, hto, if_true] }
  · exact h
/-- A word's way by the links. -/
theorem Lk.way {n k : Nat} {t : Tr} {X : List Int × List Int} (h : Lk n k t X) (ok : TrOk n t) {x : Nat} (hx : x ∈ t.q) : x = k ∧ t.ways[x]? = some [] ∨ ∃ (f : Nat) (st : Int) (u : List Int), x ≠ k ∧ X.1[x]? = some (f : Int) ∧ X.2[x]? = some st ∧ f ∈ t.q ∧ t.ways[f]? = some u ∧ t.ways[x]? = some (u ++ [st]) := by
  by_cases e : x = k
  · exact .inl ⟨e, e ▸ h.wk⟩
  · rcases h.lk x hx with h1 | ⟨f, s, u, h1⟩
    · exact absurd h1 e
    · exact .inr ⟨f, s, u, e, h1⟩
end Go.Proofs.Ythempofohidlnaa
