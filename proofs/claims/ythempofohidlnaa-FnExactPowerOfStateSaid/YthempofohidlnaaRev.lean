/- Reversible machines: the program's isReversible and the reference's l07Reversible say the same. -/
import Derived.Test.YthempofohidlnaaToM
import Derived.Test.YthempofohidlnaaPigeon
namespace Go.Proofs.Ythempofohidlnaa
open Go.RowKit
set_option linter.unusedVariables false
set_option linter.unusedSimpArgs false

/-- What is known of a machine with l letters and s states. -/
structure Good (m : Mach) (l s : Nat) : Prop where
  L : m.L = l
  S : m.S = s
  l2 : 2 ≤ l
  l3 : l ≤ 3
  s1 : 1 ≤ s
  s16 : s ≤ 16
  nx : ∀ q x, q < s → x < l → m.nx (q * 3 + x) < s
  ot : ∀ q x, q < s → x < l → m.ot (q * 3 + x) < l
  inj : ∀ q, q < s → ∀ y x, y < x → x < l → m.ot (q * 3 + y) ≠ m.ot (q * 3 + x)
  z : ∀ q x, q < 16 → x < 3 → ¬ (q < s ∧ x < l) → m.nx (q * 3 + x) = 0 ∧ m.ot (q * 3 + x) = 0

theorem IsM.good {m : Mach} (h : IsM m) : ∃ l s, Good m l s := by
  obtain ⟨h1, h2, h3, h4, h5⟩ := h
  obtain ⟨l, hl⟩ := Int.eq_ofNat_of_zero_le (show 0 ≤ m.L by omega)
  obtain ⟨s, hs⟩ := Int.eq_ofNat_of_zero_le (show 0 ≤ m.S by omega)
  have cell : ∀ q x, q < s → x < l → (m.nx (q * 3 + x) : Int) < m.S ∧ (m.ot (q * 3 + x) : Int) < m.L ∧ ∀ y, y < x → m.ot (q * 3 + y) ≠ m.ot (q * 3 + x) := fun q x hq hx => by
    have := h5 q (by omega) x (by omega)
    unfold CellOk at this
    rw [if_pos ⟨by omega, by omega⟩] at this
    exact this
  refine ⟨l, s, hl, hs, by omega, by omega, by omega, by omega, fun q x hq hx => ?_, fun q x hq hx => ?_, fun q hq y x hy hx => (cell q x hq hx).2.2 y hy, fun q x hq hx hn => ?_⟩
  · have := (cell q x hq hx).1; omega
  · have := (cell q x hq hx).2.1; omega
  · have := h5 q hq x hx
    unfold CellOk at this
    rw [if_neg (by omega)] at this
    exact this

theorem Good.isM {m : Mach} {l s : Nat} (g : Good m l s) : IsM m := by
  have := g.L; have := g.S; have := g.l2; have := g.l3; have := g.s1; have := g.s16
  refine ⟨by omega, by omega, by omega, by omega, fun q hq x hx => ?_⟩
  unfold CellOk
  by_cases h : (q : Int) < m.S ∧ (x : Int) < m.L
  · rw [if_pos h]
    have a := g.nx q x (by omega) (by omega)
    have b := g.ot q x (by omega) (by omega)
    exact ⟨by omega, by omega, fun y hy => g.inj q (by omega) y x hy (by omega)⟩
  · rw [if_neg h]
    exact g.z q x hq hx (by omega)

/-- Each letter leads all states to different ones. -/
def RevP (m : Mach) (l s : Nat) : Prop := ∀ x, x < l → InjOn (fun q => m.nx (q * 3 + x)) s

theorem two_pow_i64 (n : Nat) (h : n ≤ 16) : wrap64 (2 ^ n) = ((2 ^ n : Nat) : Int) := by
  have h1 : 2 ^ n ≤ 2 ^ 16 := Nat.pow_le_pow_right (by omega) h
  have h2 : (2 : Nat) ^ 16 = 65536 := by decide
  have e : ((2 : Int) ^ n) = ((2 ^ n : Nat) : Int) := by simp
  rw [e]
  generalize (2 ^ n : Nat) = p at *
  exact w64 (by omega) (by omega)
theorem two_pow_lt (n : Nat) (h : n ≤ 16) : 2 ^ n < 9223372036854775808 := by
  have h1 : 2 ^ n ≤ 2 ^ 16 := Nat.pow_le_pow_right (by omega) h
  have h2 : (2 : Nat) ^ 16 = 65536 := by decide
  omega


/-- The marks of the numbers met so far. -/
def seen (f : Nat → Nat) : Nat → Nat → Bool
  | 0, _ => false
  | q + 1, j => if j = f q then true else seen f q j
theorem seen_iff (f : Nat → Nat) : ∀ q k, seen f q k = true ↔ ∃ p, p < q ∧ f p = k
  | 0, k => by simp [seen]
  | q + 1, k => by
    unfold seen
    by_cases h : k = f q
    · rw [if_pos h]; exact ⟨fun _ => ⟨q, by omega, h.symm⟩, fun _ => rfl⟩
    · rw [if_neg h, seen_iff f q k]
      refine ⟨fun ⟨p, hp, e⟩ => ⟨p, by omega, e⟩, fun ⟨p, hp, e⟩ => ⟨p, ?_, e⟩⟩
      by_cases e2 : p = q
      · subst e2; exact absurd e.symm h
      · omega

theorem bools_const (k : Nat) : (rowL k (bools fun _ => false)) = List.replicate k (.bool false) := by
  induction k with
  | zero => rfl
  | succ k ih =>
    unfold rowL at *
    rw [List.range_succ, List.map_append, ih, List.replicate_succ']
    rfl

end Go.Proofs.Ythempofohidlnaa
