/- A machine as an argument: what is handed in reads as a Mach. -/
import Derived.Test.YthempofohidlnaaToM
import Derived.Carry
import Derived.ProofKit
import Derived.OpenShut
namespace Go.Proofs.Ythempofohidlnaa
open Go.RowKit
set_option linter.unusedVariables false
set_option linter.unusedSimpArgs false

theorem laidOut : laidOutB Try.prog = true := by kernel_rfl
theorem readable_mach : Try.prog.readableRec 32 = true := by kernel_rfl

theorem cell_i64 {P : Program} {u : TypeId} (hu : P.underlying u = some (.int .i64)) {W : World} {base : Nat} {v : Value} (h : Cell.okWide P W .any base u v) : ∃ n, v = .int .i64 n := by
  unfold Cell.okWide Cell.ok at h
  rw [hu] at h
  cases v <;> simp_all
theorem cell_u8 {P : Program} {u : TypeId} (hu : P.underlying u = some (.int .u8)) {W : World} {base : Nat} {v : Value} (h : Cell.okWide P W .any base u v) : ∃ n : Nat, v = .int .u8 n ∧ n < 256 := by
  unfold Cell.okWide Cell.ok at h
  rw [hu] at h
  cases v with
  | int k n =>
    simp only at h
    obtain ⟨rfl, hn⟩ := h
    unfold IntKind.has at hn
    have h0 : IntKind.u8.min = 0 := by decide
    have h1 : IntKind.u8.max = 255 := by decide
    rw [h0, h1] at hn
    exact ⟨n.toNat, by congr 1; omega, by omega⟩
  | _ => simp_all

theorem open_mach0 {P : Program} {t t2 t5 : TypeId} {fs : Array Field} (ht : P.underlying t = some (.struct fs)) (h64 : P.underlying t2 = some (.int .i64)) (h8 : P.underlying t5 = some (.int .u8))
    (hct : P.cellTypes P.depth t = some (t2 :: t2 :: List.replicate 96 t5)) (hco : P.cellsOf t = 98)
    {W : World} {base : Nat} {v : Value} (h : Value.okWide P W .any base t v) : ∃ m : Mach, v = .agg (mcells m) ∧ m.Ok := by
  unfold Value.okWide at h
  rw [ht] at h
  obtain ⟨cs, rfl, hsz, ts, hts, _, hcell⟩ := h
  rw [hct] at hts
  obtain rfl := Option.some.inj hts
  rw [hco] at hsz
  have hlen : (t2 :: t2 :: List.replicate 96 t5).length = 98 := by simp
  rw [hlen] at hcell
  have hget : ∀ i, (h : i < 98) → cs[i]? = some (cs[i]'(by omega)) := fun i h => Array.getElem?_eq_getElem _
  have c0 : ∃ n, cs[0]? = some (.int .i64 n) := by
    obtain ⟨u, hu, ho⟩ := hcell 0 _ (hget 0 (by omega))
    simp at hu
    subst hu
    obtain ⟨n, hn⟩ := cell_i64 h64 ho
    exact ⟨n, by rw [hget 0 (by omega), hn]⟩
  have c1 : ∃ n, cs[1]? = some (.int .i64 n) := by
    obtain ⟨u, hu, ho⟩ := hcell 1 _ (hget 1 (by omega))
    simp at hu
    subst hu
    obtain ⟨n, hn⟩ := cell_i64 h64 ho
    exact ⟨n, by rw [hget 1 (by omega), hn]⟩
  have cb : ∀ i, 2 ≤ i → i < 98 → ∃ n : Nat, cs[i]? = some (.int .u8 n) ∧ n < 256 := fun i h2 hi => by
    obtain ⟨u, hu, ho⟩ := hcell i _ (hget i hi)
    rw [Nat.mod_eq_of_lt hi] at hu
    obtain ⟨j, rfl⟩ : ∃ j, i = j + 2 := ⟨i - 2, by omega⟩
    rw [List.getElem?_cons_succ, List.getElem?_cons_succ, List.getElem?_replicate, if_pos (by omega)] at hu
    obtain rfl := Option.some.inj hu
    obtain ⟨n, hn, hlt⟩ := cell_u8 h8 ho
    exact ⟨n, by rw [hget _ hi, hn], hlt⟩
  obtain ⟨L, hL⟩ := c0
  obtain ⟨S, hS⟩ := c1
  have hb : ∀ i, ∃ n : Nat, n < 256 ∧ (2 ≤ i → i < 98 → cs[i]? = some (.int .u8 n)) := fun i => by
    by_cases h : 2 ≤ i ∧ i < 98
    · obtain ⟨n, hn, hlt⟩ := cb i h.1 h.2
      exact ⟨n, hlt, fun _ _ => hn⟩
    · exact ⟨0, by omega, fun a b => absurd ⟨a, b⟩ h⟩
  refine ⟨⟨L, S, fun i => if i < 48 then Classical.choose (hb (2 + i)) else 0, fun i => if i < 48 then Classical.choose (hb (50 + i)) else 0⟩, ?_, fun i => ⟨?_, ?_⟩⟩
  · congr 1
    apply Array.ext (by rw [hsz, size_mcells])
    intro i h1 h2
    have hi : i < 98 := by omega
    have e2 := mcells_get ⟨L, S, fun i => if i < 48 then Classical.choose (hb (2 + i)) else 0, fun i => if i < 48 then Classical.choose (hb (50 + i)) else 0⟩ i hi
    rw [Array.getElem?_eq_getElem h2] at e2
    have e1 : cs[i]? = some (mf ⟨L, S, fun i => if i < 48 then Classical.choose (hb (2 + i)) else 0, fun i => if i < 48 then Classical.choose (hb (50 + i)) else 0⟩ i) := by
      unfold mf
      by_cases a0 : i = 0
      · subst a0; exact hL
      · by_cases a1 : i = 1
        · subst a1; exact hS
        · rw [if_neg a0, if_neg a1]
          by_cases a2 : i < 50
          · rw [if_pos a2]
            dsimp only
            rw [if_pos (by omega)]
            have := (Classical.choose_spec (hb (2 + (i - 2)))).2 (by omega) (by omega)
            rw [← this]
            congr 1; omega
          · rw [if_neg a2]
            dsimp only
            rw [if_pos (by omega)]
            have := (Classical.choose_spec (hb (50 + (i - 50)))).2 (by omega) (by omega)
            rw [← this]
            congr 1; omega
    rw [Array.getElem?_eq_getElem h1] at e1
    exact (Option.some.inj e1).trans (Option.some.inj e2).symm
  · dsimp only
    split
    · exact (Classical.choose_spec (hb (2 + i))).1
    · omega
  · dsimp only
    split
    · exact (Classical.choose_spec (hb (50 + i))).1
    · omega

set_option maxRecDepth 1000000 in
theorem open_mach {W : World} {base : Nat} {v : Value} (h : Value.okWide Try.prog W .any base 32 v) : ∃ m : Mach, v = .agg (mcells m) ∧ m.Ok := by
  refine open_mach0 (P := Try.prog) (t := 32) (t2 := 2) (t5 := 5) Try.underlying32 Try.underlying2 Try.underlying5 ?_ ?_ h
  · kernel_rfl
  · kernel_rfl
end Go.Proofs.Ythempofohidlnaa
