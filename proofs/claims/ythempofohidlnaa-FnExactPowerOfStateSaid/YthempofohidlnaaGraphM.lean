/- Levels of machines: their codes, and what states and their inverses make of them. -/
import Derived.Test.YthempofohidlnaaCode
namespace Go.Proofs.Ythempofohidlnaa
open Go.RowKit
set_option linter.unusedVariables false
set_option linter.unusedSimpArgs false

theorem pw_small (l n : Nat) (hl : l ≤ 3) (hn : n ≤ 5) : pw l n ≤ 243 := by
  have : ∀ a : Fin 4, ∀ b : Fin 6, pw a b ≤ 243 := by decide
  exact this ⟨l, by omega⟩ ⟨n, by omega⟩

open Classical in
/-- The code of a machine and a level. -/
noncomputable def levelI (m : Mach) (n : Int) : Int := if IsM m then if 0 ≤ n ∧ n ≤ 7 - m.L then 0 else 2 else 1
theorem levelI_1 {m : Mach} {n : Int} (h : ¬ IsM m) : levelI m n = 1 := by unfold levelI; rw [if_neg h]
theorem levelI_2 {m : Mach} {n : Int} {l s : Nat} (g : Good m l s) (h : ¬ (0 ≤ n ∧ n ≤ 7 - (l : Int))) : levelI m n = 2 := by unfold levelI; rw [if_pos g.isM, g.L, if_neg h]
theorem levelI_0 {m : Mach} {n : Int} {l s : Nat} (g : Good m l s) (h : 0 ≤ n ∧ n ≤ 7 - (l : Int)) : levelI m n = 0 := by unfold levelI; rw [if_pos g.isM, g.L, if_pos h]

set_option maxHeartbeats 1000000 in
theorem isLevel_any (b : Nat) (w : World) (m : Mach) (hm : MB w 34 b m) (l s : Nat) (g : Good m l s) (n : Int) (r : Bool) (hr : r = decide (0 ≤ n ∧ n ≤ 7 - (l : Int))) :
    Calls Try.prog 138 #[.pointer (some ⟨b, 0, none⟩), .int .i64 n] w fun e w' => e = .returned (.bool r) ∧ w = w' := by
  have cL := hm.cL
  rw [g.L] at cL
  have l2 := g.l2
  have l3 := g.l3
  clear hm g
  by_cases h5 : 0 ≤ n ∧ n ≤ 5
  · have hin := hid (fun W => within_any n 0 5 true (decide_eq_true h5).symm W)
    by_cases hl : l = 2
    · subst hl
      have hr' : r = true := by rw [hr]; exact decide_eq_true (by omega)
      subst hr'
      clear hr h5
      go_enter Try.func138, Try.ntmps138
      go_wp2_with (first
        | (go_at_call 62; (with_reducible refine (hin.out _).mono ?_); rintro e w1 ⟨rfl, rfl⟩))
      go_ret
      exact ⟨rfl, rfl⟩
    · have hl' : l = 3 := by omega
      subst hl'
      have hr' : r = decide (n < 5) := by rw [hr]; congr 1; apply propext; omega
      subst hr'
      clear hr
      go_enter Try.func138, Try.ntmps138
      go_wp2_with (first
        | (go_at_call 62; (with_reducible refine (hin.out _).mono ?_); rintro e w1 ⟨rfl, rfl⟩))
      go_ret
      exact ⟨rfl, rfl⟩
  · have hin := hid (fun W => within_any n 0 5 false (decide_eq_false h5).symm W)
    have hr' : r = false := by rw [hr]; exact decide_eq_false (by omega)
    subst hr'
    clear hr h5
    go_enter Try.func138, Try.ntmps138
    go_wp2_with (first
      | (go_at_call 62; (with_reducible refine (hin.out _).mono ?_); rintro e w1 ⟨rfl, rfl⟩))
    go_ret
    exact ⟨rfl, rfl⟩

set_option maxHeartbeats 1000000 in
theorem levelCode_any (w : World) (m : Mach) (hk : m.Ok) (n : Int) :
    Calls Try.prog 86 #[.agg (mcells m), .int .i64 n] w fun e w' => e = .returned (.int .i64 (levelI m n)) ∧ Below w.heap.size w w' := by
  have hM := hid (MB.new w m 34)
  have hB := hid (below_alloc (Below.refl w.heap.size w) (Nat.le_refl _) (.cells (mcells m) 34))
  by_cases hm : IsM m
  · obtain ⟨l, s, g⟩ := hm.good
    have hi := hid (show Tells true (IsM m) from ⟨fun _ => hm, fun _ => rfl⟩)
    by_cases hn : 0 ≤ n ∧ n ≤ 7 - (l : Int)
    · rw [levelI_0 g hn]
      have hl := hid (fun W hW => isLevel_any w.heap.size W m hW l s g n true (decide_eq_true hn).symm)
      replace hk := hid hk; clear hm hn g
      go_enter Try.func86, Try.ntmps86
      go_wp2_with (first
        | ((with_reducible refine gate (N := 6) rfl ?_); refine load_mach rfl _ rfl w.heap.size rfl m hM.out ?_)
        | (go_at_call 113; (with_reducible refine (IsMachine_any _ m hk.out true hi.out.out).mono ?_); rintro e w1 ⟨rfl, hb⟩; have hM2 := hid (hM.out.below hb hM.out.lt); have hB2 := hid (hB.out.trans (hb.mono hB.out.size)); clear hb hM hB hi)
        | (go_at_call 138; (with_reducible refine (hl.out _ hM2.out).mono ?_); rintro e w3 ⟨rfl, rfl⟩))
      go_ret
      exact ⟨rfl, hB2.out⟩
    · rw [levelI_2 g hn]
      have hl := hid (fun W hW => isLevel_any w.heap.size W m hW l s g n false (decide_eq_false hn).symm)
      replace hk := hid hk; clear hm hn g
      go_enter Try.func86, Try.ntmps86
      go_wp2_with (first
        | ((with_reducible refine gate (N := 6) rfl ?_); refine load_mach rfl _ rfl w.heap.size rfl m hM.out ?_)
        | (go_at_call 113; (with_reducible refine (IsMachine_any _ m hk.out true hi.out.out).mono ?_); rintro e w1 ⟨rfl, hb⟩; have hM2 := hid (hM.out.below hb hM.out.lt); have hB2 := hid (hB.out.trans (hb.mono hB.out.size)); clear hb hM hB hi)
        | (go_at_call 138; (with_reducible refine (hl.out _ hM2.out).mono ?_); rintro e w3 ⟨rfl, rfl⟩))
      go_ret
      exact ⟨rfl, hB2.out⟩
  · rw [levelI_1 hm]
    have hi := hid (show Tells false (IsM m) from ⟨fun h => (by cases h), fun h => absurd h hm⟩)
    replace hk := hid hk; clear hm
    go_enter Try.func86, Try.ntmps86
    go_wp2_with (first
      | ((with_reducible refine gate (N := 6) rfl ?_); refine load_mach rfl _ rfl w.heap.size rfl m hM.out ?_)
      | (go_at_call 113; (with_reducible refine (IsMachine_any _ m hk.out false hi.out.out).mono ?_); rintro e w1 ⟨rfl, hb⟩; have hB2 := hid (hB.out.trans (hb.mono hB.out.size)); clear hb hM hB hi))
    go_ret
    exact ⟨rfl, hB2.out⟩

set_option maxHeartbeats 1000000 in
theorem l05Code_any (w : World) (m : Mach) (hk : m.Ok) (n : Int) :
    Calls Try.prog 90 #[.agg (mcells m), .int .i64 n] w fun e w' => e = .returned (.int .i64 (levelI m n)) ∧ Below w.heap.size w w' := by
  have hM := hid (MB.new w m 34)
  have hB := hid (below_alloc (Below.refl w.heap.size w) (Nat.le_refl _) (.cells (mcells m) 34))
  by_cases hm : IsM m
  · obtain ⟨l, s, g⟩ := hm.good
    have hi := hid (show Tells true (IsM m) from ⟨fun _ => hm, fun _ => rfl⟩)
    have gL := hid g.L
    have l2 := g.l2
    have l3 := g.l3
    by_cases hn : 0 ≤ n ∧ n ≤ 7 - (l : Int)
    · rw [levelI_0 g hn]
      have hl := hid (fun W => l01In_any n 0 (7 - (l : Int)) true (decide_eq_true hn).symm W)
      replace hk := hid hk; clear hm hn g
      go_enter Try.func90, Try.ntmps90
      go_wp2_with (first
        | ((with_reducible refine gate (N := 6) rfl ?_); refine load_mach rfl _ rfl w.heap.size rfl m hM.out ?_)
        | (go_at_call 57; (with_reducible refine (l01Is_any _ m hk.out true hi.out.out).mono ?_); rintro e w1 ⟨rfl, hb⟩; have hM2 := hid (hM.out.below hb hM.out.lt); have hB2 := hid (hB.out.trans (hb.mono hB.out.size)); have cL := hM2.out.cL; rw [gL.out] at cL; clear hb hM hB hi)
        | (go_at_call 58; (with_reducible refine (hl.out _).mono ?_); rintro e w3 ⟨rfl, rfl⟩))
      go_ret
      exact ⟨rfl, hB2.out⟩
    · rw [levelI_2 g hn]
      have hl := hid (fun W => l01In_any n 0 (7 - (l : Int)) false (decide_eq_false hn).symm W)
      replace hk := hid hk; clear hm hn g
      go_enter Try.func90, Try.ntmps90
      go_wp2_with (first
        | ((with_reducible refine gate (N := 6) rfl ?_); refine load_mach rfl _ rfl w.heap.size rfl m hM.out ?_)
        | (go_at_call 57; (with_reducible refine (l01Is_any _ m hk.out true hi.out.out).mono ?_); rintro e w1 ⟨rfl, hb⟩; have hM2 := hid (hM.out.below hb hM.out.lt); have hB2 := hid (hB.out.trans (hb.mono hB.out.size)); have cL := hM2.out.cL; rw [gL.out] at cL; clear hb hM hB hi)
        | (go_at_call 58; (with_reducible refine (hl.out _).mono ?_); rintro e w3 ⟨rfl, rfl⟩))
      go_ret
      exact ⟨rfl, hB2.out⟩
  · rw [levelI_1 hm]
    have hi := hid (show Tells false (IsM m) from ⟨fun h => (by cases h), fun h => absurd h hm⟩)
    replace hk := hid hk; clear hm
    go_enter Try.func90, Try.ntmps90
    go_wp2_with (first
      | ((with_reducible refine gate (N := 6) rfl ?_); refine load_mach rfl _ rfl w.heap.size rfl m hM.out ?_)
      | (go_at_call 57; (with_reducible refine (l01Is_any _ m hk.out false hi.out.out).mono ?_); rintro e w1 ⟨rfl, hb⟩; have hB2 := hid (hB.out.trans (hb.mono hB.out.size)); clear hb hM hB hi))
    go_ret
    exact ⟨rfl, hB2.out⟩

/-! ### What a state and its inverse make of a level undo each other -/
theorem inv_cells {m : Mach} {l s : Nat} (g : Good m l s) (q y : Nat) (hq : q < s) (hy : y < l) :
    (inv m l s).nx (q * 3 + m.ot (q * 3 + y)) = m.nx (q * 3 + y) ∧ (inv m l s).ot (q * 3 + m.ot (q * 3 + y)) = y := allI_in m l g.l3 s g.ot g.inj q y hq hy
theorem out_surj {m : Mach} {l s : Nat} (g : Good m l s) (q x : Nat) (hq : q < s) (hx : x < l) : ∃ y, y < l ∧ m.ot (q * 3 + y) = x :=
  surj_of_inj (f := fun y => m.ot (q * 3 + y)) (fun y hy => g.ot q y hq hy) (fun y x hy hx => g.inj q hq y x hy hx) x hx
theorem img_inv {m : Mach} {l s : Nat} (g : Good m l s) : ∀ (u : List Nat) (q : Nat), q < s → (∀ x ∈ u, x < l) → img (inv m l s) q (img m q u) = u ∧ sec (inv m l s) q (img m q u) = sec m q u
  | [], _, _, _ => ⟨rfl, rfl⟩
  | x :: u, q, hq, hu => by
    have hx := hu x (by simp)
    obtain ⟨h1, h2⟩ := inv_cells g q x hq hx
    have ih := img_inv g u (m.nx (q * 3 + x)) (g.nx q x hq hx) (fun y hy => hu y (by simp [hy]))
    simp only [img, sec, h1, h2, ih.1, ih.2]
    exact ⟨trivial, trivial⟩
theorem inv_img {m : Mach} {l s : Nat} (g : Good m l s) : ∀ (u : List Nat) (q : Nat), q < s → (∀ x ∈ u, x < l) → img m q (img (inv m l s) q u) = u
  | [], _, _, _ => rfl
  | x :: u, q, hq, hu => by
    obtain ⟨y, hy, rfl⟩ := out_surj g q x hq (hu x (by simp))
    obtain ⟨h1, h2⟩ := inv_cells g q y hq hy
    have ih := inv_img g u (m.nx (q * 3 + y)) (g.nx q y hq hy) (fun z hz => hu z (by simp [hz]))
    simp only [img, h1, h2, ih]

/-- One number of a level. -/
def pf (m : Mach) (d q n k : Nat) : Nat := num d (img m q (wrd d n k))
theorem perm_pf (m : Mach) (d q n : Nat) : perm m d q n = (List.range (pw d n)).map (pf m d q n) := rfl
theorem pf_lt {m : Mach} {l s : Nat} (g : Good m l s) (q n k : Nat) (hq : q < s) : pf m l q n k < pw l n :=
  num_lt l n _ ((img_length m _ q).trans (wrd_length l n k)) (img_lt g _ q hq (wrd_lt l (by have := g.l2; omega) n k))
theorem pf_inv {m : Mach} {l s : Nat} (g : Good m l s) (q n k : Nat) (hq : q < s) (hk : k < pw l n) : pf (inv m l s) l q n (pf m l q n k) = k := by
  have hl : 0 < l := by have := g.l2; omega
  unfold pf
  rw [wrd_num l hl n _ ((img_length m _ q).trans (wrd_length l n k)) (img_lt g _ q hq (wrd_lt l hl n k)), (img_inv g _ q hq (wrd_lt l hl n k)).1, num_wrd l hl n k hk]
theorem inv_pf {m : Mach} {l s : Nat} (g : Good m l s) (q n k : Nat) (hq : q < s) (hk : k < pw l n) : pf m l q n (pf (inv m l s) l q n k) = k := by
  have hl : 0 < l := by have := g.l2; omega
  have g' := inv_good g
  unfold pf
  rw [wrd_num l hl n _ ((img_length _ _ q).trans (wrd_length l n k)) (img_lt g' _ q hq (wrd_lt l hl n k)), inv_img g _ q hq (wrd_lt l hl n k), num_wrd l hl n k hk]
end Go.Proofs.Ythempofohidlnaa
