/- LevelPermutation: the program's and the reference's come to the same; the law's body. -/
import Derived.Test.YtapbcfnlcnboeaaGraphM
import Derived.Test.YtapbcfnlcnboeaaLawDual
namespace Go.Proofs.Ytapbcfnlcnboeaa
open Go.RowKit
set_option linter.unusedVariables false
set_option linter.unusedSimpArgs false

open Classical in
/-- What LevelPermutation answers. -/
noncomputable def levelAns (m : Mach) (q n : Int) : List Int × Int :=
  if IsM m then if (0 ≤ q ∧ q < m.S) ∧ 0 ≤ n ∧ n ≤ 5 then ((perm m m.L.toNat q.toNat n.toNat).map Int.ofNat, 0) else ([], 2) else ([], 1)
theorem levelAns_1 {m : Mach} {q n : Int} (h : ¬ IsM m) : levelAns m q n = ([], 1) := by unfold levelAns; rw [if_neg h]
theorem levelAns_2 {m : Mach} {q n : Int} {l s : Nat} (g : Good m l s) (h : ¬ ((0 ≤ q ∧ q < (s : Int)) ∧ 0 ≤ n ∧ n ≤ 5)) : levelAns m q n = ([], 2) := by unfold levelAns; rw [if_pos g.isM, g.S, if_neg h]
theorem levelAns_0 {m : Mach} {l s : Nat} (g : Good m l s) (q n : Nat) (hq : q < s) (hn : n ≤ 5) : levelAns m q n = ((perm m l q n).map Int.ofNat, 0) := by
  unfold levelAns
  rw [if_pos g.isM, g.S, g.L, if_pos (by omega)]
  rfl

theorem levelAns_len (m : Mach) (q n : Int) : (levelAns m q n).1.length < 999999 := by
  by_cases hm : IsM m
  · obtain ⟨l, s, g⟩ := hm.good
    by_cases h : (0 ≤ q ∧ q < (s : Int)) ∧ 0 ≤ n ∧ n ≤ 5
    · obtain ⟨q, rfl⟩ := Int.eq_ofNat_of_zero_le h.1.1
      obtain ⟨n, rfl⟩ := Int.eq_ofNat_of_zero_le h.2.1
      rw [levelAns_0 g q n (by omega) (by omega)]
      have := pw_small l n g.l3 (by omega)
      rw [List.length_map, perm_length]; omega
    · rw [levelAns_2 g h]; simp
  · rw [levelAns_1 hm]; simp
/-- Two that answer alike. -/
def AnsL (w : World) (A : List Int × Int) (e : Ending) (w' : World) : Prop := ∃ v, e = .returned (.tuple #[v, .int .i64 A.2]) ∧ Own w' w.heap.size 2 v (ints A.1) ∧ Below w.heap.size w w'

set_option maxHeartbeats 2000000 in
set_option maxRecDepth 100000 in
theorem specLevel_any (w : World) (m : Mach) (hk : m.Ok) (q n : Int) :
    Calls Try.prog 25 #[.agg (mcells m), .int .i64 q, .int .i64 n] w (AnsL w (levelAns m q n)) := by
  have hM := hid (MB.new w m 31)
  have hB := hid (below_alloc (Below.refl w.heap.size w) (Nat.le_refl _) (.cells (mcells m) 31))
  by_cases hm : IsM m
  · obtain ⟨l, s, g⟩ := hm.good
    have hi := hid (show Tells true (IsM m) from ⟨fun _ => hm, fun _ => rfl⟩)
    have s1 := g.s1
    have s16 := g.s16
    have l3 := g.l3
    have gS := hid g.S
    by_cases hq : 0 ≤ q ∧ q < (s : Int)
    · have hin1 := hid (fun W => l01In_any q 0 ((s : Int) - 1) true (decide_eq_true (by omega)).symm W)
      by_cases hn : 0 ≤ n ∧ n ≤ 5
      · obtain ⟨q, rfl⟩ := Int.eq_ofNat_of_zero_le hq.1
        obtain ⟨n, rfl⟩ := Int.eq_ofNat_of_zero_le hn.1
        have hin2 := hid (fun W => l01In_any (n : Int) 0 5 true (decide_eq_true (by omega)).symm W)
        rw [levelAns_0 g q n (by omega) (by omega)]
        have hlev := hid (fun W => l01Level_any W m l s g q (by omega) n (by omega) (Nat.le_trans (pw_small l n (by omega) (by omega)) (by omega)))
        replace hk := hid hk; replace g := hid g; clear hm hq hn
        go_enter Try.func25, Try.ntmps25
        go_wp2_with (first
          | ((with_reducible refine gate (N := 9) rfl ?_); refine load_mach rfl _ rfl w.heap.size rfl m hM.out ?_)
          | (go_at_call 53; (with_reducible refine (l01Is_any _ m hk.out true hi.out.out).mono ?_); rintro e w1 ⟨rfl, hb⟩; have hM2 := hid (hM.out.below hb hM.out.lt); have hB2 := hid (hB.out.trans (hb.mono hB.out.size)); have cS := hM2.out.cS; rw [gS.out] at cS; clear hb hM hB hi)
          | (go_at_call 47; (with_reducible refine (hin1.out _).mono ?_); rintro e w3 ⟨rfl, rfl⟩)
          | (go_at_call 47; (with_reducible refine (hin2.out _).mono ?_); rintro e w3 ⟨rfl, rfl⟩)
          | ((with_reducible refine gate (N := 24) rfl ?_); refine load_mach rfl _ rfl w.heap.size rfl m hM2.out ?_)
          | (go_at_call 61; (with_reducible refine (hlev.out _).mono ?_); rintro e w4 ⟨v, rfl, hO, hb⟩; replace hO := hid hO; replace hb := hid hb))
        go_ret2
        exact ⟨_, rfl, by rw [← nats_ints]; exact hO.out.mono hB2.out.size, hB2.out.trans (hb.out.mono hB2.out.size)⟩
      · rw [levelAns_2 g (fun h => hn h.2)]
        have hin2 := hid (fun W => l01In_any n 0 5 false (decide_eq_false hn).symm W)
        replace hk := hid hk; replace g := hid g; clear hm hq hn
        go_enter Try.func25, Try.ntmps25
        go_wp2_with (first
          | ((with_reducible refine gate (N := 9) rfl ?_); refine load_mach rfl _ rfl w.heap.size rfl m hM.out ?_)
          | (go_at_call 53; (with_reducible refine (l01Is_any _ m hk.out true hi.out.out).mono ?_); rintro e w1 ⟨rfl, hb⟩; have hM2 := hid (hM.out.below hb hM.out.lt); have hB2 := hid (hB.out.trans (hb.mono hB.out.size)); have cS := hM2.out.cS; rw [gS.out] at cS; clear hb hM hB hi)
          | (go_at_call 47; (with_reducible refine (hin1.out _).mono ?_); rintro e w3 ⟨rfl, rfl⟩)
          | (go_at_call 47; (with_reducible refine (hin2.out _).mono ?_); rintro e w3 ⟨rfl, rfl⟩))
        go_ret2
        exact ⟨_, rfl, Own.nil _ _ _, hB2.out⟩
    · rw [levelAns_2 g (fun h => hq h.1)]
      have hin1 := hid (fun W => l01In_any q 0 ((s : Int) - 1) false (decide_eq_false (fun h => hq (by omega))).symm W)
      replace hk := hid hk; replace g := hid g; clear hm hq
      go_enter Try.func25, Try.ntmps25
      go_wp2_with (first
        | ((with_reducible refine gate (N := 9) rfl ?_); refine load_mach rfl _ rfl w.heap.size rfl m hM.out ?_)
        | (go_at_call 53; (with_reducible refine (l01Is_any _ m hk.out true hi.out.out).mono ?_); rintro e w1 ⟨rfl, hb⟩; have hM2 := hid (hM.out.below hb hM.out.lt); have hB2 := hid (hB.out.trans (hb.mono hB.out.size)); have cS := hM2.out.cS; rw [gS.out] at cS; clear hb hM hB hi)
        | (go_at_call 47; (with_reducible refine (hin1.out _).mono ?_); rintro e w3 ⟨rfl, rfl⟩))
      go_ret2
      exact ⟨_, rfl, Own.nil _ _ _, hB2.out⟩
  · rw [levelAns_1 hm]
    have hi := hid (show Tells false (IsM m) from ⟨fun h => (by cases h), fun h => absurd h hm⟩)
    replace hk := hid hk; clear hm
    go_enter Try.func25, Try.ntmps25
    go_wp2_with (first
      | ((with_reducible refine gate (N := 9) rfl ?_); refine load_mach rfl _ rfl w.heap.size rfl m hM.out ?_)
      | (go_at_call 53; (with_reducible refine (l01Is_any _ m hk.out false hi.out.out).mono ?_); rintro e w1 ⟨rfl, hb⟩; have hB2 := hid (hB.out.trans (hb.mono hB.out.size)); clear hb hM hB hi))
    go_ret2
    exact ⟨_, rfl, Own.nil _ _ _, hB2.out⟩

theorem codeI_one {m : Mach} {l s : Nat} {q : Int} (g : Good m l s) (hq : 0 ≤ q ∧ q < (s : Int)) : codeI m { data := #[] } [q] = 0 := codeI_0 g (isWd_nil _) (fun x hx => by simp at hx; subst hx; exact hq)
theorem codeI_bad {m : Mach} {l s : Nat} {q : Int} (g : Good m l s) (hq : ¬ (0 ≤ q ∧ q < (s : Int))) : codeI m { data := #[] } [q] = 2 := codeI_2 g (isWd_nil _) (fun h => hq (h q (by simp)))
theorem codeOf_one (w : World) (m : Mach) (hk : m.Ok) (q c : Int) (hc : codeI m { data := #[] } [q] = c) :
    Calls Try.prog 62 #[.agg (mcells m), .string { data := #[] }, .slice (some ⟨w.heap.size + 1, 0, none⟩) 1 1] ((w.alloc (.cells (mcells m) 31)).alloc (.cells #[.int .i64 q] 2)) fun e w' =>
      e = .returned (.int .i64 c) ∧ MB w' 31 w.heap.size m ∧ Below w.heap.size w w' := by
  subst hc
  have hO := Own.lit (w.alloc (.cells (mcells m) 31)) w.heap.size 2 [Value.int .i64 q] (by rw [heap_alloc_size]; omega) (by simp)
  rw [heap_alloc_size] at hO
  have hM := (MB.new w m 31).alloc (.cells #[.int .i64 q] 2)
  have hB := below_alloc (below_alloc (Below.refl w.heap.size w) (Nat.le_refl _) (.cells (mcells m) 31)) (Nat.le_refl _) (.cells #[.int .i64 q] 2)
  exact (codeOf_any _ m hk { data := #[] } (by decide) _ _ [q] hO (by simp)).mono fun e w' ⟨he, hb⟩ => ⟨he, hM.below hb hM.lt, hB.trans (hb.mono hB.size)⟩
set_option maxHeartbeats 2000000 in
set_option maxRecDepth 100000 in
theorem implLevel_any (w : World) (m : Mach) (hk : m.Ok) (q n : Int) :
    Calls Try.prog 26 #[.agg (mcells m), .int .i64 q, .int .i64 n] w (AnsL w (levelAns m q n)) := by
  have hM := hid (MB.new w m 31)
  have hB := hid (below_alloc (Below.refl w.heap.size w) (Nat.le_refl _) (.cells (mcells m) 31))
  have hcode := hid (fun (c : Int) (hc : codeI m { data := #[] } [q] = c) => codeOf_one w m hk q c hc)
  by_cases hm : IsM m
  · obtain ⟨l, s, g⟩ := hm.good
    have s1 := g.s1
    have s16 := g.s16
    have l3 := g.l3
    by_cases hq : 0 ≤ q ∧ q < (s : Int)
    · have hc := hid (hcode.out 0 (codeI_one g hq))
      clear hcode
      by_cases hn : 0 ≤ n ∧ n ≤ 5
      · obtain ⟨q, rfl⟩ := Int.eq_ofNat_of_zero_le hq.1
        obtain ⟨n, rfl⟩ := Int.eq_ofNat_of_zero_le hn.1
        have hin2 := hid (fun W => within_any (n : Int) 0 5 true (decide_eq_true (by omega)).symm W)
        rw [levelAns_0 g q n (by omega) (by omega)]
        have hlev := hid (fun W hW => ofState_any w.heap.size W m hW l s g q (by omega) n (by omega) (Nat.le_trans (pw_small l n (by omega) (by omega)) (by omega)))
        replace hk := hid hk; replace g := hid g; clear hm hq hn
        go_enter Try.func26, Try.ntmps26
        go_wp2_with (first
          | ((with_reducible refine gate (N := 9) rfl ?_); refine load_mach rfl _ rfl w.heap.size rfl m hM.out ?_)
          | (go_at_call 62; (with_reducible refine (hc.out).mono ?_); rintro e w1 ⟨rfl, hM2, hB2⟩; replace hM2 := hid hM2; replace hB2 := hid hB2; clear hM hB hc)
          | (go_at_call 50; (with_reducible refine (hin2.out _).mono ?_); rintro e w3 ⟨rfl, rfl⟩)
          | (go_at_call 63; (with_reducible refine (hlev.out _ hM2.out).mono ?_); rintro e w4 ⟨v, rfl, hO, hb⟩; replace hO := hid hO; replace hb := hid hb))
        go_ret2
        exact ⟨_, rfl, by rw [← nats_ints]; exact hO.out.mono hB2.out.size, hB2.out.trans (hb.out.mono hB2.out.size)⟩
      · rw [levelAns_2 g (fun h => hn h.2)]
        have hin2 := hid (fun W => within_any n 0 5 false (decide_eq_false hn).symm W)
        replace hk := hid hk; replace g := hid g; clear hm hq hn
        go_enter Try.func26, Try.ntmps26
        go_wp2_with (first
          | ((with_reducible refine gate (N := 9) rfl ?_); refine load_mach rfl _ rfl w.heap.size rfl m hM.out ?_)
          | (go_at_call 62; (with_reducible refine (hc.out).mono ?_); rintro e w1 ⟨rfl, hM2, hB2⟩; replace hM2 := hid hM2; replace hB2 := hid hB2; clear hM hB hc)
          | (go_at_call 50; (with_reducible refine (hin2.out _).mono ?_); rintro e w3 ⟨rfl, rfl⟩))
        go_ret2
        exact ⟨_, rfl, Own.nil _ _ _, hB2.out⟩
    · rw [levelAns_2 g (fun h => hq h.1)]
      have hc := hid (hcode.out 2 (codeI_bad g hq))
      replace hk := hid hk; replace g := hid g; clear hm hq hcode
      go_enter Try.func26, Try.ntmps26
      go_wp2_with (first
        | ((with_reducible refine gate (N := 9) rfl ?_); refine load_mach rfl _ rfl w.heap.size rfl m hM.out ?_)
        | (go_at_call 62; (with_reducible refine (hc.out).mono ?_); rintro e w1 ⟨rfl, hM2, hB2⟩; replace hM2 := hid hM2; replace hB2 := hid hB2; clear hM hB hc))
      go_ret2
      exact ⟨_, rfl, Own.nil _ _ _, hB2.out⟩
  · rw [levelAns_1 hm]
    have hc := hid (hcode.out 1 (codeI_1 hm))
    replace hk := hid hk; clear hm hcode
    go_enter Try.func26, Try.ntmps26
    go_wp2_with (first
      | ((with_reducible refine gate (N := 9) rfl ?_); refine load_mach rfl _ rfl w.heap.size rfl m hM.out ?_)
      | (go_at_call 62; (with_reducible refine (hc.out).mono ?_); rintro e w1 ⟨rfl, hM2, hB2⟩; replace hM2 := hid hM2; replace hB2 := hid hB2; clear hM hB hc))
    go_ret2
    exact ⟨_, rfl, Own.nil _ _ _, hB2.out⟩

set_option maxHeartbeats 2000000 in
set_option maxRecDepth 100000 in
theorem lawLevel_any (w : World) (m : Mach) (hk : m.Ok) (q n : Int) :
    Calls Try.prog 7 #[.agg (mcells m), .int .i64 q, .int .i64 n] w fun e w' => e = .returned (.bool true) ∧ Below w.heap.size w w' := by
  have hM := hid (MB.new w m 28)
  have hB := hid ((Below.refl w.heap.size w).alloc (Nat.le_refl _) (.cells (mcells m) 28))
  replace hk := hid hk
  have hs := hid (fun W => specLevel_any W m hk.out q n)
  have hp := hid (fun W => implLevel_any W m hk.out q n)
  have hcc : ((levelAns m q n).2 != (levelAns m q n).2) = false := by simp
  have hlen := hid (levelAns_len m q n)
  generalize (levelAns m q n) = A at *
  have hz : (((A.1.length : Nat) : Int) + 1 != ((A.1.length : Nat) : Int) + 1) = false := by simp
  have hz0 : decide (((A.1.length : Nat) : Int) + 1 < 0) = false := decide_eq_false (by omega)
  generalize hc : A.2 = c at *
  replace hc := hid hc
  go_enter Try.func7, Try.ntmps7
  go_wp2_with (first
    | ((with_reducible refine gate (N := 16) rfl ?_); refine load_lmach rfl _ rfl w.heap.size rfl m hM.out ?_)
    | ((with_reducible refine gate (N := 24) rfl ?_); refine load_lmach rfl _ rfl w.heap.size rfl m hM2.out ?_)
    | ((with_reducible refine gate (N := 52) rfl ?_); refine load_lmach rfl _ rfl w.heap.size rfl m hM6.out ?_)
    | (go_at_call 18; (with_reducible refine (toMachine_any m hk.out _).mono ?_); rintro e w7 ⟨rfl, hb⟩; have hO7 := hid (hO6.out.below hb); have hV7 := hid (hV6.out.below hb); have hB7 := hid (hB6.out.trans (hb.mono hB6.out.size)); clear hb hO6 hV6 hB6 hM6)
    | (go_at_call 18; (with_reducible refine (toMachine_any m hk.out _).mono ?_); rintro e w3 ⟨rfl, hb⟩; have hM3 := hid (hM2.out.below hb hM2.out.lt); have hV3 := hid (hV2.out.below hb); have hB3 := hid (hB2.out.trans (hb.mono hB2.out.size)); clear hb hM2 hV2 hB2)
    | (go_at_call 18; (with_reducible refine (toMachine_any m hk.out _).mono ?_); rintro e w1 ⟨rfl, hb⟩; have hM1 := hid (hM.out.below hb hM.out.lt); have hB1 := hid (hB.out.trans (hb.mono hB.out.size)); clear hb hM hB)
    | (go_at_call 25; (with_reducible refine (hs.out _).mono ?_); rintro e w2 ⟨v0, rfl, hO, hb⟩; rw [hc.out]; have hM2 := hid (hM1.out.below hb hM1.out.lt); have hB2 := hid (hB1.out.trans (hb.mono hB1.out.size)); have hV2 := hid hO; clear hb hO hM1 hB1 hs)
    | (go_at_call 26; (with_reducible refine (hp.out _).mono ?_); rintro e w8 ⟨h0, rfl, hO, hb⟩; rw [hc.out]; have hO8 := hid (hO7.out.below hb); have hV8 := hid (hV7.out.below hb); have hH8 := hid hO; have hB8 := hid (hB7.out.trans (hb.mono hB7.out.size)); clear hb hO hO7 hV7 hB7)
    | (go_at_call 26; (with_reducible refine (hp.out _).mono ?_); rintro e w4 ⟨g0, rfl, hO, hb⟩; rw [hc.out]; have hM4 := hid (hM3.out.below hb hM3.out.lt); have hV4 := hid (hV3.out.below hb); have hO4 := hid hO; have hlt3 := hid hM3.out.lt; have hB4 := hid (hB3.out.trans (hb.mono hB3.out.size)); have hB3s := hid hB3.out.size; have hvlt := hid (fun k hk => ((hV3.out.lt k hk).2)); clear hb hO hM3 hB3 hV3)
    | (go_at_call 27; (with_reducible refine (eqInt64S_any _ _ _ _ _ A.1 hO4.out hV4.out (by have := hlen.out; omega)).mono ?_); rintro e w5 ⟨rfl, hb⟩; have hM5 := hid (hM4.out.below hb hM4.out.lt); have hV5 := hid (hV4.out.below hb); have hO5 := hid (hO4.out.below hb); have hB5 := hid (hB4.out.trans (hb.mono hB4.out.size)); clear hb hM4 hV4 hO4 hB4)
    | (go_at_call 28; (with_reducible refine (mark1 _ _ _ _ A.1.length (ints_length _) hO5.out (by have := hlen.out; omega)).mono ?_); rintro e w6 ⟨rfl, hO, hb⟩; have hM6 := hid (show MB w6 28 w.heap.size m from World.rowIs.of_block hM5.out (hb.block _ hlt3.out)); have hV6 := hid (hV5.out.keep (fun k hk => hb.block k (hvlt.out k hk))); have hO6 := hid hO; have hB6 := hid (hB5.out.trans (hb.mono hB3s.out)); clear hb hM5 hV5 hO5 hB5 hO)
    | (go_at_call 29; (with_reducible refine (held1 _ _ _ A.1.length hO6.out (by have := hlen.out; omega)).mono ?_); rintro e w6' ⟨rfl, rfl⟩)
    | (go_at_call 27; (with_reducible refine (eqInt64S_any _ _ _ _ _ A.1 hH8.out hV8.out (by have := hlen.out; omega)).mono ?_); rintro e w9 ⟨rfl, hb⟩; have hO9 := hid (hO8.out.below hb); have hB9 := hid (hB8.out.trans (hb.mono hB8.out.size)); clear hb hH8 hV8 hO8 hB8)
    | (go_at_call 29; (with_reducible refine (held1 _ _ _ A.1.length hO9.out (by have := hlen.out; omega)).mono ?_); rintro e w9' ⟨rfl, rfl⟩))
  go_ret
  exact ⟨rfl, hB9.out⟩
end Go.Proofs.Ytapbcfnlcnboeaa
