/- FixedWords: what the program and the reference answer. -/
import Derived.Test.YtapbcfnlcnboeaaGraph
import Derived.Test.YtapbcfnlcnboeaaLawLevel
namespace Go.Proofs.Ytapbcfnlcnboeaa
open Go.RowKit
set_option linter.unusedVariables false
set_option linter.unusedSimpArgs false

theorem levelI_cases (m : Mach) (n : Int) : levelI m n = 0 ∨ levelI m n = 1 ∨ levelI m n = 2 := by
  by_cases hm : IsM m
  · obtain ⟨l, s, g⟩ := hm.good
    by_cases h : 0 ≤ n ∧ n ≤ 7 - (l : Int)
    · exact .inl (levelI_0 g h)
    · exact .inr (.inr (levelI_2 g h))
  · exact .inr (.inl (levelI_1 hm))
/-- A level that is asked for. -/
theorem levelI_good {m : Mach} {n : Int} (h : levelI m n = 0) : ∃ l s n', Good m l s ∧ n = ((n' : Nat) : Int) ∧ n' ≤ 5 ∧ n' + l ≤ 7 ∧ pw l n' ≤ 243 := by
  by_cases hm : IsM m
  · obtain ⟨l, s, g⟩ := hm.good
    by_cases hn : 0 ≤ n ∧ n ≤ 7 - (l : Int)
    · obtain ⟨n', rfl⟩ := Int.eq_ofNat_of_zero_le hn.1
      have l2 := g.l2
      have l3 := g.l3
      exact ⟨l, s, n', g, rfl, by omega, by omega, pw_small l n' l3 (by omega)⟩
    · rw [levelI_2 g hn] at h; cases h
  · rw [levelI_1 hm] at h; cases h

/-- How many numbers below j are left where they are. -/
def fixn (P : Nat → Nat) : Nat → Nat
  | 0 => 0
  | j + 1 => if P j = j then fixn P j + 1 else fixn P j
theorem fixn_le (P : Nat → Nat) : ∀ j, fixn P j ≤ j
  | 0 => Nat.le_refl _
  | j + 1 => by unfold fixn; split <;> have := fixn_le P j <;> omega
/-- For all states. -/
def fixL (m : Mach) (l n s : Nat) : List Int := (List.range s).map fun q => ((fixn (pf m l q n) (pw l n) : Nat) : Int)
theorem fixL_snoc (m : Mach) (l n s : Nat) : fixL m l n (s + 1) = fixL m l n s ++ [((fixn (pf m l s n) (pw l n) : Nat) : Int)] := by simp [fixL, List.range_succ]
theorem fixL_length (m : Mach) (l n s : Nat) : (fixL m l n s).length = s := by simp [fixL]

open Classical in
noncomputable def fixedAns (m : Mach) (n : Int) : List Int × Int := if levelI m n = 0 then (fixL m m.L.toNat n.toNat m.S.toNat, 0) else ([], levelI m n)
theorem fixedAns_0 {m : Mach} {l s n : Nat} (g : Good m l s) (h : levelI m n = 0) : fixedAns m n = (fixL m l n s, 0) := by
  unfold fixedAns; rw [if_pos h, g.L, g.S]; rfl
theorem fixedAns_c {m : Mach} {n : Int} (h : levelI m n ≠ 0) : fixedAns m n = ([], levelI m n) := by unfold fixedAns; rw [if_neg h]
theorem fixedAns_len (m : Mach) (n : Int) : (fixedAns m n).1.length < 999999 := by
  by_cases h : levelI m n = 0
  · obtain ⟨l, s, n', g, rfl, _⟩ := levelI_good h
    rw [fixedAns_0 g h, fixL_length]
    have := g.s16; omega
  · rw [fixedAns_c h]; simp

set_option maxHeartbeats 4000000 in
set_option maxRecDepth 100000 in
theorem specFixed_any (w : World) (m : Mach) (hk : m.Ok) (n : Int) :
    Calls Try.prog 30 #[.agg (mcells m), .int .i64 n] w (AnsL w (fixedAns m n)) := by
  have hM := hid (MB.new w m 31)
  have hB := hid (below_alloc (Below.refl w.heap.size w) (Nat.le_refl _) (.cells (mcells m) 31))
  have hcode := hid (fun W => l05Code_any W m hk n)
  by_cases h0 : levelI m n = 0
  · obtain ⟨l, s, n, g, rfl, hn5, _, hpw⟩ := levelI_good h0
    rw [fixedAns_0 g h0]
    rw [h0] at hcode
    have gS := hid g.S
    have s16 := g.s16
    have hlev := hid (fun q (hq : q < s) W => l01Level_any W m l s g q hq n (by omega) (by omega))
    have hnz := hid (fun m q => nats_ints (perm m l q n))
    have hget := hid (fun q k (hk : k < pw l n) => permZ_get m l q n k hk)
    have hplt := hid (fun q k (hq : q < s) => pf_lt g q n k hq)
    have hpl := hid (fun q => permZ_length m l q n)
    have hpos := pw_pos l (by have := g.l2; omega) n
    have hsn := hid (fun q => fixL_snoc m l n q)
    replace hk := hid hk; replace g := hid g; clear h0
    generalize hMn : pw l n = M at *
    replace hMn := hid hMn
    go_enter Try.func30, Try.ntmps30
    go_wp2_with (first
      | ((with_reducible refine gate (N := 12) rfl ?_); refine load_mach rfl _ rfl w.heap.size rfl m hM.out ?_)
      | (go_at_call 64; (with_reducible refine (hcode.out _).mono ?_); rintro e w1 ⟨rfl, hb⟩; have hM1 := hid ((hM.out.below hb hM.out.lt).alloc (.cells #[] 2)); have hB0 := hid (hB.out.trans (hb.mono hB.out.size)); have hB1 := hid (below_alloc hB0.out (Nat.le_refl _) (.cells #[] 2)); have hO1 := hid (Own.new w1 w.heap.size 2 hB0.out.size); clear hb hM hB hcode hB0))
    go_loopw [7, 8] (fun v i wr => ∃ q : Nat, q ≤ s ∧ i = .int .i64 q ∧ MB wr 31 w.heap.size m ∧ Own wr w.heap.size 2 v (ints (fixL m l n q)) ∧ Below w.heap.size w wr) (fun _ i _ => s - (intOf i).toNat)
    case atStart => exact ⟨0, Nat.zero_le _, rfl, hM1.out, hO1.out, hB1.out⟩
    case round =>
      obtain ⟨q, hq, rfl, r1, r2, rB⟩ := hrel
      clear hM1 hB1 hO1
      have cS := r1.cS
      rw [gS.out] at cS
      have hfl := hid (show (ints (fixL m l n q)).length = q by rw [ints_length, fixL_length])
      replace r1 := hid r1; replace r2 := hid r2; replace rB := hid rB
      by_cases hlq : q < s
      · have dq : decide ((q : Int) < (s : Int)) = true := decide_eq_true (by omega)
        go_wp2_with (first
          | ((with_reducible refine gate (N := 25) rfl ?_); refine load_mach rfl _ rfl w.heap.size rfl m r1.out ?_)
          | (go_at_call 61; (with_reducible refine (hlev.out q hlq _).mono ?_); rintro e w3 ⟨r, rfl, hO, hb3⟩; rw [hnz.out] at hO; obtain ⟨g1, c1, rfl, _, _⟩ := hO.blk (fun e => by have h1 := congrArg List.length e; have h2 := hpl.out q; unfold permZ at h2; rw [ints_length, h2] at h1; simp at h1; omega); have hl := hpl.out q; unfold permZ at hl; rw [ints_length, hl] at hO ⊢; have hR := hid hO; have t1 := hid (r1.out.below hb3 r1.out.lt); have t2 := hid (r2.out.below hb3); have tB := hid (rB.out.trans (hb3.mono rB.out.size)); clear hl hO hb3 r1 r2 rB cS))
        go_loopw [10, 11] (fun c i wi => ∃ k : Nat, k ≤ M ∧ i = .int .i64 k ∧ c = .int .i64 (fixn (pf m l q n) k : Nat) ∧ wi = w3) (fun _ i _ => M - (intOf i).toNat)
        case atStart => exact ⟨0, Nat.zero_le _, rfl, rfl, rfl⟩
        case round =>
          obtain ⟨k, hk, rfl, rfl, rfl⟩ := hrel
          by_cases hlk : k < M
          · have hgk := hget.out q k hlk
            have ck := hR.out.cellAt k (.int .i64 ((pf m l q n k : Nat) : Int)) (by show (ints (permZ m l q n))[k]? = _; simp [ints, hgk])
            have hpk := hplt.out q k hlq
            have hfx := fixn_le (pf m l q n) k
            have hstep := hid (show fixn (pf m l q n) (k + 1) = if pf m l q n k = k then fixn (pf m l q n) k + 1 else fixn (pf m l q n) k from rfl)
            clear hgk
            generalize pf m l q n k = pk at *
            generalize fixn (pf m l q n) k = fx at *
            by_cases he : pk = k
            · subst he
              replace hstep := hid (show fixn (pf m l q n) (pk + 1) = fx + 1 by rw [hstep.out, if_pos rfl])
              go_wp2
              go_roundw
              case rel => exact ⟨pk + 1, by omega, by go_num, by rw [hstep.out]; go_num, trivial⟩
              case measure => simp [intOf]; omega
            · replace hstep := hid (show fixn (pf m l q n) (k + 1) = fx by rw [hstep.out, if_neg he])
              have he' : ((pk : Int) == (k : Int)) = false := by simp; omega
              go_wp2
              go_roundw
              case rel => exact ⟨k + 1, by omega, by go_num, by rw [hstep.out], trivial⟩
              case measure => simp [intOf]; omega
          · obtain rfl : M = k := by omega
            go_wp2_with (first
              | ((with_reducible refine gate (N := 46) rfl ?_); refine app1 37 2 (.int .i64 0) 8 Try.underlying37 info_i64 rfl (by omega) rfl _ _ rfl w.heap.size _ _ rfl t2.out tB.out.size _ rfl rfl (by have := hfl.out; omega) ?_; intro gn cap w4 hO2 hb2 hold hsz2 _; have y1 := hid (show MB w4 31 w.heap.size m from World.rowIs.of_block t1.out (hold _ t1.out.lt (t2.out.neMB t1.out (by decide)))); replace hO2 := hid hO2; have yB := hid (tB.out.trans hb2); clear hb2 hold hsz2 t1 t2 tB))
            go_roundw
            case rel => exact ⟨q + 1, by omega, by go_num, y1.out, by rw [hsn.out, ints_snoc]; exact hO2.out, yB.out⟩
            case measure => simp [intOf]; omega
      · obtain rfl : s = q := by omega
        go_wp2
        go_ret2
        exact ⟨_, rfl, r2.out, rB.out⟩
  · rw [fixedAns_c h0]
    have hc : levelI m n = 1 ∨ levelI m n = 2 := by rcases levelI_cases m n with h | h; exact absurd h h0; exact h
    generalize levelI m n = c at *
    clear h0
    rcases hc with rfl | rfl
    all_goals
      go_enter Try.func30, Try.ntmps30
      go_wp2_with (first
        | ((with_reducible refine gate (N := 12) rfl ?_); refine load_mach rfl _ rfl w.heap.size rfl m hM.out ?_)
        | (go_at_call 64; (with_reducible refine (hcode.out _).mono ?_); rintro e w1 ⟨rfl, hb⟩; have hB1 := hid (hB.out.trans (hb.mono hB.out.size)); clear hb hM hB hcode))
      go_ret2
      exact ⟨_, rfl, Own.nil _ _ _, hB1.out⟩

set_option maxHeartbeats 4000000 in
set_option maxRecDepth 100000 in
theorem implFixed_any (w : World) (m : Mach) (hk : m.Ok) (n : Int) :
    Calls Try.prog 31 #[.agg (mcells m), .int .i64 n] w (AnsL w (fixedAns m n)) := by
  have hM := hid (MB.new w m 31)
  have hB := hid (below_alloc (Below.refl w.heap.size w) (Nat.le_refl _) (.cells (mcells m) 31))
  have hcode := hid (fun W => levelCode_any W m hk n)
  by_cases h0 : levelI m n = 0
  · obtain ⟨l, s, n, g, rfl, hn5, _, hpw⟩ := levelI_good h0
    rw [fixedAns_0 g h0]
    rw [h0] at hcode
    have s16 := g.s16
    have s1 := g.s1
    have hgr := hid (fun W hW => graph_any w.heap.size W m hW l s g n (by omega) (by omega))
    have hget := hid (fun q k (hk : k < pw l n) => permZ_get m l q n k hk)
    have hplt := hid (fun q k (hq : q < s) => pf_lt g q n k hq)
    have hpl := hid (fun q => permZ_length m l q n)
    have hpos := pw_pos l (by have := g.l2; omega) n
    have hsn := hid (fun q => fixL_snoc m l n q)
    replace hk := hid hk; replace g := hid g; clear h0
    generalize hMn : pw l n = M at *
    replace hMn := hid hMn
    go_enter Try.func31, Try.ntmps31
    go_wp2_with (first
      | ((with_reducible refine gate (N := 13) rfl ?_); refine load_mach rfl _ rfl w.heap.size rfl m hM.out ?_)
      | (go_at_call 65; (with_reducible refine (hcode.out _).mono ?_); rintro e w1 ⟨rfl, hb⟩; have hM1 := hid (hM.out.below hb hM.out.lt); have hB1 := hid (hB.out.trans (hb.mono hB.out.size)); clear hb hM hB hcode)
      | (go_at_call 66; (with_reducible refine (hgr.out _ hM1.out).mono ?_); rintro e w2 ⟨vA, vB, rfl, hG, hb⟩; obtain ⟨gA, cA, rfl, _, _⟩ := hG.2.1.blk (fun e => by have h1 := congrArg List.length e; rw [tabA_length] at h1; simp at h1; omega); have hgc := hG.c1; rw [tabA_length] at hgc; have hA := hG.2.1; rw [tabA_length] at hA; have hA := hid (hA.mono (Nat.le_trans hB1.out.size (Nat.le_succ _))); have hB2 := hid (hB1.out.trans (hb.mono hB1.out.size)); clear hG hb hM1 hB1 hgr))
    go_loopw [7, 25] (fun v i wr => ∃ q : Nat, q ≤ s ∧ i = .int .i64 q ∧ Own wr w2.heap.size 2 v (ints (fixL m l n q)) ∧ Below w2.heap.size w2 wr) (fun _ i _ => s - (intOf i).toNat)
    case atStart => exact ⟨0, Nat.zero_le _, rfl, Own.nil _ _ _, Below.refl _ _⟩
    case round =>
      obtain ⟨q, hq, rfl, r2, rB⟩ := hrel
      clear hgc
      have hfl := hid (show (ints (fixL m l n q)).length = q by rw [ints_length, fixL_length])
      replace r2 := hid r2; replace rB := hid rB
      by_cases hlq : q < s
      · have dq : decide ((q : Int) < (s : Int)) = true := decide_eq_true (by omega)
        obtain ⟨r, cr, hr⟩ := (hA.out.below rB.out).row q _ (tabA_get m l n s q hlq)
        obtain ⟨g1, c1, rfl, _, _⟩ := hr.blk (fun e => by have h1 := congrArg List.length e; have h2 := hpl.out q; rw [ints_length, h2] at h1; simp at h1; omega)
        rw [ints_length, hpl.out q] at hr cr
        have hR := hid hr
        clear hr
        obtain ⟨wo, hwo⟩ : ∃ wo : World, Hid (wo = wr) := ⟨wr, rfl⟩
        go_wp2
        go_loopw [10, 31] (fun c i wi => ∃ k : Nat, k ≤ M ∧ i = .int .i64 k ∧ c = .int .i64 (fixn (pf m l q n) k : Nat) ∧ Hid (wo = wi)) (fun _ i _ => M - (intOf i).toNat)
        case atStart => exact ⟨0, Nat.zero_le _, rfl, rfl, hwo⟩
        case round =>
          obtain ⟨k, hk, rfl, rfl, hww⟩ := hrel
          have e1 := hwo.out.symm.trans hww.out
          subst e1
          by_cases hlk : k < M
          · have hgk := hget.out q k hlk
            have ck := hR.out.cellAt k (.int .i64 ((pf m l q n k : Nat) : Int)) (by show (ints (permZ m l q n))[k]? = _; simp [ints, hgk])
            have hpk := hplt.out q k hlq
            have hfx := fixn_le (pf m l q n) k
            have hstep := hid (show fixn (pf m l q n) (k + 1) = if pf m l q n k = k then fixn (pf m l q n) k + 1 else fixn (pf m l q n) k from rfl)
            clear hgk
            generalize pf m l q n k = pk at *
            generalize fixn (pf m l q n) k = fx at *
            by_cases he : pk = k
            · subst he
              replace hstep := hid (show fixn (pf m l q n) (pk + 1) = fx + 1 by rw [hstep.out, if_pos rfl])
              go_wp2
              go_roundw
              case rel => exact ⟨pk + 1, by omega, by go_num, by rw [hstep.out]; go_num, hwo⟩
              case measure => simp [intOf]; omega
            · replace hstep := hid (show fixn (pf m l q n) (k + 1) = fx by rw [hstep.out, if_neg he])
              have he' : ((k : Int) == (pk : Int)) = false := by simp; omega
              go_wp2
              go_roundw
              case rel => exact ⟨k + 1, by omega, by go_num, by rw [hstep.out], hwo⟩
              case measure => simp [intOf]; omega
          · obtain rfl : M = k := by omega
            clear cr
            go_wp2_with (first
              | ((with_reducible refine gate (N := 45) rfl ?_); refine app1 37 2 (.int .i64 0) 8 Try.underlying37 info_i64 rfl (by omega) rfl _ _ rfl w2.heap.size _ _ rfl r2.out rB.out.size _ rfl rfl (by have := hfl.out; omega) ?_; intro gn cap w4 hO2 hb2 hold hsz2 _; replace hO2 := hid hO2; have yB := hid (rB.out.trans hb2); clear hb2 hold hsz2 r2 rB))
            go_roundw
            case rel => exact ⟨q + 1, by omega, by go_num, by rw [hsn.out, ints_snoc]; exact hO2.out, yB.out⟩
            case measure => simp [intOf]; omega
      · obtain rfl : s = q := by omega
        go_wp2
        go_ret2
        exact ⟨_, rfl, r2.out.mono hB2.out.size, hB2.out.trans (rB.out.mono hB2.out.size)⟩
  · rw [fixedAns_c h0]
    have hc : levelI m n = 1 ∨ levelI m n = 2 := by rcases levelI_cases m n with h | h; exact absurd h h0; exact h
    generalize levelI m n = c at *
    clear h0
    rcases hc with rfl | rfl
    all_goals
      go_enter Try.func31, Try.ntmps31
      go_wp2_with (first
        | ((with_reducible refine gate (N := 13) rfl ?_); refine load_mach rfl _ rfl w.heap.size rfl m hM.out ?_)
        | (go_at_call 65; (with_reducible refine (hcode.out _).mono ?_); rintro e w1 ⟨rfl, hb⟩; have hB1 := hid (hB.out.trans (hb.mono hB.out.size)); clear hb hM hB hcode))
      go_ret2
      exact ⟨_, rfl, Own.nil _ _ _, hB1.out⟩
set_option maxHeartbeats 2000000 in
set_option maxRecDepth 100000 in
theorem fixedWords_law (w : World) (m : Mach) (hk : m.Ok) (x1 : Int) :
    Calls Try.prog 8 #[.agg (mcells m), .int .i64 x1] w fun e w' => e = .returned (.bool true) ∧ Below w.heap.size w w' := by
  have hM := hid (MB.new w m 28)
  have hB := hid ((Below.refl w.heap.size w).alloc (Nat.le_refl _) (.cells (mcells m) 28))
  replace hk := hid hk
  have hs := hid (fun W => specFixed_any W m hk.out x1)
  have hp := hid (fun W => implFixed_any W m hk.out x1)
  have hcc : ((fixedAns m x1).2 != (fixedAns m x1).2) = false := by simp
  have hlen := hid (fixedAns_len m x1)
  generalize (fixedAns m x1) = A at *
  have hz : (((A.1.length : Nat) : Int) + 1 != ((A.1.length : Nat) : Int) + 1) = false := by simp
  have hz0 : decide (((A.1.length : Nat) : Int) + 1 < 0) = false := decide_eq_false (by omega)
  generalize hc : A.2 = c at *
  replace hc := hid hc
  go_enter Try.func8, Try.ntmps8
  go_wp2_with (first
    | ((with_reducible refine gate (N := 14) rfl ?_); refine load_lmach rfl _ rfl w.heap.size rfl m hM.out ?_)
    | ((with_reducible refine gate (N := 21) rfl ?_); refine load_lmach rfl _ rfl w.heap.size rfl m hM2.out ?_)
    | ((with_reducible refine gate (N := 48) rfl ?_); refine load_lmach rfl _ rfl w.heap.size rfl m hM6.out ?_)
    | (go_at_call 18; (with_reducible refine (toMachine_any m hk.out _).mono ?_); rintro e w7 ⟨rfl, hb⟩; have hO7 := hid (hO6.out.below hb); have hV7 := hid (hV6.out.below hb); have hB7 := hid (hB6.out.trans (hb.mono hB6.out.size)); clear hb hO6 hV6 hB6 hM6)
    | (go_at_call 18; (with_reducible refine (toMachine_any m hk.out _).mono ?_); rintro e w3 ⟨rfl, hb⟩; have hM3 := hid (hM2.out.below hb hM2.out.lt); have hV3 := hid (hV2.out.below hb); have hB3 := hid (hB2.out.trans (hb.mono hB2.out.size)); clear hb hM2 hV2 hB2)
    | (go_at_call 18; (with_reducible refine (toMachine_any m hk.out _).mono ?_); rintro e w1 ⟨rfl, hb⟩; have hM1 := hid (hM.out.below hb hM.out.lt); have hB1 := hid (hB.out.trans (hb.mono hB.out.size)); clear hb hM hB)
    | (go_at_call 30; (with_reducible refine (hs.out _).mono ?_); rintro e w2 ⟨v0, rfl, hO, hb⟩; rw [hc.out]; have hM2 := hid (hM1.out.below hb hM1.out.lt); have hB2 := hid (hB1.out.trans (hb.mono hB1.out.size)); have hV2 := hid hO; clear hb hO hM1 hB1 hs)
    | (go_at_call 31; (with_reducible refine (hp.out _).mono ?_); rintro e w8 ⟨h0, rfl, hO, hb⟩; rw [hc.out]; have hO8 := hid (hO7.out.below hb); have hV8 := hid (hV7.out.below hb); have hH8 := hid hO; have hB8 := hid (hB7.out.trans (hb.mono hB7.out.size)); clear hb hO hO7 hV7 hB7)
    | (go_at_call 31; (with_reducible refine (hp.out _).mono ?_); rintro e w4 ⟨g0, rfl, hO, hb⟩; rw [hc.out]; have hM4 := hid (hM3.out.below hb hM3.out.lt); have hV4 := hid (hV3.out.below hb); have hO4 := hid hO; have hlt3 := hid hM3.out.lt; have hB4 := hid (hB3.out.trans (hb.mono hB3.out.size)); have hB3s := hid hB3.out.size; have hvlt := hid (fun k hk => ((hV3.out.lt k hk).2)); clear hb hO hM3 hB3 hV3)
    | (go_at_call 27; (with_reducible refine (eqInt64S_any _ _ _ _ _ A.1 hO4.out hV4.out (by have := hlen.out; omega)).mono ?_); rintro e w5 ⟨rfl, hb⟩; have hM5 := hid (hM4.out.below hb hM4.out.lt); have hV5 := hid (hV4.out.below hb); have hO5 := hid (hO4.out.below hb); have hB5 := hid (hB4.out.trans (hb.mono hB4.out.size)); clear hb hM4 hV4 hO4 hB4)
    | (go_at_call 28; (with_reducible refine (mark1 _ _ _ _ A.1.length (ints_length _) hO5.out (by have := hlen.out; omega)).mono ?_); rintro e w6 ⟨rfl, hO, hb⟩; have hM6 := hid (show MB w6 28 w.heap.size m from World.rowIs.of_block hM5.out (hb.block _ hlt3.out)); have hV6 := hid (hV5.out.keep (fun k hk => hb.block k (hvlt.out k hk))); have hO6 := hid hO; have hB6 := hid (hB5.out.trans (hb.mono hB3s.out)); clear hb hM5 hV5 hO5 hB5 hO)
    | (go_at_call 29; (with_reducible refine (held1 _ _ _ A.1.length hO6.out (by have := hlen.out; omega)).mono ?_); rintro e w6' ⟨rfl, rfl⟩)
    | (go_at_call 27; (with_reducible refine (eqInt64S_any _ _ _ _ _ A.1 hH8.out hV8.out (by have := hlen.out; omega)).mono ?_); rintro e w9 ⟨rfl, hb⟩; have hO9 := hid (hO8.out.below hb); have hB9 := hid (hB8.out.trans (hb.mono hB8.out.size)); clear hb hH8 hV8 hO8 hB8)
    | (go_at_call 29; (with_reducible refine (held1 _ _ _ A.1.length hO9.out (by have := hlen.out; omega)).mono ?_); rintro e w9' ⟨rfl, rfl⟩))
  go_ret
  exact ⟨rfl, hB9.out⟩
end Go.Proofs.Ytapbcfnlcnboeaa
