/- What the proof of FnMinimal leans on, part 21 of 21. -/
import Derived.Test.YtbmkkaecfogmoaaZFnMinimalT
import Derived.Deep.CutBlock
/- FnMinimal: the walk. -/
namespace Go.Proofs.Ytbmkkaecfogmoaa
open Go.RowKit
set_option linter.unusedVariables false
set_option linter.unusedSimpArgs false
-- @LONG

theorem trl_mem {B : List Bool} {t : Int} : ∀ {k : Nat}, t ∈ trl B k → ∃ q : Nat, q < k ∧ t = (q : Int) ∧ B.getD q false = true
  | 0, h => by simp [trl] at h
  | k + 1, h => by
    rw [show trl B (k + 1) = if B.getD k false then trl B k ++ [(k : Int)] else trl B k from rfl] at h
    split at h
    · rename_i hb
      rcases List.mem_append.1 h with h | h
      · obtain ⟨q, h1, h2⟩ := trl_mem h
        exact ⟨q, by omega, h2⟩
      · exact ⟨k, by omega, by simpa using h, hb⟩
    · obtain ⟨q, h1, h2⟩ := trl_mem h
      exact ⟨q, by omega, h2⟩
theorem minAns_sm {m : Mach} (hk : m.Ok) : Sm (minAns m).1 := by
  by_cases h : IsM m
  · obtain ⟨l, s, g⟩ := h.good
    rw [minAns_good g]
    exact (mn_good g).sm (mn_Ok g)
  · rw [minAns_bad h]; exact Sm.zero
theorem minAns_len (m : Mach) : (minAns m).2.1.length ≤ 1000000 := by
  by_cases h : IsM m
  · obtain ⟨l, s, g⟩ := h.good
    rw [minAns_good g]
    have := g.s16
    simp only [List.length_map, mnN, List.length_range]
    show s ≤ _
    omega
  · rw [minAns_bad h]; simp
theorem triAns_len (m : Mach) : (triAns m).1.length ≤ 1000000 := by
  by_cases h : IsM m
  · obtain ⟨l, s, g⟩ := h.good
    rw [tri_good g]
    have h1 := trl_len (tvL (tabOf m l s)) s
    have := g.s16
    dsimp only
    omega
  · unfold triAns; rw [if_neg h]; simp
theorem min_law {m : Mach} (h : (minAns m).2.2 = 0) : ∃ (l s s' : Nat) (MN2 : List Int), m.L = (l : Int) ∧ 1 ≤ l ∧ l ≤ 3 ∧ m.S = (s : Int) ∧ (minAns m).1.S = (s' : Int) ∧ (minAns m).2.1.length = s ∧ minAns (minAns m).1 = ((minAns m).1, MN2, 0) ∧ MN2.length = s' ∧
    (∀ k, k < s → ∀ u : List Nat, u.length = 8 → (∀ x ∈ u, x < l) → ∃ (n : Nat) (z : ByteArray), (minAns m).2.1[k]? = some (n : Int) ∧ aowAns m (k : Int) (wstr u) = (z, 0) ∧ aowAns (minAns m).1 (n : Int) (wstr u) = (z, 0)) ∧
    (∀ t, t ∈ (triAns m).1 → ∀ u : List Nat, u.length = 8 → (∀ x ∈ u, x < l) → aowAns m t (wstr u) = (wstr u, 0)) := by
  by_cases hm : IsM m
  · obtain ⟨l, s, g⟩ := hm.good
    have g2 := mn_good g
    have hT := tabOf_ok g
    have l2 := g.l2
    have h3 : (tabOf m l s).L ≤ 3 := g.l3
    have e2 := minAns_good g2
    rw [show mnM (tabOf (mnM (tabOf m l s)) l (mst (tabOf m l s)).length) = mnM (tabOf m l s) from mn_again hT h3] at e2
    rw [minAns_good g, tri_good g]
    refine ⟨l, s, (mst (tabOf m l s)).length, _, g.L, by omega, g.l3, g.S, g2.S, ?_, e2, ?_, fun k hk u hu hul => ?_, fun t ht u hu hul => ?_⟩
    · simp only [List.length_map, mnN, List.length_range]; rfl
    · simp only [List.length_map, mnN, List.length_range]; rfl
    · have hat := mnN_at (T := tabOf m l s) (q := k) hk
      have hlt := mnN_lt (T := tabOf m l s) (q := k) hk
      refine ⟨(mst (tabOf m l s)).idxOf (fix (tabOf m l s) k), _, ?_, aow_good g hk hul (by omega), ?_⟩
      · dsimp only
        rw [List.getElem?_map, hat]; rfl
      · rw [← mn_img g hk hul]
        exact aow_good g2 hlt hul (by omega)
    · obtain ⟨q, hq, rfl, hb⟩ := trl_mem ht
      rw [aow_good g hq hul (by omega)]
      obtain ⟨b, h1, h2⟩ := tvL_get (tabOf m l s) q hq
      rw [List.getD_eq_getElem?_getD, h1] at hb
      rw [tv_img hul (h2.1 hb)]
  · rw [minAns_bad hm] at h; exact absurd h (by decide)
set_option maxHeartbeats 20000000 in
set_option maxRecDepth 100000 in
theorem minimal_law (w : World) (v : Value) (l : List Nat) (hv : ArgB w v l) :
    Calls Try.prog 3 #[v] w fun e w' => e = .returned (.bool true) ∧ Below w.heap.size w w' := by
  have hbg := hid (big_any w v l hv)
  by_cases hl : l.length ≤ 4096
  · have dl : decide (4096 < l.length) = false := decide_eq_false (by omega)
    rw [dl] at hbg
    have hdr := hid (fun W (hW : Below w.heap.size w W) => drMin_any W v l (hv.below hW) hl)
    have hdr2 := hid (fun W (hW : Below w.heap.size w W) => drAes_any W v l (hv.below hW) hl)
    have hwd := hid (fun W (hW : Below w.heap.size w W) (d : Nat) h1 h2 => (show Calls Try.prog 15 #[v, .int .i64 d, .int .i64 8] W (fun e w' => ∃ u : List Nat, e = .returned (.string (wstr u)) ∧ u.length = 8 ∧ (∀ x ∈ u, x < d) ∧ Below W.heap.size W w') from word5_any W v l (hv.below hW) hl d 8 h1 h2 (by omega)))
    have him := hid implMin_any
    have hsm := hid specMin_any
    have hit := hid implTri_any
    have hst := hid specTri_any
    have hia := hid implAes_any
    have hsa := hid specAes_any
    have haw := hid implAow_any
    have hlk := hid likeInts_any
    have hs0 := hid (St.start w)
    have hz := zeroM_run
    have hz1 := hid (fun L W (h : St w.heap.size w L W) => h.newMB zeroM 27)
    have hcy := hid (fun (x : Int) => (show (x != x) = false by simp))
    have hgd := guard_mach
    replace hv := hid hv
    obtain ⟨A0, c0, rfl, _⟩ := hv.out
    go_enter Try.func3, Try.ntmps3
    go_upto_region 5 with (first
      | (go_at_call 8; (with_reducible refine (hbg.out).mono ?_); rintro e w1 ⟨rfl, rfl⟩)
      | (go_at_call 9; (with_reducible refine (hdr.out _ (Below.refl _ _)).mono ?_); rintro e w1 ⟨m, rfl, hF, hb⟩; have hle := hid hb.size; replace hS := hid (hz1.out _ _ (hs0.out.call hb)); clear hb)
      | ((with_reducible refine gateOp (op := .store 27 (.tmp 3) (.tmp 36)) rfl ?_); refine store_mach rfl _ _ rfl w1.heap.size rfl m rfl 27 _ hS.out.m0 ?_; intro w2 p3 ho hsz hbl; replace hS := hid (hS.out.setM hle.out p3 ho hbl); clear p3 ho hsz hbl)
      | ((with_reducible refine gate (N := 38) rfl ?_); refine load_mach rfl _ rfl w1.heap.size rfl m hS.out.m0 ?_)
      | (go_at_call 10; (with_reducible refine (him.out _ m hF.out.ok).mono ?_); rintro e w3 ⟨v1, rfl, hO, hb⟩; have hle4 := hid (hS.out.call hb).le; replace hS := hid (hz1.out _ _ (hS.out.callOwn hb hO)); clear hb hO)
      | ((with_reducible refine gateOp (op := .store 27 (.tmp 4) (.tmp 40)) rfl ?_); refine store_mach rfl _ _ rfl w3.heap.size rfl (minAns m).1 rfl 27 _ hS.out.m0 ?_; intro w4 p3 ho hsz hbl; replace hS := hid (hS.out.setM hle4.out p3 ho hbl); clear p3 ho hsz hbl))
    generalize w1.heap.size = b3 at *
    generalize w3.heap.size = b4 at *
    go_upto_region 8 with (first
      | ((with_reducible refine gate (N := 44) rfl ?_); refine load_mach rfl _ rfl b3 rfl m hS.out.m2 ?_)
      | (go_at_call 11; (with_reducible refine (hsm.out _ m hF.out.ok).mono ?_); rintro e w5 ⟨v2, rfl, hO, hb⟩; have hle7 := hid (hS.out.call hb).le; replace hS := hid (hz1.out _ _ (hS.out.callOwn hb hO)); clear hb hO)
      | ((with_reducible refine gateOp (op := .store 27 (.tmp 7) (.tmp 46)) rfl ?_); refine store_mach rfl _ _ rfl w5.heap.size rfl (minAns m).1 rfl 27 _ hS.out.m0 ?_; intro w6 p3 ho hsz hbl; replace hS := hid (hS.out.setM hle7.out p3 ho hbl); clear p3 ho hsz hbl)
      | ((with_reducible refine gate (N := 50) rfl ?_); refine load_mach rfl _ rfl b3 rfl m hS.out.m4 ?_)
      | (go_at_call 12; (with_reducible refine (hit.out _ m hF.out.ok).mono ?_); rintro e w7 ⟨v3, rfl, hO, hb⟩; replace hS := hid (hS.out.callOwn hb hO); clear hb hO)
      | ((with_reducible refine gate (N := 55) rfl ?_); refine load_mach rfl _ rfl b3 rfl m hS.out.g5 ?_)
      | (go_at_call 13; (with_reducible refine (hst.out _ m hF.out.ok).mono ?_); rintro e w8 ⟨v4, rfl, hO, hb⟩; replace hS := hid (hS.out.callOwn hb hO); clear hb hO))
    generalize w5.heap.size = b7 at *
    have hP := hid (fun h => min_law (m := m) h)
    have hPk := hid (minAns_sm (m := m) hF.out.ok)
    have hsame := hPk.out.same
    have hPl := hid (minAns_len m)
    have hTl := hid (triAns_len m)
    have q1 := hcy.out (minAns m).2.2
    have q2 := hcy.out (triAns m).2
    generalize (minAns m).1 = P at *
    generalize (minAns m).2.1 = MN at *
    generalize (minAns m).2.2 = mc at *
    generalize (triAns m).1 = TL at *
    generalize (triAns m).2 = tc at *
    obtain ⟨A1, c1, rfl, _, hA1⟩ := hS.out.o5.form
    obtain ⟨A3, c3, rfl, _, hA3⟩ := hS.out.o1.form
    simp only [ints_length] at hS ⊢
    have hA2 := hid (fun (h : 0 < MN.length) => (show ∃ ga, A1 = some ⟨ga, 0, none⟩ from by
      rcases hA1 with ⟨_, h1, _⟩ | ⟨ga, h1, _⟩
      · have := congrArg List.length h1; rw [ints_length, List.length_nil] at this; omega
      · exact ⟨ga, h1⟩))
    have hA4 := hid (fun (h : 0 < TL.length) => (show ∃ ga, A3 = some ⟨ga, 0, none⟩ from by
      rcases hA3 with ⟨_, h1, _⟩ | ⟨ga, h1, _⟩
      · have := congrArg List.length h1; rw [ints_length, List.length_nil] at this; omega
      · exact ⟨ga, h1⟩))
    clear hA1 hA3
    have hm4 := hS.out.m4
    have hm2 := hS.out.m2
    go_upto_if 85 with (first
      | ((with_reducible refine gate (N := 63) rfl ?_); refine load_mach_g (by rfl) _ rfl b4 rfl P hm4 ?_)
      | ((with_reducible refine gate (N := 64) rfl ?_); refine load_mach_g (by rfl) _ rfl b7 rfl P hm2 ?_)
      | (go_at_call 14; (with_reducible refine (hlk.out _ _ _ _ _ MN hS.out.o5 hS.out.o3 hPl.out).mono ?_); rintro e w9 ⟨rfl, hb⟩; replace hS := hid (hS.out.call hb); clear hb hm4 hm2)
      | (go_at_call 14; (with_reducible refine (hlk.out _ _ _ _ _ TL hS.out.o1 hS.out.o0 hTl.out).mono ?_); rintro e w10 ⟨rfl, hb⟩; replace hS := hid (hS.out.call hb).drop; clear hb))
    clear q1 q2
    replace hS := hid hS.out.f1.drop.f1.drop
    go_cut [14, 15, 16, 17, 18, 19, 20, 21, 22, 23, 24, 25] from 86 (fun _ _ _ _ _ _ _ _ _ _ _ _ wr => Below w.heap.size w wr)
    case first =>
      as_aux_lemma =>
        by_cases h0 : mc = 0
        · subst h0
          obtain ⟨l, s, s', MN2, hL, l1, l3, hSm, hSP, hMN, hag, hM2, hact, htr⟩ := hP.out rfl
          have him2 := hid (fun W => him.out W P hPk.out.1)
          rw [hag] at him2
          replace hact := hid hact; replace htr := hid htr
          have hM2l := hid (show (ints MN2).length = s' from by rw [ints_length, hM2])
          have hqs : ((s' : Int) != (s' : Int)) = false := by simp
          have hqs2 : ((MN.length : Int) != (MN.length : Int)) = false := by simp
          clear hP hag
          subst hMN
          have hPl2 := hPl.out
          go_upto_region 12 with (first
            | ((with_reducible refine gate (N := 87) rfl ?_); refine load_mach rfl _ rfl b4 rfl P hS.out.m1 ?_)
            | (go_at_call 10; (with_reducible refine (him2.out _).mono ?_); rintro e w11 ⟨v5, rfl, hO, hb⟩; (obtain ⟨A5, c5, rfl, _, _⟩ := hO.form); rw [hM2l.out]; have hle14 := hid (hS.out.call hb).le; replace hS := hid (hz1.out _ _ (hS.out.call hb)); clear hb hO)
            | ((with_reducible refine gateOp (op := .store 27 (.tmp 14) (.tmp 89)) rfl ?_); refine store_mach rfl _ _ rfl w11.heap.size rfl P rfl 27 _ hS.out.m0 ?_; intro w12 p3 ho hsz hbl; replace hS := hid (hS.out.setM hle14.out p3 ho hbl); clear p3 ho hsz hbl))
          generalize w11.heap.size = b14 at *
          have cS4 := hS.out.m2.cS
          rw [hSP] at cS4
          have cS3 := hS.out.m4.cS
          rw [hSm] at cS3
          have cL3 := hS.out.m4.cL
          rw [hL] at cL3
          go_upto_region 15 with (first
            | ((with_reducible refine gate (N := 95) rfl ?_); refine load_mach_g (by rfl) _ rfl b14 rfl P hS.out.m0 ?_)
            | ((with_reducible refine gate (N := 96) rfl ?_); refine load_mach_g (by rfl) _ rfl b4 rfl P hS.out.m2 ?_)
            | (go_at_call 15; (with_reducible refine (hwd.out _ hS.out.bel l l1 l3).mono ?_); rintro e w13 ⟨u, rfl, hu1, hu2, hb⟩; replace hS := hid (hS.out.call hb).drop; clear hb cS4 cS3 cL3))
          have hact2 := hid (fun k hk => hact.out k hk u hu1 hu2)
          have htr2 := hid (fun t ht => htr.out t ht u hu1 hu2)
          have hus := hid (show (wstr u).size < 1000000000000 from by rw [wstr_size]; omega)
          clear hact htr hu1 hu2
          generalize wstr u = us at *
          go_wp2
          go_loopw [18, 19, 20, 21, 22] (fun i _ _ _ _ wr => ∃ k : Nat, k ≤ MN.length ∧ i = .int .i64 k ∧ St w.heap.size w [Asn.own w.heap.size 2 (.slice A3 TL.length c3) (ints TL), Asn.mb 27 b4 P, Asn.own w.heap.size 2 (.slice A1 MN.length c1) (ints MN), Asn.mb 27 b3 m] wr) (fun i _ _ _ _ _ => MN.length - (intOf i).toNat)
          case atStart => exact ⟨0, Nat.zero_le _, rfl, hS.out⟩
          case round =>
            obtain ⟨k, hk, rfl, rS⟩ := hrel
            clear hS
            have cS := rS.m3.cS
            rw [hSm] at cS
            by_cases hlt : k < MN.length
            · have dk : decide ((k : Int) < (MN.length : Int)) = true := decide_eq_true (by omega)
              have k0 : (0 : Int) ≤ (k : Int) := Int.natCast_nonneg _
              have k1 : (k : Int) < (MN.length : Int) := by omega
              obtain ⟨ga, rfl⟩ := hA2.out (by omega)
              obtain ⟨nk, z, a0, a1, a2⟩ := hact2.out k hlt
              have hcell := hid (show (ints MN)[k]? = some (.int .i64 (nk : Nat)) from by rw [ints, List.getElem?_map, a0]; rfl)
              have pA := hid (fun W => (by have h := haw.out W m hF.out.ok (k : Int) us hus.out; rw [a1] at h; exact h : Calls Try.prog 16 #[.agg (mcells m), .int .i64 k, .string us] W fun e w' => e = .returned (.tuple #[.string z, .int .i64 0]) ∧ Below W.heap.size W w'))
              have pB := hid (fun W => (by have h := haw.out W P hPk.out.1 (nk : Int) us hus.out; rw [a2] at h; exact h : Calls Try.prog 16 #[.agg (mcells P), .int .i64 nk, .string us] W fun e w' => e = .returned (.tuple #[.string z, .int .i64 0]) ∧ Below W.heap.size W w'))
              clear a0 a1 a2
              replace rS := hid rS
              go_upto_region 19 with (first
                | ((with_reducible refine gate (N := 124) rfl ?_); refine load_mach rfl _ rfl b3 rfl m rS.out.m3 ?_)
                | (go_at_call 16; (with_reducible refine (pA.out _).mono ?_); rintro e w14 ⟨rfl, hb⟩; replace rS := hid (rS.out.call hb); clear hb cS))
              replace rS := hid rS.out.drew
              refine wp_region_heldL (L := [(6, (fun w' : World => MB w' 27 b4 P ∧ w'.cell? ⟨ga, k, none⟩ = some (.int .i64 (nk : Nat))))]) (by kernel_rfl) (HeldL.cons (fun _ => ⟨rS.out.m1, rS.out.o2.cellAt k _ hcell.out⟩) HeldL.nil) (fun hHeld => ?_)
              generalize World.drew _ = wd at *
              refine wpAnyL_takeP (i := 0) 6 [] (v := (.agg (mcells P))) (fun w' : World => MB w' 27 b4 P ∧ w'.cell? ⟨ga, k, none⟩ = some (.int .i64 (nk : Nat))) rfl (by kernel_rfl) (by kernel_rfl) (by kernel_rfl) (by rfl) (by kernel_rfl) (by simp) (fun _ _ _ h => h) (Or.inl ⟨by rfl, ?_⟩) (by assumption) ?_
              · (intro W hW; exact exec_load _ rfl rfl (load_run hW.1))
              intro hHeld'
              clear hHeld; have hHeld := hHeld'; clear hHeld'
              try simp only [Act.put, List.getElem_toArray, List.getElem_cons_succ, List.getElem_cons_zero, List.setIfInBounds_toArray, List.set_cons_zero, List.set_cons_succ]
              refine wpAnyL_take0 (i := 1) (v := ?_) rfl (by kernel_rfl) (by kernel_rfl) (by kernel_rfl) (by rfl) (fun _ _ _ h => h) (Or.inl ⟨by rfl, ?_⟩) (by assumption) ?_
              rotate_left
              · (intro W _; go_simp; (with_reducible rfl))
              intro hHeld'
              clear hHeld; have hHeld := hHeld'; clear hHeld'
              try simp only [Act.put, List.getElem_toArray, List.getElem_cons_succ, List.getElem_cons_zero, List.setIfInBounds_toArray, List.set_cons_zero, List.set_cons_succ]
              refine wpAnyL_take0 (i := 2) (v := ?_) rfl (by kernel_rfl) (by kernel_rfl) (by kernel_rfl) (by rfl) (fun _ _ _ h => h) (Or.inl ⟨by rfl, ?_⟩) (by assumption) ?_
              rotate_left
              · (intro W _; go_simp; (with_reducible rfl))
              intro hHeld'
              clear hHeld; have hHeld := hHeld'; clear hHeld'
              try simp only [Act.put, List.getElem_toArray, List.getElem_cons_succ, List.getElem_cons_zero, List.setIfInBounds_toArray, List.set_cons_zero, List.set_cons_succ]
              refine wpAnyL_take0 (i := 3) (v := ?_) rfl (by kernel_rfl) (by kernel_rfl) (by kernel_rfl) (by rfl) (fun _ _ _ h => h) (Or.inl ⟨by rfl, ?_⟩) (by assumption) ?_
              rotate_left
              · (intro W _; go_simp; (with_reducible rfl))
              intro hHeld'
              clear hHeld; have hHeld := hHeld'; clear hHeld'
              try simp only [Act.put, List.getElem_toArray, List.getElem_cons_succ, List.getElem_cons_zero, List.setIfInBounds_toArray, List.set_cons_zero, List.set_cons_succ]
              refine wpAnyL_takeP (i := 4) 6 [] (v := (.int .i64 (nk : Nat))) (fun w' : World => MB w' 27 b4 P ∧ w'.cell? ⟨ga, k, none⟩ = some (.int .i64 (nk : Nat))) rfl (by kernel_rfl) (by kernel_rfl) (by kernel_rfl) (by rfl) (by kernel_rfl) (by simp) (fun _ _ _ h => h) (Or.inl ⟨by rfl, ?_⟩) (by assumption) ?_
              · (intro W hW; (replace hW := hW.2); go_simp)
              intro hHeld'
              clear hHeld; have hHeld := hHeld'; clear hHeld'
              try simp only [Act.put, List.getElem_toArray, List.getElem_cons_succ, List.getElem_cons_zero, List.setIfInBounds_toArray, List.set_cons_zero, List.set_cons_succ]
              refine wpAnyL_take0 (i := 5) (v := ?_) rfl (by kernel_rfl) (by kernel_rfl) (by kernel_rfl) (by rfl) (fun _ _ _ h => h) (Or.inl ⟨by rfl, ?_⟩) (by assumption) ?_
              rotate_left
              · (intro W _; go_simp; (with_reducible rfl))
              intro hHeld'
              clear hHeld; have hHeld := hHeld'; clear hHeld'
              try simp only [Act.put, List.getElem_toArray, List.getElem_cons_succ, List.getElem_cons_zero, List.setIfInBounds_toArray, List.set_cons_zero, List.set_cons_succ]
              refine wpAnyL_ready (rs := [6]) (by kernel_rfl) (by simp) ?_
              refine AllReadyL.cons rfl (fun K hK => ?_) AllReadyL.nil
              go_simp
              (with_reducible refine (pB.out _).mono ?_)
              rintro e w15 ⟨rfl, hb⟩
              replace rS := hid (rS.out.call hb)
              clear hb
              go_simp
              refine hK.out _ _ (HeldL.cons (fun h => absurd h (by decide +kernel)) HeldL.nil) (fun hHeld' => ?_)
              clear hK K hHeld; have hHeld := hHeld'; clear hHeld'
              try simp only [Act.put, List.getElem_toArray, List.getElem_cons_succ, List.getElem_cons_zero, List.setIfInBounds_toArray, List.set_cons_zero, List.set_cons_succ]
              refine wpAnyL_take0 (i := 7) (v := ?_) rfl (by kernel_rfl) (by kernel_rfl) (by kernel_rfl) (by rfl) (fun _ _ _ h => h) (Or.inl ⟨by rfl, ?_⟩) (by assumption) ?_
              rotate_left
              · (intro W _; go_simp; (with_reducible rfl))
              intro hHeld'
              clear hHeld; have hHeld := hHeld'; clear hHeld'
              try simp only [Act.put, List.getElem_toArray, List.getElem_cons_succ, List.getElem_cons_zero, List.setIfInBounds_toArray, List.set_cons_zero, List.set_cons_succ]
              refine wpAnyL_take0 (i := 8) (v := ?_) rfl (by kernel_rfl) (by kernel_rfl) (by kernel_rfl) (by rfl) (fun _ _ _ h => h) (Or.inl ⟨by rfl, ?_⟩) (by assumption) ?_
              rotate_left
              · (intro W _; go_simp; (with_reducible rfl))
              intro hHeld'
              clear hHeld; have hHeld := hHeld'; clear hHeld'
              try simp only [Act.put, List.getElem_toArray, List.getElem_cons_succ, List.getElem_cons_zero, List.setIfInBounds_toArray, List.set_cons_zero, List.set_cons_succ]
              refine wpAnyL_take0 (i := 9) (v := ?_) rfl (by kernel_rfl) (by kernel_rfl) (by kernel_rfl) (by rfl) (fun _ _ _ h => h) (Or.inl ⟨by rfl, ?_⟩) (by assumption) ?_
              rotate_left
              · (intro W _; go_simp; (with_reducible rfl))
              intro hHeld'
              clear hHeld; have hHeld := hHeld'; clear hHeld'
              try simp only [Act.put, List.getElem_toArray, List.getElem_cons_succ, List.getElem_cons_zero, List.setIfInBounds_toArray, List.set_cons_zero, List.set_cons_succ]
              refine wpAnyL_take0 (i := 10) (v := ?_) rfl (by kernel_rfl) (by kernel_rfl) (by kernel_rfl) (by rfl) (fun _ _ _ h => h) (Or.inl ⟨by rfl, ?_⟩) (by assumption) ?_
              rotate_left
              · (intro W _; go_simp; (with_reducible rfl))
              intro hHeld'
              clear hHeld; have hHeld := hHeld'; clear hHeld'
              try simp only [Act.put, List.getElem_toArray, List.getElem_cons_succ, List.getElem_cons_zero, List.setIfInBounds_toArray, List.set_cons_zero, List.set_cons_succ]
              refine wpAnyL_take0 (i := 11) (v := ?_) rfl (by kernel_rfl) (by kernel_rfl) (by kernel_rfl) (by rfl) (fun _ _ _ h => h) (Or.inl ⟨by rfl, ?_⟩) (by assumption) ?_
              rotate_left
              · (intro W _; go_simp; (with_reducible rfl))
              intro hHeld'
              clear hHeld; have hHeld := hHeld'; clear hHeld'
              try simp only [Act.put, List.getElem_toArray, List.getElem_cons_succ, List.getElem_cons_zero, List.setIfInBounds_toArray, List.set_cons_zero, List.set_cons_succ]
              refine wpAnyL_done (by kernel_rfl) ?_ _
              go_wp2
              go_roundw
              case rel => exact ⟨k + 1, by omega, by go_num, rS.out⟩
              case measure => simp [intOf]; omega
            · obtain rfl : k = MN.length := by omega
              have dk : decide ((MN.length : Int) < (MN.length : Int)) = false := decide_eq_false (by omega)
              have rS0 := hid rS
              clear rS hact2
              go_wp2
              clear cS
              go_loopw [23, 24, 25] (fun i _ _ wr => ∃ j : Nat, j ≤ TL.length ∧ i = .int .i64 j ∧ St w.heap.size w [Asn.own w.heap.size 2 (.slice A3 TL.length c3) (ints TL), Asn.mb 27 b4 P, Asn.own w.heap.size 2 (.slice A1 MN.length c1) (ints MN), Asn.mb 27 b3 m] wr) (fun i _ _ _ => TL.length - (intOf i).toNat)
              case atStart => exact ⟨0, Nat.zero_le _, rfl, rS0.out⟩
              case round =>
                obtain ⟨j, hj, rfl, rS⟩ := hrel
                clear rS0
                by_cases hlt : j < TL.length
                · have dj : decide ((j : Int) < (TL.length : Int)) = true := decide_eq_true (by omega)
                  have j0 : (0 : Int) ≤ (j : Int) := Int.natCast_nonneg _
                  have j1 : (j : Int) < (TL.length : Int) := by omega
                  have hTl2 := hTl.out
                  obtain ⟨ga, rfl⟩ := hA4.out (by omega)
                  obtain ⟨t, ht⟩ : ∃ t, TL[j]? = some t := ⟨_, List.getElem?_eq_getElem hlt⟩
                  have hcell := hid (show (ints TL)[j]? = some (.int .i64 t) from by rw [ints, List.getElem?_map, ht]; rfl)
                  have pA := hid (fun W => (by have h := haw.out W m hF.out.ok t us hus.out; rw [htr2.out t (List.mem_of_getElem? ht)] at h; exact h : Calls Try.prog 16 #[.agg (mcells m), .int .i64 t, .string us] W fun e w' => e = .returned (.tuple #[.string us, .int .i64 0]) ∧ Below W.heap.size W w'))
                  clear ht
                  replace rS := hid rS
                  go_upto_region 25 with (fail)
                  replace rS := hid rS.out.drew
                  refine wp_region_heldL (L := [(6, (fun w' : World => MB w' 27 b3 m ∧ w'.cell? ⟨ga, j, none⟩ = some (.int .i64 t)))]) (by kernel_rfl) (HeldL.cons (fun _ => ⟨rS.out.m3, rS.out.o0.cellAt j _ hcell.out⟩) HeldL.nil) (fun hHeld => ?_)
                  generalize World.drew _ = wd at *
                  refine wpAnyL_takeP (i := 0) 6 [] (v := (.agg (mcells m))) (fun w' : World => MB w' 27 b3 m ∧ w'.cell? ⟨ga, j, none⟩ = some (.int .i64 t)) rfl (by kernel_rfl) (by kernel_rfl) (by kernel_rfl) (by rfl) (by kernel_rfl) (by simp) (fun _ _ _ h => h) (Or.inl ⟨by rfl, ?_⟩) (by assumption) ?_
                  · (intro W hW; exact exec_load _ rfl rfl (load_run hW.1))
                  intro hHeld'
                  clear hHeld; have hHeld := hHeld'; clear hHeld'
                  try simp only [Act.put, List.getElem_toArray, List.getElem_cons_succ, List.getElem_cons_zero, List.setIfInBounds_toArray, List.set_cons_zero, List.set_cons_succ]
                  refine wpAnyL_take0 (i := 1) (v := ?_) rfl (by kernel_rfl) (by kernel_rfl) (by kernel_rfl) (by rfl) (fun _ _ _ h => h) (Or.inl ⟨by rfl, ?_⟩) (by assumption) ?_
                  rotate_left
                  · (intro W _; go_simp; (with_reducible rfl))
                  intro hHeld'
                  clear hHeld; have hHeld := hHeld'; clear hHeld'
                  try simp only [Act.put, List.getElem_toArray, List.getElem_cons_succ, List.getElem_cons_zero, List.setIfInBounds_toArray, List.set_cons_zero, List.set_cons_succ]
                  refine wpAnyL_take0 (i := 2) (v := ?_) rfl (by kernel_rfl) (by kernel_rfl) (by kernel_rfl) (by rfl) (fun _ _ _ h => h) (Or.inl ⟨by rfl, ?_⟩) (by assumption) ?_
                  rotate_left
                  · (intro W _; go_simp; (with_reducible rfl))
                  intro hHeld'
                  clear hHeld; have hHeld := hHeld'; clear hHeld'
                  try simp only [Act.put, List.getElem_toArray, List.getElem_cons_succ, List.getElem_cons_zero, List.setIfInBounds_toArray, List.set_cons_zero, List.set_cons_succ]
                  refine wpAnyL_take0 (i := 3) (v := ?_) rfl (by kernel_rfl) (by kernel_rfl) (by kernel_rfl) (by rfl) (fun _ _ _ h => h) (Or.inl ⟨by rfl, ?_⟩) (by assumption) ?_
                  rotate_left
                  · (intro W _; go_simp; (with_reducible rfl))
                  intro hHeld'
                  clear hHeld; have hHeld := hHeld'; clear hHeld'
                  try simp only [Act.put, List.getElem_toArray, List.getElem_cons_succ, List.getElem_cons_zero, List.setIfInBounds_toArray, List.set_cons_zero, List.set_cons_succ]
                  refine wpAnyL_takeP (i := 4) 6 [] (v := (.int .i64 t)) (fun w' : World => MB w' 27 b3 m ∧ w'.cell? ⟨ga, j, none⟩ = some (.int .i64 t)) rfl (by kernel_rfl) (by kernel_rfl) (by kernel_rfl) (by rfl) (by kernel_rfl) (by simp) (fun _ _ _ h => h) (Or.inl ⟨by rfl, ?_⟩) (by assumption) ?_
                  · (intro W hW; (replace hW := hW.2); go_simp)
                  intro hHeld'
                  clear hHeld; have hHeld := hHeld'; clear hHeld'
                  try simp only [Act.put, List.getElem_toArray, List.getElem_cons_succ, List.getElem_cons_zero, List.setIfInBounds_toArray, List.set_cons_zero, List.set_cons_succ]
                  refine wpAnyL_take0 (i := 5) (v := ?_) rfl (by kernel_rfl) (by kernel_rfl) (by kernel_rfl) (by rfl) (fun _ _ _ h => h) (Or.inl ⟨by rfl, ?_⟩) (by assumption) ?_
                  rotate_left
                  · (intro W _; go_simp; (with_reducible rfl))
                  intro hHeld'
                  clear hHeld; have hHeld := hHeld'; clear hHeld'
                  try simp only [Act.put, List.getElem_toArray, List.getElem_cons_succ, List.getElem_cons_zero, List.setIfInBounds_toArray, List.set_cons_zero, List.set_cons_succ]
                  refine wpAnyL_ready (rs := [6]) (by kernel_rfl) (by simp) ?_
                  refine AllReadyL.cons rfl (fun K hK => ?_) AllReadyL.nil
                  go_simp
                  (with_reducible refine (pA.out _).mono ?_)
                  rintro e w15 ⟨rfl, hb⟩
                  replace rS := hid (rS.out.call hb)
                  clear hb
                  go_simp
                  refine hK.out _ _ (HeldL.cons (fun h => absurd h (by decide +kernel)) HeldL.nil) (fun hHeld' => ?_)
                  clear hK K hHeld; have hHeld := hHeld'; clear hHeld'
                  try simp only [Act.put, List.getElem_toArray, List.getElem_cons_succ, List.getElem_cons_zero, List.setIfInBounds_toArray, List.set_cons_zero, List.set_cons_succ]
                  refine wpAnyL_take0 (i := 7) (v := ?_) rfl (by kernel_rfl) (by kernel_rfl) (by kernel_rfl) (by rfl) (fun _ _ _ h => h) (Or.inl ⟨by rfl, ?_⟩) (by assumption) ?_
                  rotate_left
                  · (intro W _; go_simp; (with_reducible rfl))
                  intro hHeld'
                  clear hHeld; have hHeld := hHeld'; clear hHeld'
                  try simp only [Act.put, List.getElem_toArray, List.getElem_cons_succ, List.getElem_cons_zero, List.setIfInBounds_toArray, List.set_cons_zero, List.set_cons_succ]
                  refine wpAnyL_take0 (i := 8) (v := ?_) rfl (by kernel_rfl) (by kernel_rfl) (by kernel_rfl) (by rfl) (fun _ _ _ h => h) (Or.inl ⟨by rfl, ?_⟩) (by assumption) ?_
                  rotate_left
                  · (intro W _; go_simp; (with_reducible rfl))
                  intro hHeld'
                  clear hHeld; have hHeld := hHeld'; clear hHeld'
                  try simp only [Act.put, List.getElem_toArray, List.getElem_cons_succ, List.getElem_cons_zero, List.setIfInBounds_toArray, List.set_cons_zero, List.set_cons_succ]
                  refine wpAnyL_take0 (i := 9) (v := ?_) rfl (by kernel_rfl) (by kernel_rfl) (by kernel_rfl) (by rfl) (fun _ _ _ h => h) (Or.inl ⟨by rfl, ?_⟩) (by assumption) ?_
                  rotate_left
                  · (intro W _; go_simp; (with_reducible rfl))
                  intro hHeld'
                  clear hHeld; have hHeld := hHeld'; clear hHeld'
                  try simp only [Act.put, List.getElem_toArray, List.getElem_cons_succ, List.getElem_cons_zero, List.setIfInBounds_toArray, List.set_cons_zero, List.set_cons_succ]
                  refine wpAnyL_take0 (i := 10) (v := ?_) rfl (by kernel_rfl) (by kernel_rfl) (by kernel_rfl) (by rfl) (fun _ _ _ h => h) (Or.inl ⟨by rfl, ?_⟩) (by assumption) ?_
                  rotate_left
                  · (intro W _; go_simp; (with_reducible rfl))
                  intro hHeld'
                  clear hHeld; have hHeld := hHeld'; clear hHeld'
                  try simp only [Act.put, List.getElem_toArray, List.getElem_cons_succ, List.getElem_cons_zero, List.setIfInBounds_toArray, List.set_cons_zero, List.set_cons_succ]
                  refine wpAnyL_take0 (i := 11) (v := ?_) rfl (by kernel_rfl) (by kernel_rfl) (by kernel_rfl) (by rfl) (fun _ _ _ h => h) (Or.inl ⟨by rfl, ?_⟩) (by assumption) ?_
                  rotate_left
                  · (intro W _; go_simp; (with_reducible rfl))
                  intro hHeld'
                  clear hHeld; have hHeld := hHeld'; clear hHeld'
                  try simp only [Act.put, List.getElem_toArray, List.getElem_cons_succ, List.getElem_cons_zero, List.setIfInBounds_toArray, List.set_cons_zero, List.set_cons_succ]
                  refine wpAnyL_done (by kernel_rfl) ?_ _
                  go_wp2
                  go_roundw
                  case rel => exact ⟨j + 1, by omega, by go_num, rS.out⟩
                  case measure => simp [intOf]; omega
                · obtain rfl : j = TL.length := by omega
                  have dj : decide ((TL.length : Int) < (TL.length : Int)) = false := decide_eq_false (by omega)
                  replace rS := hid rS
                  go_wp2
                  go_meet
                  case rel => exact rS.out.bel
        · have d0 : ((mc : Int) == 0) = false := by simpa using h0
          clear hP
          go_wp2
          go_meet
          case rel => exact hS.out.bel
    case rest =>
      as_aux_lemma =>
        clear hS hP hPk hPl hTl hF hA2 hA4
        have hS0 := hid ((St.start w).call hcut)
        clear hcut
        go_upto_region 31 with (first
          | (go_at_call 17; (with_reducible refine (hdr2.out _ hS0.out.bel).mono ?_); rintro e w1 ⟨k, q, r, rfl, hF, hb⟩; have hle := hid (hS0.out.call hb).le; have hS := hid (hz1.out _ _ (hS0.out.call hb)); clear hb hS0)
          | ((with_reducible refine gateOp (op := .store 27 (.tmp 26) (.tmp 177)) rfl ?_); refine store_mach rfl _ _ rfl w1.heap.size rfl k rfl 27 _ hS.out.m0 ?_; intro w2 p3 ho hsz hbl; replace hS := hid (hS.out.setM hle.out p3 ho hbl); clear p3 ho hsz hbl)
          | ((with_reducible refine gate (N := 181) rfl ?_); refine load_mach rfl _ rfl w1.heap.size rfl k hS.out.m0 ?_)
          | (go_at_call 18; (with_reducible refine (hia.out _ k hF.out.1.ok q r).mono ?_); rintro e w3 ⟨rfl, hb⟩; replace hS := hid (hS.out.call hb); clear hb)
          | ((with_reducible refine gate (N := 188) rfl ?_); refine load_mach rfl _ rfl w1.heap.size rfl k hS.out.m0 ?_)
          | (go_at_call 19; (with_reducible refine (hsa.out _ k hF.out.1.ok q r).mono ?_); rintro e w4 ⟨rfl, hb⟩; replace hS := hid (hS.out.call hb); clear hb))
        generalize (aesAns k q r).1 = B at *
        generalize (aesAns k q r).2 = c at *
        have q1 : ((c : Int) == c) = true := by simp
        have q2 : ((B : Bool) == B) = true := by simp
        go_wp2
        go_ret
        exact ⟨rfl, hS.out.bel⟩
  · have dl : decide (4096 < l.length) = true := decide_eq_true (by omega)
    rw [dl] at hbg
    go_enter Try.func3, Try.ntmps3
    go_wp2_with (
      (go_at_call 8; (with_reducible refine (hbg.out).mono ?_); rintro e w1 ⟨rfl, rfl⟩))
    go_ret
    exact ⟨rfl, Below.refl _ _⟩
end Go.Proofs.Ytbmkkaecfogmoaa
