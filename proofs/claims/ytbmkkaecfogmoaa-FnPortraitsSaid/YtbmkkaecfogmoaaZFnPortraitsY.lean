/- What the proof of FnPortraits leans on, part 25 of 26. -/
import Derived.Test.YtbmkkaecfogmoaaZFnPortraitsX
/- The program's portraitFrom at any list, PortraitOfPermutation. -/
namespace Go.Proofs.Ytbmkkaecfogmoaa
open Go.RowKit
set_option linter.unusedVariables false
set_option linter.unusedSimpArgs false
-- @LONG

set_option maxHeartbeats 1000000 in
theorem pfr1g_any (b b2 : Nat) (w : World) (d n : Nat) (hd : d = 2 ∨ d = 3) (hn : n ≤ 5) (hb : w.cell? ⟨b, 0, none⟩ = some (.int .i64 d)) (hb2 : w.cell? ⟨b2, 0, none⟩ = some (.int .i64 n)) (k : Int) :
    Calls Try.prog 208 #[.int .i64 k, .pointer (some ⟨b, 0, none⟩), .pointer (some ⟨b2, 0, none⟩)] w fun e w' => e = .returned (.bool (!decide (0 ≤ k ∧ k ≤ ((pw d n : Nat) : Int) - 1))) ∧ Below w.heap.size w w' := by
  have h5 := pw5 (n := n) hd hn
  have hpw := hid (fun W => power_any d n (by omega) (by omega) (by omega) W)
  have hin := hid (fun W => within_any k 0 ((pw d n : Nat) - 1) _ rfl W)
  have ew : wrap64 (((pw d n : Nat) : Int) - 1) = ((pw d n : Nat) : Int) - 1 := w64 (by omega) (by omega)
  have ew2 : IntKind.i64.wrap (((pw d n : Nat) : Int) - 1) = ((pw d n : Nat) : Int) - 1 := IntWalk.i64_in _ (by omega)
  generalize decide (0 ≤ k ∧ k ≤ ((pw d n : Nat) : Int) - 1) = r at *
  generalize pw d n = N at *
  go_enter Try.func208, Try.ntmps208
  go_wp2_with (first
    | (go_at_call 176; (with_reducible refine (hpw.out _).mono ?_); rintro e w' ⟨rfl, rfl⟩)
    | (go_at_call 124; (with_reducible refine (hin.out _).mono ?_); rintro e w' ⟨rfl, rfl⟩))
  go_ret
  exact ⟨rfl, Below.refl _ _⟩
set_option maxHeartbeats 1000000 in
set_option maxRecDepth 100000 in
theorem indexFuncI_pfg (b b2 : Nat) (w : World) (base : Nat) (v : Value) (l : List Int) (h : Own w base 2 v (ints l)) (hl : l.length < 2000000) (p : Int → Bool)
    (hcall : ∀ W, Below w.heap.size w W → ∀ x, x ∈ l → Calls Try.prog 208 #[.int .i64 x, .pointer (some ⟨b, 0, none⟩), .pointer (some ⟨b2, 0, none⟩)] W fun e w' => e = .returned (.bool (p x)) ∧ Below W.heap.size W w') :
    Calls Try.prog 218 #[v, .func (.func 208) #[] #[.pointer (some ⟨b, 0, none⟩), .pointer (some ⟨b2, 0, none⟩)]] w fun e w' => e = .returned (.int .i64 (idxP p l 0)) ∧ Below w.heap.size w w' := by
  have hil := ints_length l
  obtain ⟨A1, c1, rfl, _, _⟩ := h.form
  rw [hil] at h ⊢
  have hget := hid (fun (k : Nat) (x : Int) (hx : l[k]? = some x) => (show (ints l)[k]? = some (.int .i64 x) by simp [ints, hx]))
  have hcell := hid (fun (k : Nat) (x : Int) (hx : l[k]? = some x) => (show ∃ g, A1 = some ⟨g, 0, none⟩ ∧ ∀ W, Below w.heap.size w W → W.cell? ⟨g, k, none⟩ = some (.int .i64 x) from by
    obtain ⟨g1, c2, he, _, hg1⟩ := h.blk (fun e => by have h1 := congrArg List.length e; rw [hil] at h1; have h2 := (List.getElem?_eq_some_iff.1 hx).1; rw [List.length_nil] at h1; omega)
    injection he with e1 e2 e3
    subst e1
    exact ⟨g1, rfl, fun W hW => (h.below hW).cellAt k _ (hget.out k x hx)⟩))
  replace hcall := hid hcall
  clear h hil
  obtain ⟨R, hR⟩ : ∃ R, R = idxP p l 0 := ⟨_, rfl⟩
  rw [← hR]
  replace hR := hid hR
  generalize hn : l.length = n at *
  replace hn := hid hn
  go_enter Try.func218, Try.ntmps218
  go_wp2
  go_loopw [8] (fun i wr => ∃ k : Nat, k ≤ n ∧ i = .int .i64 k ∧ Hid (R = idxP p (l.drop k) k) ∧ Below w.heap.size w wr) (fun i _ => n - (intOf i).toNat)
  case atStart => exact ⟨0, Nat.zero_le _, rfl, hR, Below.refl _ _⟩
  case round =>
    obtain ⟨k, hk, rfl, hA, rB⟩ := hrel
    clear hR
    replace rB := hid rB
    by_cases hlt : k < n
    · obtain ⟨x, hx⟩ : ∃ x, l[k]? = some x := ⟨_, List.getElem?_eq_getElem (by rw [hn.out]; exact hlt)⟩
      obtain ⟨g, rfl, hc⟩ := hcell.out k x hx
      have d1 := hc wr rB.out
      have hcl := hid (hcall.out wr rB.out x (List.mem_of_getElem? hx))
      have hT := hid (fun hp => idxP_drop_t (p := p) hx hp k)
      have hF := hid (fun hp => idxP_drop_f (p := p) hx hp k)
      clear hc hx
      cases hp : p x with
      | true =>
        rw [hp] at hcl
        have hA2 := hid (hA.out.trans (hT.out hp))
        clear hp hT hF
        go_wp2_with (first
          | (go_at_call 208; (with_reducible refine (hcl.out).mono ?_); rintro e w1 ⟨rfl, hb⟩; replace rB := hid (rB.out.trans (hb.mono rB.out.size)); clear hb))
        go_ret
        exact ⟨retI (by rw [hA2.out]), rB.out⟩
      | false =>
        rw [hp] at hcl
        have hA2 := hid (hA.out.trans (hF.out hp))
        clear hp hT hF
        go_wp2_with (first
          | (go_at_call 208; (with_reducible refine (hcl.out).mono ?_); rintro e w1 ⟨rfl, hb⟩; replace rB := hid (rB.out.trans (hb.mono rB.out.size)); clear hb))
        go_roundw
        case rel => exact ⟨k + 1, by omega, by go_num, hA2, rB.out⟩
        case measure => simp [intOf]; omega
    · obtain rfl : k = n := by omega
      have hA2 := hid (hA.out.trans (show _ = (-1 : Int) by rw [List.drop_eq_nil_of_le (by rw [hn.out]; exact Nat.le_refl _)]; rfl))
      go_wp2
      go_ret
      exact ⟨retI (by rw [hA2.out]), rB.out⟩
set_option maxHeartbeats 1000000 in
theorem containsFuncI_pfg (b b2 : Nat) (w : World) (base : Nat) (v : Value) (l : List Int) (h : Own w base 2 v (ints l)) (hl : l.length < 2000000) (p : Int → Bool)
    (hcall : ∀ W, Below w.heap.size w W → ∀ x, x ∈ l → Calls Try.prog 208 #[.int .i64 x, .pointer (some ⟨b, 0, none⟩), .pointer (some ⟨b2, 0, none⟩)] W fun e w' => e = .returned (.bool (p x)) ∧ Below W.heap.size W w') :
    Calls Try.prog 122 #[v, .func (.func 208) #[] #[.pointer (some ⟨b, 0, none⟩), .pointer (some ⟨b2, 0, none⟩)]] w fun e w' => e = .returned (.bool (l.any p)) ∧ Below w.heap.size w w' := by
  have hi := hid (indexFuncI_pfg b b2 w base v l h hl p hcall)
  have ha := hid (idxP_any p l 0 (Int.le_refl _))
  clear hcall h hl
  generalize idxP p l 0 = r at *
  generalize l.any p = c at *
  go_enter Try.func122, Try.ntmps122
  go_wp2_with (first
    | (go_at_call 218; (with_reducible refine (hi.out).mono ?_); rintro e w1 ⟨rfl, hb⟩; replace hb := hid hb))
  go_ret
  refine ⟨retB ?_, hb.out⟩
  have h := ha.out
  rw [Bool.eq_iff_iff, ← h]
  simp
set_option maxHeartbeats 4000000 in
set_option maxRecDepth 100000 in
/-- The number of what a list tells of the letters behind a word. -/
theorem pfr2g_any (base : Nat) (w0 w : World) (b3 b2 b1 : Nat) (d n : Nat) (hd : d = 2 ∨ d = 3) (hn : n ≤ 4) (P : List Nat) (hPl : P.length = pw d n) (hPr : ∀ x ∈ P, x < pw d n) (bv : Nat) (v : Value)
    (hS : St base w0 [Asn.blk b3 #[v] 29, Asn.blk b2 #[.int .i64 n] 2, Asn.blk b1 #[.int .i64 d] 2, Asn.own bv 2 v (nats P)] w)
    (u : List Nat) (hu : ∀ x ∈ u, x < d) (hlen : u.length < n) :
    Calls Try.prog 210 #[.string (wstr u), .pointer (some ⟨b1, 0, none⟩), .pointer (some ⟨b2, 0, none⟩), .pointer (some ⟨b3, 0, none⟩)] w fun e w' => e = .returned (.int .i64 (pnm (rC d n P u))) ∧ Below w.heap.size w w' := by
  have hpos := pw_pos d (by omega) n
  have hN := pw5 (n := n) hd (by omega)
  have hnl := nats_length P
  rw [hPl] at hnl
  obtain ⟨ga, ca, rfl, _, _⟩ := hS.o3.blk (fun e => by rw [e] at hnl; simp at hnl; omega)
  rw [hnl] at hS
  have hc := hid (fun W (hW : Below w.heap.size w W) => (show W.cell? ⟨b1, 0, none⟩ = some (.int .i64 d) ∧ W.cell? ⟨b2, 0, none⟩ = some (.int .i64 n) ∧ W.cell? ⟨b3, 0, none⟩ = some (.slice (some ⟨ga, 0, none⟩) (pw d n) ca) ∧ ∀ j, j < pw d n → W.cell? ⟨ga, j, none⟩ = some (.int .i64 (P.getD j 0 : Nat)) from by
    have h := hS.call hW
    refine ⟨blkc h.k2, blkc h.k1, blkc h.k0, fun j hj => h.o3.cellAt j _ ?_⟩
    rw [nats, List.getElem?_map, List.getD_eq_getElem?_getD]
    have hj' : j < P.length := by rw [hPl]; exact hj
    rw [List.getElem?_eq_getElem hj']; rfl))
  have hnm := hid (fun W => numberOf_any d (by omega) (by omega) u hu (by have := pw5 (n := u.length) hd (by omega); omega) (by omega) W)
  have hp1 := hid (fun W => power_any d (n - u.length) (by omega) (by have := pw5 (n := n - u.length) hd (by omega); omega) (by omega) W)
  have hp2 := hid (fun W => power_any d (n - u.length - 1) (by omega) (by have := pw5 (n := n - u.length - 1) hd (by omega); omega) (by omega) W)
  have hrd := hid (fun x (hx : x < d) => (show num d u * pw d (n - u.length) + x * pw d (n - u.length - 1) < pw d n ∧ P.getD (num d u * pw d (n - u.length) + x * pw d (n - u.length - 1)) 0 / pw d (n - u.length - 1) % d = lC d n P u x from ⟨(pmF_read hd (Aut.id d n) hu hlen hx).1, rfl⟩))
  have hsz := wstr_size u
  have hP2 := pw_pos d (by omega) (n - u.length - 1)
  have hP2u := pw5 (n := n - u.length - 1) hd (by omega)
  have hyl := hid (fun x (hx : x < d) => (show lC d n P u x < d from Nat.mod_lt _ (by omega)))
  have hmu : num d u * pw d (n - u.length) < pw d n := by have h := (hrd.out 0 (by omega)).1; omega
  have hget := hid (fun j (hj : j < pw d n) => (show P.getD j 0 < pw d n from by
    rw [List.getD_eq_getElem?_getD]
    have hj' : j < P.length := by rw [hPl]; exact hj
    rw [List.getElem?_eq_getElem hj']
    exact hPr _ (List.getElem_mem hj')))
  obtain ⟨Y, hY⟩ : ∃ Y : Nat → Nat, Y = lC d n P u := ⟨_, rfl⟩
  have hYe := hid (fun x => (show lC d n P u x = Y x by rw [hY]))
  obtain ⟨R, hR⟩ : ∃ R : Nat → List Int, R = fun k => (List.range k).map fun x => ((Y x : Nat) : Int) := ⟨_, rfl⟩
  have hR0 := hid (show R 0 = [] by rw [hR]; rfl)
  have hRs := hid (fun k => (show R (k + 1) = R k ++ [((Y k : Nat) : Int)] by rw [hR]; simp [List.range_succ]))
  have hRl := hid (fun k => (show (R k).length = k by rw [hR]; simp))
  have hRd : rC d n P u = R d := by rw [hR, hY]; rfl
  rw [hRd]
  have hpn := hid (fun W b v (hO : Own W b 2 v (ints (R d))) => (by have h := permutationNumber_any W b v _ hO (by rw [hRl.out]; omega); rw [pnI_of (by rw [hRl.out]; omega)] at h; exact h : Calls Try.prog 143 #[v] W fun e w' => e = .returned (.int .i64 (pnm (R d))) ∧ Below W.heap.size W w'))
  simp only [hYe.out] at hrd hyl
  have e1 : IntKind.i64.wrap ((n : Int) - (u.length : Int)) = ((n - u.length : Nat) : Int) := by rw [show (n : Int) - (u.length : Int) = ((n - u.length : Nat) : Int) by omega]; exact IntWalk.i64_in _ (by omega)
  have e2 : IntKind.i64.wrap (((n - u.length : Nat) : Int) - 1) = ((n - u.length - 1 : Nat) : Int) := by rw [show ((n - u.length : Nat) : Int) - 1 = ((n - u.length - 1 : Nat) : Int) by omega]; exact IntWalk.i64_in _ (by omega)
  have e3 : IntKind.i64.wrap (((num d u : Nat) : Int) * ((pw d (n - u.length) : Nat) : Int)) = ((num d u * pw d (n - u.length) : Nat) : Int) := by rw [← Int.natCast_mul]; exact IntWalk.i64_in _ (by omega)
  clear hR hY hRd hu hPr hS hYe
  generalize hK : pnm (R d) = PN at *
  clear hK
  generalize num d u * pw d (n - u.length) = first at *
  generalize pw d (n - u.length) = N1 at *
  generalize hNN : pw d (n - u.length - 1) = N2 at *
  clear hNN
  generalize num d u = nu at *
  generalize n - u.length - 1 = k2 at *
  generalize n - u.length = k1 at *
  generalize pw d n = N at *
  generalize u.length = k at *
  generalize wstr u = us at *
  have hS0 := hid ((St.start w).nilOwn 2)
  have c1 := (hc.out w (Below.refl _ _)).1
  have c2 := (hc.out w (Below.refl _ _)).2.1
  have c3 := (hc.out w (Below.refl _ _)).2.2.1
  go_enter Try.func210, Try.ntmps210
  go_upto_region 2 with (fail)
  go_quiet (first
    | (go_at_call 211; exact quiet_same (hnm.out _))
    | (go_at_call 176; exact quiet_same (hp1.out _)))
  replace hS0 := hid (hS0.out.drewN nq)
  clear c1 c2 c3
  have c1 := (hc.out _ hS0.out.bel).1
  go_wp2
  clear c1
  go_loopw [8, 23] (fun o i wr => ∃ x : Nat, x ≤ d ∧ i = .int .i64 x ∧ St w.heap.size w [Asn.own w.heap.size 2 o (ints (R x))] wr) (fun _ i _ => d - (intOf i).toNat)
  case atStart => exact ⟨0, Nat.zero_le _, rfl, by rw [hR0.out]; exact hS0.out⟩
  case round =>
    obtain ⟨x, hx, rfl, rS⟩ := hrel
    clear hS0
    have c1 := (hc.out wr rS.bel).1
    have c2 := (hc.out wr rS.bel).2.1
    have c3 := (hc.out wr rS.bel).2.2.1
    by_cases hlt : x < d
    · have dx : decide ((x : Int) < (d : Int)) = true := decide_eq_true (by omega)
      obtain ⟨r1, r2⟩ := hrd.out x hlt
      have c4 := (hc.out wr rS.bel).2.2.2 _ r1
      have hgt := hget.out _ r1
      have hy := hyl.out x hlt
      have e4 : IntKind.i64.wrap ((x : Int) * (N2 : Int)) = ((x * N2 : Nat) : Int) := by rw [← Int.natCast_mul]; exact IntWalk.i64_in _ (by omega)
      have e5 : IntKind.i64.wrap ((first : Int) + ((x * N2 : Nat) : Int)) = ((first + x * N2 : Nat) : Int) := by rw [← Int.natCast_add]; exact IntWalk.i64_in _ (by omega)
      generalize x * N2 = xn at *
      generalize first + xn = ix at *
      generalize P.getD ix 0 = tv at *
      have i0 : (0 : Int) ≤ (ix : Int) := Int.natCast_nonneg _
      have i1 : (ix : Int) < (N : Int) := by omega
      have dz : ¬ (N2 : Int) = 0 := by omega
      have dz2 : ¬ (d : Int) = 0 := by omega
      have dz3 : ¬ N2 = 0 := by omega
      have dz4 : ¬ d = 0 := by omega
      obtain ⟨qv, hqv⟩ : ∃ qv, qv = tv / N2 := ⟨_, rfl⟩
      have m2 : Int.tdiv (tv : Int) (N2 : Int) = (qv : Int) := by rw [hqv, Int.tdiv_eq_ediv_of_nonneg (Int.natCast_nonneg _)]; rfl
      have hq : qv ≤ tv := by rw [hqv]; exact Nat.div_le_self tv N2
      have m1 : Int.tmod (qv : Int) (d : Int) = ((Y x : Nat) : Int) := by rw [← r2, hqv, Int.tmod_eq_emod_of_nonneg (Int.natCast_nonneg _)]; rfl
      clear hqv
      have s1 : IntKind.i64.wrap (qv : Int) = (qv : Int) := IntWalk.i64_in _ (by omega)
      have s2 : IntKind.i64.wrap ((Y x : Nat) : Int) = ((Y x : Nat) : Int) := IntWalk.i64_in _ (by omega)
      have hRx := hid (hRs.out x)
      have hlx := hid (show (ints (R x)).length = x by rw [ints_length, hRl.out])
      generalize Y x = y at *
      replace rS := hid rS
      go_upto_region 7 with (fail)
      go_quiet (
        (go_at_call 176; exact quiet_same (hp2.out _)))
      replace rS := hid (rS.out.drewN nq)
      clear c1 c2 c3 c4
      generalize World.drewN wr nq = wq at *
      go_upto_region 8 with (fail)
      replace rS := hid rS.out.drew
      have T1 := (hc.out wq.drew rS.out.bel).1
      have T2 := (hc.out wq.drew rS.out.bel).2.1
      refine wp_region_heldL (L := [(12, (fun w' : World => w'.cell? ⟨b1, 0, none⟩ = some (.int .i64 d) ∧ w'.cell? ⟨b2, 0, none⟩ = some (.int .i64 n)))]) (by kernel_rfl) (HeldL.cons (fun _ => ⟨T1, T2⟩) HeldL.nil) (fun hHeld => ?_)
      generalize wq.drew = wa at *
      refine wpAnyL_take0 (i := 0) (v := ?_) rfl (by kernel_rfl) (by kernel_rfl) (by kernel_rfl) (by rfl) (fun _ _ _ h => h) (Or.inl ⟨by rfl, ?_⟩) (by assumption) ?_
      rotate_left
      · (intro W _; go_simp; (with_reducible rfl))
      intro hHeld'
      clear hHeld; have hHeld := hHeld'; clear hHeld'
      try simp only [Act.put, List.getElem_toArray, List.getElem_cons_succ, List.getElem_cons_zero, List.setIfInBounds_toArray, List.set_cons_zero, List.set_cons_succ]
      refine wpAnyL_take0 (i := 1) (v := ?_) rfl (by kernel_rfl) (by kernel_rfl) (by kernel_rfl) (by rfl) (fun _ _ _ h => h) (Or.inl ⟨by rfl, ?_⟩) (by assumption) ?_
      rotate_left
      · (intro W _; go_simp; (with_reducible rfl))
      intro hHeld'
      clear hHeld; have hHeld := hHeld'; clear hHeld'
      try simp only [Act.put, List.getElem_toArray, List.getElem_cons_succ, List.getElem_cons_zero, List.setIfInBounds_toArray, List.set_cons_zero, List.set_cons_succ]
      refine wpAnyL_takeP (i := 2) 12 [7] (v := (.int .i64 d)) (fun w' : World => w'.cell? ⟨b1, 0, none⟩ = some (.int .i64 d) ∧ w'.cell? ⟨b2, 0, none⟩ = some (.int .i64 n)) rfl (by kernel_rfl) (by kernel_rfl) (by kernel_rfl) (by rfl) (by kernel_rfl) (by simp) (fun _ _ _ h => h) (Or.inl ⟨by rfl, ?_⟩) (by assumption) ?_
      · (intro W hW; (replace hW := hW.1); go_simp)
      intro hHeld'
      clear hHeld; have hHeld := hHeld'; clear hHeld'
      try simp only [Act.put, List.getElem_toArray, List.getElem_cons_succ, List.getElem_cons_zero, List.setIfInBounds_toArray, List.set_cons_zero, List.set_cons_succ]
      refine wpAnyL_takeP (i := 3) 12 [7, 6, 5] (v := (.int .i64 n)) (fun w' : World => w'.cell? ⟨b1, 0, none⟩ = some (.int .i64 d) ∧ w'.cell? ⟨b2, 0, none⟩ = some (.int .i64 n)) rfl (by kernel_rfl) (by kernel_rfl) (by kernel_rfl) (by rfl) (by kernel_rfl) (by simp) (fun _ _ _ h => h) (Or.inl ⟨by rfl, ?_⟩) (by assumption) ?_
      · (intro W hW; (replace hW := hW.2); go_simp)
      intro hHeld'
      clear hHeld; have hHeld := hHeld'; clear hHeld'
      try simp only [Act.put, List.getElem_toArray, List.getElem_cons_succ, List.getElem_cons_zero, List.setIfInBounds_toArray, List.set_cons_zero, List.set_cons_succ]
      refine wpAnyL_take0 (i := 4) (v := ?_) rfl (by kernel_rfl) (by kernel_rfl) (by kernel_rfl) (by rfl) (fun _ _ _ h => h) (Or.inl ⟨by rfl, ?_⟩) (by assumption) ?_
      rotate_left
      · (intro W _; go_simp; (with_reducible rfl))
      intro hHeld'
      clear hHeld; have hHeld := hHeld'; clear hHeld'
      try simp only [Act.put, List.getElem_toArray, List.getElem_cons_succ, List.getElem_cons_zero, List.setIfInBounds_toArray, List.set_cons_zero, List.set_cons_succ]
      refine wpAnyL_take0 (i := 5) (v := ?_) rfl (by kernel_rfl) (by kernel_rfl) (by kernel_rfl) (by rfl) (fun _ _ _ h => h) (Or.inl ⟨by rfl, ?_⟩) (by assumption) ?_
      rotate_left
      · (intro W _; go_simp; (with_reducible rfl))
      intro hHeld'
      clear hHeld; have hHeld := hHeld'; clear hHeld'
      try simp only [Act.put, List.getElem_toArray, List.getElem_cons_succ, List.getElem_cons_zero, List.setIfInBounds_toArray, List.set_cons_zero, List.set_cons_succ]
      refine wpAnyL_take0 (i := 6) (v := ?_) rfl (by kernel_rfl) (by kernel_rfl) (by kernel_rfl) (by rfl) (fun _ _ _ h => h) (Or.inl ⟨by rfl, ?_⟩) (by assumption) ?_
      rotate_left
      · (intro W _; go_simp; (with_reducible rfl))
      intro hHeld'
      clear hHeld; have hHeld := hHeld'; clear hHeld'
      try simp only [Act.put, List.getElem_toArray, List.getElem_cons_succ, List.getElem_cons_zero, List.setIfInBounds_toArray, List.set_cons_zero, List.set_cons_succ]
      refine wpAnyL_takeP (i := 9) 12 [11, 10] (v := (.int .i64 d)) (fun w' : World => w'.cell? ⟨b1, 0, none⟩ = some (.int .i64 d) ∧ w'.cell? ⟨b2, 0, none⟩ = some (.int .i64 n)) rfl (by kernel_rfl) (by kernel_rfl) (by kernel_rfl) (by rfl) (by kernel_rfl) (by simp) (fun _ _ _ h => h) (Or.inl ⟨by rfl, ?_⟩) (by assumption) ?_
      · (intro W hW; (replace hW := hW.1); go_simp)
      intro hHeld'
      clear hHeld; have hHeld := hHeld'; clear hHeld'
      try simp only [Act.put, List.getElem_toArray, List.getElem_cons_succ, List.getElem_cons_zero, List.setIfInBounds_toArray, List.set_cons_zero, List.set_cons_succ]
      refine wpAnyL_ready (rs := [7]) (by kernel_rfl) (by simp) ?_
      refine AllReadyL.cons rfl (fun K hK => ?_) AllReadyL.nil
      go_simp
      (with_reducible refine (hp2.out _).mono ?_)
      rintro e w5 ⟨rfl, rfl⟩
      go_simp
      refine hK.out _ _ (HeldL.cons (fun _ => ⟨T1, T2⟩) HeldL.nil) (fun hHeld' => ?_)
      clear hK K hHeld; have hHeld := hHeld'; clear hHeld'
      try simp only [Act.put, List.getElem_toArray, List.getElem_cons_succ, List.getElem_cons_zero, List.setIfInBounds_toArray, List.set_cons_zero, List.set_cons_succ]
      refine wpAnyL_take0 (i := 8) (v := ?_) rfl (by kernel_rfl) (by kernel_rfl) (by kernel_rfl) (by rfl) (fun _ _ _ h => h) (Or.inl ⟨by rfl, ?_⟩) (by assumption) ?_
      rotate_left
      · (intro W _; go_simp; (with_reducible rfl))
      intro hHeld'
      clear hHeld; have hHeld := hHeld'; clear hHeld'
      try simp only [Act.put, List.getElem_toArray, List.getElem_cons_succ, List.getElem_cons_zero, List.setIfInBounds_toArray, List.set_cons_zero, List.set_cons_succ]
      refine wpAnyL_take0 (i := 10) (v := ?_) rfl (by kernel_rfl) (by kernel_rfl) (by kernel_rfl) (by rfl) (fun _ _ _ h => h) (Or.inl ⟨by rfl, ?_⟩) (by assumption) ?_
      rotate_left
      · (intro W _; go_simp; (with_reducible rfl))
      intro hHeld'
      clear hHeld; have hHeld := hHeld'; clear hHeld'
      try simp only [Act.put, List.getElem_toArray, List.getElem_cons_succ, List.getElem_cons_zero, List.setIfInBounds_toArray, List.set_cons_zero, List.set_cons_succ]
      refine wpAnyL_ready (rs := [11]) (by kernel_rfl) (by simp) ?_
      refine AllReadyL.cons rfl (fun K hK => ?_) AllReadyL.nil
      go_simp
      clear T1 T2
      replace rS := hid (rS.out.newBlk #[.int .i64 (y : Nat)] 2)
      generalize wa.heap.size = bx at *
      generalize wa.alloc (.cells #[.int .i64 (y : Nat)] 2) = w6 at *
      have T1 := (hc.out w6 rS.out.bel).1
      have T2 := (hc.out w6 rS.out.bel).2.1
      refine hK.out _ _ (HeldL.cons (fun _ => ⟨T1, T2⟩) HeldL.nil) (fun hHeld' => ?_)
      clear hK K hHeld; have hHeld := hHeld'; clear hHeld'
      try simp only [Act.put, List.getElem_toArray, List.getElem_cons_succ, List.getElem_cons_zero, List.setIfInBounds_toArray, List.set_cons_zero, List.set_cons_succ]
      refine wpAnyL_ready (rs := [12]) (by kernel_rfl) (by simp) ?_
      refine AllReadyL.cons rfl (fun K hK => ?_) AllReadyL.nil
      refine St.step1 29 2 2 (.int .i64 0) 8 Try.underlying29 info_i64 rfl (by omega) rfl _ _ rfl _ _ rfl rS.out.f1 rfl rfl x hlx.out (by omega) ?_
      intro gn cn w7 rS'
      replace rS := hid rS'.f1.drop
      clear rS'
      refine hK.out _ _ (HeldL.cons (fun h => absurd h (by decide +kernel)) HeldL.nil) (fun hHeld' => ?_)
      clear hK K hHeld; have hHeld := hHeld'; clear hHeld'
      try simp only [Act.put, List.getElem_toArray, List.getElem_cons_succ, List.getElem_cons_zero, List.setIfInBounds_toArray, List.set_cons_zero, List.set_cons_succ]
      refine wpAnyL_take0 (i := 13) (v := ?_) rfl (by kernel_rfl) (by kernel_rfl) (by kernel_rfl) (by rfl) (fun _ _ _ h => h) (Or.inl ⟨by rfl, ?_⟩) (by assumption) ?_
      rotate_left
      · (intro W _; go_simp; (with_reducible rfl))
      intro hHeld'
      clear hHeld; have hHeld := hHeld'; clear hHeld'
      try simp only [Act.put, List.getElem_toArray, List.getElem_cons_succ, List.getElem_cons_zero, List.setIfInBounds_toArray, List.set_cons_zero, List.set_cons_succ]
      refine wpAnyL_done (by kernel_rfl) ?_ _
      rw [← ints_snoc, ← hRx.out] at rS
      go_wp2
      go_roundw
      case rel => exact ⟨x + 1, by omega, by go_num, rS.out⟩
      case measure => simp [intOf]; omega
    · obtain rfl : x = d := by omega
      have dx : decide ((x : Int) < (x : Int)) = false := decide_eq_false (by omega)
      replace rS := hid rS
      go_wp2_with (
        (go_at_call 143; (with_reducible refine (hpn.out _ _ _ rS.out.o0).mono ?_); rintro e w2 ⟨rfl, hb⟩; replace rS := hid (rS.out.call hb); clear hb))
      go_ret
      exact ⟨rfl, rS.out.bel⟩
set_option maxHeartbeats 2000000 in
set_option maxRecDepth 100000 in
theorem portraitBy_pfg (b3 b2 b1 : Nat) (d n : Nat) (hd : d = 2 ∨ d = 3) (hn : n ≤ 5) (w : World) (F : List Nat → Int)
    (hf : ∀ W, Below w.heap.size w W → ∀ u, u.length < n → (∀ x ∈ u, x < d) → Calls Try.prog 210 #[.string (wstr u), .pointer (some ⟨b1, 0, none⟩), .pointer (some ⟨b2, 0, none⟩), .pointer (some ⟨b3, 0, none⟩)] W fun e W' => e = .returned (.int .i64 (F u)) ∧ Below W.heap.size W W') :
    Calls Try.prog 209 #[.int .i64 d, .int .i64 n, .func (.func 210) #[] #[.pointer (some ⟨b1, 0, none⟩), .pointer (some ⟨b2, 0, none⟩), .pointer (some ⟨b3, 0, none⟩)]] w fun e w' => ∃ v, e = .returned v ∧ Own w' w.heap.size 2 v (ints (byL d F n)) ∧ Below w.heap.size w w' := by
  have hl := hid (fun k (hk : k < n) W => level_any d k (by omega) (by omega) (by omega) (by have := pw5 (n := k) hd (by omega); omega) W)
  have hlen := hid (fun k M => lvl_length d k M)
  have hpos := hid (fun k => pw_pos d (by omega) k)
  have hp5 := hid (fun k (hk : k < n) => pw5 (n := k) hd (by omega))
  have hwl := hid (fun k j => wrd_length d k j)
  have hwm := hid (fun k j => wrd_lt d (by omega) k j)
  have hst := hid (fun k (hk : k < n) => (show start d k ≤ 243 by
    have := start_pw d (by omega) k
    have h2 : start d k ≤ start d k * (d - 1) := Nat.le_mul_of_pos_right _ (by omega)
    have h3 := pw5 (n := k) hd (by omega)
    omega))
  replace hf := hid hf
  have hS := hid (St.start w)
  clear hd
  go_enter Try.func209, Try.ntmps209
  replace hS := hid (hS.out.nilOwn 2)
  go_wp2
  go_loopw [7, 12] (fun o i wr => ∃ k : Nat, k ≤ n ∧ i = .int .i64 k ∧ St w.heap.size w [Asn.own w.heap.size 2 o (ints (byL d F k))] wr) (fun _ i _ => n - (intOf i).toNat)
  case atStart => exact ⟨0, Nat.zero_le _, rfl, hS.out⟩
  case round =>
    obtain ⟨k, hk, rfl, rS⟩ := hrel
    clear hS
    replace rS := hid rS
    by_cases hlk : k < n
    · have dk : decide ((k : Int) < (n : Int)) = true := decide_eq_true (by omega)
      have hlv := hid (hl.out k hlk)
      have hM0 := hpos.out k
      have hM1 := hp5.out k hlk
      have hll := hid (hlen.out k (pw d k))
      have hs1 := hst.out k hlk
      have hget := hid (fun j (hj : j < pw d k) => lvl_get d k (pw d k) j hj)
      have hend := hid (byP_full d F k)
      generalize pw d k = M at *
      go_wp2_with (first
        | (go_at_call 213; (with_reducible refine (hlv.out _).mono ?_); rintro e w1 ⟨v, rfl, hO, hb⟩; obtain ⟨g, cap, rfl, _, _⟩ := hO.blk (fun e => by have h := hll.out; rw [e] at h; simp at h; omega); rw [hll.out] at hO; rw [hll.out]; replace rS := hid (rS.out.callOwn hb hO); clear hO hb))
      go_loopw [7, 19] (fun o i wr => ∃ j : Nat, j ≤ M ∧ i = .int .i64 j ∧ St w.heap.size w [Asn.own w.heap.size 2 o (ints (byP d F k j)), Asn.own w.heap.size 9 (.slice (some ⟨g, 0, none⟩) M cap) (lvl d k M)] wr) (fun _ i _ => M - (intOf i).toNat)
      case atStart => exact ⟨0, Nat.zero_le _, rfl, by rw [byP_zero]; exact rS.out.f1⟩
      case round =>
        obtain ⟨j, hj, rfl, rS⟩ := hrel
        have ck := fun (h : j < M) => rS.o1.cellAt j _ (hget.out j h)
        replace rS := hid rS
        by_cases hlj : j < M
        · have dj : decide ((j : Int) < (M : Int)) = true := decide_eq_true (by omega)
          replace ck := ck hlj
          have hfj := hid (hf.out _ rS.out.bel (wrd d k j) (by rw [hwl.out]; exact hlk) (hwm.out k j))
          have hsn := hid (byP_snoc d F k j)
          have hil := hid (ints_length (byP d F k j))
          have hbl := hid (byP_length d F k j)
          generalize wrd d k j = u at *
          generalize F u = fu at *
          go_wp2_with (first
            | (go_at_call 210; (with_reducible refine (hfj.out).mono ?_); rintro e w2 ⟨rfl, hb⟩; replace rS := hid (rS.out.call hb); clear hb ck hfj)
            | ((with_reducible refine gate (N := 28) rfl ?_); refine St.app 29 2 (.int .i64 0) 8 Try.underlying29 info_i64 rfl (by omega) rfl _ _ rfl _ _ rfl rS.out _ rfl rfl (start d k + j) (by rw [hil.out, hbl.out]) (by omega) ?_; intro gn cn w5 rS'; replace rS := hid rS'; clear rS'))
          rw [← ints_snoc, ← hsn.out] at rS
          go_roundw
          case rel => exact ⟨j + 1, by omega, by go_num, rS.out⟩
          case measure => simp [intOf]; omega
        · obtain rfl : j = M := by omega
          clear ck
          rw [hend.out] at rS
          go_wp2
          go_roundw
          case rel => exact ⟨k + 1, by omega, by go_num, rS.out.f1.drop⟩
          case measure => simp [intOf]; omega
    · obtain rfl : k = n := by omega
      go_wp2
      go_ret
      exact ⟨_, rfl, rS.out.o0, rS.out.bel⟩
set_option maxHeartbeats 8000000 in
set_option maxRecDepth 100000 in
theorem pfgBad_any (w : World) (d n : Nat) (hd : d = 2 ∨ d = 3) (hn1 : 1 ≤ n) (hn : n ≤ 4) (b0 : Nat) (v : Value) (L : List Int) (hO : Own w b0 2 v (ints L)) (hll : L.length < 1000000) (hno : ¬ Lvl d n L) :
    Calls Try.prog 114 #[.int .i64 d, .int .i64 n, v] w fun e w' => e = .returned (.tuple #[.slice none 0 0, .bool false]) ∧ Below w.heap.size w w' := by
  have hN := pw5 (n := n) hd (by omega)
  have hil := ints_length L
  obtain ⟨A, ca, rfl, _, _⟩ := hO.form
  rw [hil] at hO ⊢
  have hS := (((St.arg w hO).newBlk #[.int .i64 d] 2).newBlk #[.int .i64 n] 2).newBlk #[.slice A L.length ca] 29
  simp only [heap_alloc_size] at hS
  replace hS := hid hS
  have hmf : ∀ (fn : Fn) (first cap : Array Value) (w : World), (Instr.makeFunc fn first cap).run Try.prog w = .ok (.func fn first cap) w := fun _ _ _ _ => rfl
  have hT := hid (fun W M (h : St w.heap.size w (Asn.blk (w.heap.size + 1 + 1) #[.slice A L.length ca] 29 :: Asn.blk (w.heap.size + 1) #[.int .i64 n] 2 :: Asn.blk w.heap.size #[.int .i64 d] 2 :: M) W) => (show W.cell? ⟨w.heap.size, 0, none⟩ = some (.int .i64 d) ∧ W.cell? ⟨w.heap.size + 1, 0, none⟩ = some (.int .i64 n) ∧ W.cell? ⟨w.heap.size + 1 + 1, 0, none⟩ = some (.slice A L.length ca) from ⟨blkc h.k2, blkc h.k1, blkc h.k0⟩))
  have hpw := hid (fun W => power_any d n (by omega) (by omega) (by omega) W)
  have hcf := hid (fun W (h : St w.heap.size w [Asn.blk (w.heap.size + 1 + 1) #[.slice A L.length ca] 29, Asn.blk (w.heap.size + 1) #[.int .i64 n] 2, Asn.blk w.heap.size #[.int .i64 d] 2, Asn.own 0 2 (.slice A L.length ca) (ints L)] W) => (by
    have hO2 := h.o3
    have h1 := containsFuncI_pfg w.heap.size (w.heap.size + 1) W 0 (.slice A L.length ca) L hO2 (by omega) (fun k => !decide (0 ≤ k ∧ k ≤ ((pw d n : Nat) : Int) - 1)) (fun W' hW' x hx => by
      have h2 := h.call hW'
      exact pfr1g_any w.heap.size (w.heap.size + 1) W' d n hd (by omega) (blkc h2.k2) (blkc h2.k1) x)
    exact h1 : Calls Try.prog 122 #[.slice A L.length ca, .func (.func 208) #[] #[.pointer (some ⟨w.heap.size, 0, none⟩), .pointer (some ⟨w.heap.size + 1, 0, none⟩)]] W fun e w' => e = .returned (.bool (L.any fun k => !decide (0 ≤ k ∧ k ≤ ((pw d n : Nat) : Int) - 1))) ∧ Below W.heap.size W w'))
  by_cases hlen : L.length = pw d n
  · have qN : (((L.length : Nat) : Int) != ((pw d n : Nat) : Int)) = false := by simp; omega
    have qN2 : (L.length != pw d n) = false := by simpa using hlen
    by_cases hrg : (L.any fun k => !decide (0 ≤ k ∧ k ≤ ((pw d n : Nat) : Int) - 1)) = true
    · rw [hrg] at hcf
      replace hO := hid hO; replace hno := hid hno
      clear hrg
      generalize pw d n = N at *
      replace hlen := hid hlen
      go_enter Try.func114, Try.ntmps114
      go_upto_region 1 with (fail)
      generalize hb2' : w.heap.size + 1 + 1 = b2 at *
      generalize hb1' : w.heap.size + 1 = b1 at *
      obtain ⟨b0', hb0'⟩ : ∃ b0', b0' = w.heap.size := ⟨_, rfl⟩
      replace hb2' := hid hb2'
      replace hb1' := hid hb1'
      replace hS := hid hS.out.drew
      have T0 := hT.out _ _ hS.out
      rw [← hb0'] at T0
      refine wp_region_heldL (L := [(9, (fun w' : World => w'.cell? ⟨b0', 0, none⟩ = some (.int .i64 d) ∧ w'.cell? ⟨b1, 0, none⟩ = some (.int .i64 n) ∧ w'.cell? ⟨b2, 0, none⟩ = some (.slice A L.length ca)))]) (by kernel_rfl) (HeldL.cons (fun _ => T0) HeldL.nil) (fun hHeld => ?_)
      generalize World.drew _ = wa at *
      refine wpAnyL_takeP (i := 0) 9 [6, 5, 1] (v := (.slice A L.length ca)) (fun w' : World => w'.cell? ⟨b0', 0, none⟩ = some (.int .i64 d) ∧ w'.cell? ⟨b1, 0, none⟩ = some (.int .i64 n) ∧ w'.cell? ⟨b2, 0, none⟩ = some (.slice A L.length ca)) rfl (by kernel_rfl) (by kernel_rfl) (by kernel_rfl) (by rfl) (by kernel_rfl) (by simp) (fun _ _ _ h => h) (Or.inl ⟨by rfl, ?_⟩) (by assumption) ?_
      · (intro W hW; (replace hW := hW.2.2; go_simp))
      intro hHeld'
      clear hHeld; have hHeld := hHeld'; clear hHeld'
      try simp only [Act.put, List.getElem_toArray, List.getElem_cons_succ, List.getElem_cons_zero, List.setIfInBounds_toArray, List.set_cons_zero, List.set_cons_succ]
      refine wpAnyL_take0 (i := 1) (v := ?_) rfl (by kernel_rfl) (by kernel_rfl) (by kernel_rfl) (by rfl) (fun _ _ _ h => h) (Or.inl ⟨by rfl, ?_⟩) (by assumption) ?_
      rotate_left
      · (intro W _; go_simp; (with_reducible rfl))
      intro hHeld'
      clear hHeld; have hHeld := hHeld'; clear hHeld'
      try simp only [Act.put, List.getElem_toArray, List.getElem_cons_succ, List.getElem_cons_zero, List.setIfInBounds_toArray, List.set_cons_zero, List.set_cons_succ]
      refine wpAnyL_takeP (i := 2) 9 [6, 4] (v := (.int .i64 d)) (fun w' : World => w'.cell? ⟨b0', 0, none⟩ = some (.int .i64 d) ∧ w'.cell? ⟨b1, 0, none⟩ = some (.int .i64 n) ∧ w'.cell? ⟨b2, 0, none⟩ = some (.slice A L.length ca)) rfl (by kernel_rfl) (by kernel_rfl) (by kernel_rfl) (by rfl) (by kernel_rfl) (by simp) (fun _ _ _ h => h) (Or.inl ⟨by rfl, ?_⟩) (by assumption) ?_
      · (intro W hW; (replace hW := hW.1; rw [hb0'] at hW; go_simp))
      intro hHeld'
      clear hHeld; have hHeld := hHeld'; clear hHeld'
      try simp only [Act.put, List.getElem_toArray, List.getElem_cons_succ, List.getElem_cons_zero, List.setIfInBounds_toArray, List.set_cons_zero, List.set_cons_succ]
      refine wpAnyL_takeP (i := 3) 9 [6, 4] (v := (.int .i64 n)) (fun w' : World => w'.cell? ⟨b0', 0, none⟩ = some (.int .i64 d) ∧ w'.cell? ⟨b1, 0, none⟩ = some (.int .i64 n) ∧ w'.cell? ⟨b2, 0, none⟩ = some (.slice A L.length ca)) rfl (by kernel_rfl) (by kernel_rfl) (by kernel_rfl) (by rfl) (by kernel_rfl) (by simp) (fun _ _ _ h => h) (Or.inl ⟨by rfl, ?_⟩) (by assumption) ?_
      · (intro W hW; (replace hW := hW.2.1; go_simp))
      intro hHeld'
      clear hHeld; have hHeld := hHeld'; clear hHeld'
      try simp only [Act.put, List.getElem_toArray, List.getElem_cons_succ, List.getElem_cons_zero, List.setIfInBounds_toArray, List.set_cons_zero, List.set_cons_succ]
      refine wpAnyL_ready (rs := [4]) (by kernel_rfl) (by simp) ?_
      refine AllReadyL.cons rfl (fun K hK => ?_) AllReadyL.nil
      go_simp
      (with_reducible refine (hpw.out _).mono ?_)
      rintro e w5 ⟨rfl, rfl⟩
      go_simp
      refine hK.out _ _ (HeldL.cons (fun _ => T0) HeldL.nil) (fun hHeld' => ?_)
      clear hK K hHeld; have hHeld := hHeld'; clear hHeld'
      try simp only [Act.put, List.getElem_toArray, List.getElem_cons_succ, List.getElem_cons_zero, List.setIfInBounds_toArray, List.set_cons_zero, List.set_cons_succ]
      refine wpAnyL_take0 (i := 5) (v := ?_) rfl (by kernel_rfl) (by kernel_rfl) (by kernel_rfl) (by rfl) (fun _ _ _ h => h) (Or.inl ⟨by rfl, ?_⟩) (by assumption) ?_
      rotate_left
      · (intro W _; go_simp; (with_reducible rfl))
      intro hHeld'
      clear hHeld; have hHeld := hHeld'; clear hHeld'
      try simp only [Act.put, List.getElem_toArray, List.getElem_cons_succ, List.getElem_cons_zero, List.setIfInBounds_toArray, List.set_cons_zero, List.set_cons_succ]
      refine wpAnyL_take0 (i := 6) (v := ?_) rfl (by kernel_rfl) (by kernel_rfl) (by kernel_rfl) (by rfl) (fun _ _ _ h => h) (Or.inl ⟨by rfl, ?_⟩) (by assumption) ?_
      rotate_left
      · (intro W _; go_simp; (with_reducible rfl))
      intro hHeld'
      clear hHeld; have hHeld := hHeld'; clear hHeld'
      try simp only [Act.put, List.getElem_toArray, List.getElem_cons_succ, List.getElem_cons_zero, List.setIfInBounds_toArray, List.set_cons_zero, List.set_cons_succ]
      refine wpAnyL_takeP (i := 7) 9 [] (v := (.slice A L.length ca)) (fun w' : World => w'.cell? ⟨b0', 0, none⟩ = some (.int .i64 d) ∧ w'.cell? ⟨b1, 0, none⟩ = some (.int .i64 n) ∧ w'.cell? ⟨b2, 0, none⟩ = some (.slice A L.length ca)) rfl (by kernel_rfl) (by kernel_rfl) (by kernel_rfl) (by rfl) (by kernel_rfl) (by simp) (fun _ _ _ h => h) (Or.inl ⟨by rfl, ?_⟩) (by assumption) ?_
      · (intro W hW; (replace hW := hW.2.2; go_simp))
      intro hHeld'
      clear hHeld; have hHeld := hHeld'; clear hHeld'
      try simp only [Act.put, List.getElem_toArray, List.getElem_cons_succ, List.getElem_cons_zero, List.setIfInBounds_toArray, List.set_cons_zero, List.set_cons_succ]
      refine wpAnyL_take0 (i := 8) (v := ?_) rfl (by kernel_rfl) (by kernel_rfl) (by kernel_rfl) (by rfl) (fun _ _ _ h => h) (Or.inl ⟨by rfl, ?_⟩) (by assumption) ?_
      rotate_left
      · (intro W _; go_simp; (with_reducible rfl))
      intro hHeld'
      clear hHeld; have hHeld := hHeld'; clear hHeld'
      try simp only [Act.put, List.getElem_toArray, List.getElem_cons_succ, List.getElem_cons_zero, List.setIfInBounds_toArray, List.set_cons_zero, List.set_cons_succ]
      refine wpAnyL_ready (rs := [9]) (by kernel_rfl) (by simp) ?_
      refine AllReadyL.cons rfl (fun K hK => ?_) AllReadyL.nil
      go_simp
      (with_reducible refine (hcf.out _ hS.out).mono ?_)
      rintro e w6 ⟨rfl, hb⟩
      replace hS := hid (hS.out.call hb)
      clear hb T0
      go_simp
      refine hK.out _ _ (HeldL.cons (fun h => absurd h (by decide +kernel)) HeldL.nil) (fun hHeld' => ?_)
      clear hK K hHeld; have hHeld := hHeld'; clear hHeld'
      try simp only [Act.put, List.getElem_toArray, List.getElem_cons_succ, List.getElem_cons_zero, List.setIfInBounds_toArray, List.set_cons_zero, List.set_cons_succ]
      refine wpAnyL_take0 (i := 10) (v := ?_) rfl (by kernel_rfl) (by kernel_rfl) (by kernel_rfl) (by rfl) (fun _ _ _ h => h) (Or.inl ⟨by rfl, ?_⟩) (by assumption) ?_
      rotate_left
      · (intro W _; go_simp; (with_reducible rfl))
      intro hHeld'
      clear hHeld; have hHeld := hHeld'; clear hHeld'
      try simp only [Act.put, List.getElem_toArray, List.getElem_cons_succ, List.getElem_cons_zero, List.setIfInBounds_toArray, List.set_cons_zero, List.set_cons_succ]
      refine wpAnyL_done (by kernel_rfl) ?_ _
      go_wp2
      go_ret2
      exact ⟨rfl, hS.out.bel⟩
    · have hrg2 : (L.any fun k => !decide (0 ≤ k ∧ k ≤ ((pw d n : Nat) : Int) - 1)) = false := by simpa using hrg
      rw [hrg2] at hcf
      have hin : ∀ x ∈ L, 0 ≤ x ∧ x < ((pw d n : Nat) : Int) := fun x hx => by
        rw [List.any_eq_false] at hrg2
        have := hrg2 x hx
        simp only [Bool.not_eq_true', Bool.not_eq_false, decide_eq_false_iff_not, Classical.not_not] at this
        omega
      clear hrg hrg2
      obtain ⟨P, hP⟩ : ∃ P, P = L.map Int.toNat := ⟨_, rfl⟩
      have hPl : P.length = pw d n := by rw [hP, List.length_map, hlen]
      have hPr : ∀ x ∈ P, x < pw d n := fun x hx => by
        rw [hP] at hx
        obtain ⟨y, hy, rfl⟩ := List.mem_map.1 hx
        have := hin y hy
        omega
      have hLP : L = P.map Int.ofNat := by
        rw [hP, List.map_map]
        refine ((List.map_congr_left fun x hx => ?_).trans (List.map_id L)).symm
        have := hin x hx
        show ((x.toNat : Nat) : Int) = x
        omega
      have hnP : ints L = nats P := by rw [nats_ints, hLP]
      have hby := hid (fun W (h : St w.heap.size w [Asn.blk (w.heap.size + 1 + 1) #[.slice A L.length ca] 29, Asn.blk (w.heap.size + 1) #[.int .i64 n] 2, Asn.blk w.heap.size #[.int .i64 d] 2, Asn.own 0 2 (.slice A L.length ca) (ints L)] W) =>
        portraitBy_pfg (w.heap.size + 1 + 1) (w.heap.size + 1) w.heap.size d n hd (by omega) W (fun u => pnm (rC d n P u)) (fun W' hW' u hl hu => pfr2g_any w.heap.size w W' _ _ _ d n hd hn P hPl hPr 0 (.slice A L.length ca) (by rw [← hnP]; exact h.call hW') u hu hl))
      rw [show byL d (fun u => pnm (rC d n P u)) n = pfC d n P from rfl] at hby
      have hgl := hid (show (pfC d n P).length ≤ 40 from by unfold pfC; rw [byL_length]; exact (start_le hd hn).1)
      by_cases hm : (-1 : Int) ∈ pfC d n P
      · have hct := hid (fun W b v (h : Own W b 2 v (ints (pfC d n P))) => slContains_any W b v (pfC d n P) (-1) h (by have := hgl.out; omega) true (iff_of_true rfl hm))
        replace hO := hid hO; replace hno := hid hno
        clear hPl hPr hin hP hLP hnP hm
        generalize pfC d n P = G at *
        generalize pw d n = N at *
        replace hlen := hid hlen
        go_enter Try.func114, Try.ntmps114
        go_upto_region 1 with (fail)
        generalize hb2' : w.heap.size + 1 + 1 = b2 at *
        generalize hb1' : w.heap.size + 1 = b1 at *
        obtain ⟨b0', hb0'⟩ : ∃ b0', b0' = w.heap.size := ⟨_, rfl⟩
        replace hb2' := hid hb2'
        replace hb1' := hid hb1'
        replace hS := hid hS.out.drew
        have T0 := hT.out _ _ hS.out
        rw [← hb0'] at T0
        refine wp_region_heldL (L := [(9, (fun w' : World => w'.cell? ⟨b0', 0, none⟩ = some (.int .i64 d) ∧ w'.cell? ⟨b1, 0, none⟩ = some (.int .i64 n) ∧ w'.cell? ⟨b2, 0, none⟩ = some (.slice A L.length ca)))]) (by kernel_rfl) (HeldL.cons (fun _ => T0) HeldL.nil) (fun hHeld => ?_)
        generalize World.drew _ = wa at *
        refine wpAnyL_takeP (i := 0) 9 [6, 5, 1] (v := (.slice A L.length ca)) (fun w' : World => w'.cell? ⟨b0', 0, none⟩ = some (.int .i64 d) ∧ w'.cell? ⟨b1, 0, none⟩ = some (.int .i64 n) ∧ w'.cell? ⟨b2, 0, none⟩ = some (.slice A L.length ca)) rfl (by kernel_rfl) (by kernel_rfl) (by kernel_rfl) (by rfl) (by kernel_rfl) (by simp) (fun _ _ _ h => h) (Or.inl ⟨by rfl, ?_⟩) (by assumption) ?_
        · (intro W hW; (replace hW := hW.2.2; go_simp))
        intro hHeld'
        clear hHeld; have hHeld := hHeld'; clear hHeld'
        try simp only [Act.put, List.getElem_toArray, List.getElem_cons_succ, List.getElem_cons_zero, List.setIfInBounds_toArray, List.set_cons_zero, List.set_cons_succ]
        refine wpAnyL_take0 (i := 1) (v := ?_) rfl (by kernel_rfl) (by kernel_rfl) (by kernel_rfl) (by rfl) (fun _ _ _ h => h) (Or.inl ⟨by rfl, ?_⟩) (by assumption) ?_
        rotate_left
        · (intro W _; go_simp; (with_reducible rfl))
        intro hHeld'
        clear hHeld; have hHeld := hHeld'; clear hHeld'
        try simp only [Act.put, List.getElem_toArray, List.getElem_cons_succ, List.getElem_cons_zero, List.setIfInBounds_toArray, List.set_cons_zero, List.set_cons_succ]
        refine wpAnyL_takeP (i := 2) 9 [6, 4] (v := (.int .i64 d)) (fun w' : World => w'.cell? ⟨b0', 0, none⟩ = some (.int .i64 d) ∧ w'.cell? ⟨b1, 0, none⟩ = some (.int .i64 n) ∧ w'.cell? ⟨b2, 0, none⟩ = some (.slice A L.length ca)) rfl (by kernel_rfl) (by kernel_rfl) (by kernel_rfl) (by rfl) (by kernel_rfl) (by simp) (fun _ _ _ h => h) (Or.inl ⟨by rfl, ?_⟩) (by assumption) ?_
        · (intro W hW; (replace hW := hW.1; rw [hb0'] at hW; go_simp))
        intro hHeld'
        clear hHeld; have hHeld := hHeld'; clear hHeld'
        try simp only [Act.put, List.getElem_toArray, List.getElem_cons_succ, List.getElem_cons_zero, List.setIfInBounds_toArray, List.set_cons_zero, List.set_cons_succ]
        refine wpAnyL_takeP (i := 3) 9 [6, 4] (v := (.int .i64 n)) (fun w' : World => w'.cell? ⟨b0', 0, none⟩ = some (.int .i64 d) ∧ w'.cell? ⟨b1, 0, none⟩ = some (.int .i64 n) ∧ w'.cell? ⟨b2, 0, none⟩ = some (.slice A L.length ca)) rfl (by kernel_rfl) (by kernel_rfl) (by kernel_rfl) (by rfl) (by kernel_rfl) (by simp) (fun _ _ _ h => h) (Or.inl ⟨by rfl, ?_⟩) (by assumption) ?_
        · (intro W hW; (replace hW := hW.2.1; go_simp))
        intro hHeld'
        clear hHeld; have hHeld := hHeld'; clear hHeld'
        try simp only [Act.put, List.getElem_toArray, List.getElem_cons_succ, List.getElem_cons_zero, List.setIfInBounds_toArray, List.set_cons_zero, List.set_cons_succ]
        refine wpAnyL_ready (rs := [4]) (by kernel_rfl) (by simp) ?_
        refine AllReadyL.cons rfl (fun K hK => ?_) AllReadyL.nil
        go_simp
        (with_reducible refine (hpw.out _).mono ?_)
        rintro e w5 ⟨rfl, rfl⟩
        go_simp
        refine hK.out _ _ (HeldL.cons (fun _ => T0) HeldL.nil) (fun hHeld' => ?_)
        clear hK K hHeld; have hHeld := hHeld'; clear hHeld'
        try simp only [Act.put, List.getElem_toArray, List.getElem_cons_succ, List.getElem_cons_zero, List.setIfInBounds_toArray, List.set_cons_zero, List.set_cons_succ]
        refine wpAnyL_take0 (i := 5) (v := ?_) rfl (by kernel_rfl) (by kernel_rfl) (by kernel_rfl) (by rfl) (fun _ _ _ h => h) (Or.inl ⟨by rfl, ?_⟩) (by assumption) ?_
        rotate_left
        · (intro W _; go_simp; (with_reducible rfl))
        intro hHeld'
        clear hHeld; have hHeld := hHeld'; clear hHeld'
        try simp only [Act.put, List.getElem_toArray, List.getElem_cons_succ, List.getElem_cons_zero, List.setIfInBounds_toArray, List.set_cons_zero, List.set_cons_succ]
        refine wpAnyL_take0 (i := 6) (v := ?_) rfl (by kernel_rfl) (by kernel_rfl) (by kernel_rfl) (by rfl) (fun _ _ _ h => h) (Or.inl ⟨by rfl, ?_⟩) (by assumption) ?_
        rotate_left
        · (intro W _; go_simp; (with_reducible rfl))
        intro hHeld'
        clear hHeld; have hHeld := hHeld'; clear hHeld'
        try simp only [Act.put, List.getElem_toArray, List.getElem_cons_succ, List.getElem_cons_zero, List.setIfInBounds_toArray, List.set_cons_zero, List.set_cons_succ]
        refine wpAnyL_takeP (i := 7) 9 [] (v := (.slice A L.length ca)) (fun w' : World => w'.cell? ⟨b0', 0, none⟩ = some (.int .i64 d) ∧ w'.cell? ⟨b1, 0, none⟩ = some (.int .i64 n) ∧ w'.cell? ⟨b2, 0, none⟩ = some (.slice A L.length ca)) rfl (by kernel_rfl) (by kernel_rfl) (by kernel_rfl) (by rfl) (by kernel_rfl) (by simp) (fun _ _ _ h => h) (Or.inl ⟨by rfl, ?_⟩) (by assumption) ?_
        · (intro W hW; (replace hW := hW.2.2; go_simp))
        intro hHeld'
        clear hHeld; have hHeld := hHeld'; clear hHeld'
        try simp only [Act.put, List.getElem_toArray, List.getElem_cons_succ, List.getElem_cons_zero, List.setIfInBounds_toArray, List.set_cons_zero, List.set_cons_succ]
        refine wpAnyL_take0 (i := 8) (v := ?_) rfl (by kernel_rfl) (by kernel_rfl) (by kernel_rfl) (by rfl) (fun _ _ _ h => h) (Or.inl ⟨by rfl, ?_⟩) (by assumption) ?_
        rotate_left
        · (intro W _; go_simp; (with_reducible rfl))
        intro hHeld'
        clear hHeld; have hHeld := hHeld'; clear hHeld'
        try simp only [Act.put, List.getElem_toArray, List.getElem_cons_succ, List.getElem_cons_zero, List.setIfInBounds_toArray, List.set_cons_zero, List.set_cons_succ]
        refine wpAnyL_ready (rs := [9]) (by kernel_rfl) (by simp) ?_
        refine AllReadyL.cons rfl (fun K hK => ?_) AllReadyL.nil
        go_simp
        (with_reducible refine (hcf.out _ hS.out).mono ?_)
        rintro e w6 ⟨rfl, hb⟩
        replace hS := hid (hS.out.call hb)
        clear hb T0
        go_simp
        refine hK.out _ _ (HeldL.cons (fun h => absurd h (by decide +kernel)) HeldL.nil) (fun hHeld' => ?_)
        clear hK K hHeld; have hHeld := hHeld'; clear hHeld'
        try simp only [Act.put, List.getElem_toArray, List.getElem_cons_succ, List.getElem_cons_zero, List.setIfInBounds_toArray, List.set_cons_zero, List.set_cons_succ]
        refine wpAnyL_take0 (i := 10) (v := ?_) rfl (by kernel_rfl) (by kernel_rfl) (by kernel_rfl) (by rfl) (fun _ _ _ h => h) (Or.inl ⟨by rfl, ?_⟩) (by assumption) ?_
        rotate_left
        · (intro W _; go_simp; (with_reducible rfl))
        intro hHeld'
        clear hHeld; have hHeld := hHeld'; clear hHeld'
        try simp only [Act.put, List.getElem_toArray, List.getElem_cons_succ, List.getElem_cons_zero, List.setIfInBounds_toArray, List.set_cons_zero, List.set_cons_succ]
        refine wpAnyL_done (by kernel_rfl) ?_ _
        have c1 := (hT.out _ _ hS.out).1
        have c2 := (hT.out _ _ hS.out).2.1
        have c3 := (hT.out _ _ hS.out).2.2
        go_upto_region 4 with (
          (go_at_call 209; (with_reducible refine (hby.out _ hS.out).mono ?_); rintro e w7 ⟨vo, rfl, hO2, hb⟩; replace hS := hid (hS.out.callOwn hb hO2); clear hb hO2 c1 c2 c3))
        replace hS := hid hS.out.drew
        refine wp_region_heldL (L := []) (by kernel_rfl) HeldL.nil (fun hHeld => ?_)
        generalize w7.drew = wb at *
        refine wpAnyL_take0 (i := 0) (v := ?_) rfl (by kernel_rfl) (by kernel_rfl) (by kernel_rfl) (by rfl) (fun _ _ _ h => h) (Or.inl ⟨by rfl, ?_⟩) (by assumption) ?_
        rotate_left
        · (intro W _; go_simp; (with_reducible rfl))
        intro hHeld'
        clear hHeld; have hHeld := hHeld'; clear hHeld'
        try simp only [Act.put, List.getElem_toArray, List.getElem_cons_succ, List.getElem_cons_zero, List.setIfInBounds_toArray, List.set_cons_zero, List.set_cons_succ]
        refine wpAnyL_ready (rs := [1]) (by kernel_rfl) (by simp) ?_
        refine AllReadyL.cons rfl (fun K hK => ?_) AllReadyL.nil
        go_simp
        (with_reducible refine (hct.out _ _ _ hS.out.o0).mono ?_)
        rintro e w5 ⟨rfl, rfl⟩
        go_simp
        refine hK.out _ _ (HeldL.nil) (fun hHeld' => ?_)
        clear hK K hHeld; have hHeld := hHeld'; clear hHeld'
        try simp only [Act.put, List.getElem_toArray, List.getElem_cons_succ, List.getElem_cons_zero, List.setIfInBounds_toArray, List.set_cons_zero, List.set_cons_succ]
        refine wpAnyL_take0 (i := 2) (v := ?_) rfl (by kernel_rfl) (by kernel_rfl) (by kernel_rfl) (by rfl) (fun _ _ _ h => h) (Or.inl ⟨by rfl, ?_⟩) (by assumption) ?_
        rotate_left
        · (intro W _; go_simp; (with_reducible rfl))
        intro hHeld'
        clear hHeld; have hHeld := hHeld'; clear hHeld'
        try simp only [Act.put, List.getElem_toArray, List.getElem_cons_succ, List.getElem_cons_zero, List.setIfInBounds_toArray, List.set_cons_zero, List.set_cons_succ]
        refine wpAnyL_take0 (i := 3) (v := undef) rfl (by kernel_rfl) (by kernel_rfl) (by kernel_rfl) (by rfl) (fun _ _ _ h => h) (Or.inr ⟨by rfl, rfl⟩) (by assumption) ?_
        intro hHeld'
        clear hHeld; have hHeld := hHeld'; clear hHeld'
        try simp only [Act.put, List.getElem_toArray, List.getElem_cons_succ, List.getElem_cons_zero, List.setIfInBounds_toArray, List.set_cons_zero, List.set_cons_succ]
        refine wpAnyL_take0 (i := 4) (v := undef) rfl (by kernel_rfl) (by kernel_rfl) (by kernel_rfl) (by rfl) (fun _ _ _ h => h) (Or.inr ⟨by rfl, rfl⟩) (by assumption) ?_
        intro hHeld'
        clear hHeld; have hHeld := hHeld'; clear hHeld'
        try simp only [Act.put, List.getElem_toArray, List.getElem_cons_succ, List.getElem_cons_zero, List.setIfInBounds_toArray, List.set_cons_zero, List.set_cons_succ]
        refine wpAnyL_take0 (i := 5) (v := undef) rfl (by kernel_rfl) (by kernel_rfl) (by kernel_rfl) (by rfl) (fun _ _ _ h => h) (Or.inr ⟨by rfl, rfl⟩) (by assumption) ?_
        intro hHeld'
        clear hHeld; have hHeld := hHeld'; clear hHeld'
        try simp only [Act.put, List.getElem_toArray, List.getElem_cons_succ, List.getElem_cons_zero, List.setIfInBounds_toArray, List.set_cons_zero, List.set_cons_succ]
        refine wpAnyL_take0 (i := 6) (v := undef) rfl (by kernel_rfl) (by kernel_rfl) (by kernel_rfl) (by rfl) (fun _ _ _ h => h) (Or.inr ⟨by rfl, rfl⟩) (by assumption) ?_
        intro hHeld'
        clear hHeld; have hHeld := hHeld'; clear hHeld'
        try simp only [Act.put, List.getElem_toArray, List.getElem_cons_succ, List.getElem_cons_zero, List.setIfInBounds_toArray, List.set_cons_zero, List.set_cons_succ]
        refine wpAnyL_take0 (i := 7) (v := undef) rfl (by kernel_rfl) (by kernel_rfl) (by kernel_rfl) (by rfl) (fun _ _ _ h => h) (Or.inr ⟨by rfl, rfl⟩) (by assumption) ?_
        intro hHeld'
        clear hHeld; have hHeld := hHeld'; clear hHeld'
        try simp only [Act.put, List.getElem_toArray, List.getElem_cons_succ, List.getElem_cons_zero, List.setIfInBounds_toArray, List.set_cons_zero, List.set_cons_succ]
        refine wpAnyL_take0 (i := 8) (v := undef) rfl (by kernel_rfl) (by kernel_rfl) (by kernel_rfl) (by rfl) (fun _ _ _ h => h) (Or.inr ⟨by rfl, rfl⟩) (by assumption) ?_
        intro hHeld'
        clear hHeld; have hHeld := hHeld'; clear hHeld'
        try simp only [Act.put, List.getElem_toArray, List.getElem_cons_succ, List.getElem_cons_zero, List.setIfInBounds_toArray, List.set_cons_zero, List.set_cons_succ]
        refine wpAnyL_take0 (i := 9) (v := undef) rfl (by kernel_rfl) (by kernel_rfl) (by kernel_rfl) (by rfl) (fun _ _ _ h => h) (Or.inr ⟨by rfl, rfl⟩) (by assumption) ?_
        intro hHeld'
        clear hHeld; have hHeld := hHeld'; clear hHeld'
        try simp only [Act.put, List.getElem_toArray, List.getElem_cons_succ, List.getElem_cons_zero, List.setIfInBounds_toArray, List.set_cons_zero, List.set_cons_succ]
        refine wpAnyL_take0 (i := 10) (v := ?_) rfl (by kernel_rfl) (by kernel_rfl) (by kernel_rfl) (by rfl) (fun _ _ _ h => h) (Or.inl ⟨by rfl, ?_⟩) (by assumption) ?_
        rotate_left
        · (intro W _; go_simp; (with_reducible rfl))
        intro hHeld'
        clear hHeld; have hHeld := hHeld'; clear hHeld'
        try simp only [Act.put, List.getElem_toArray, List.getElem_cons_succ, List.getElem_cons_zero, List.setIfInBounds_toArray, List.set_cons_zero, List.set_cons_succ]
        refine wpAnyL_done (by kernel_rfl) ?_ _
        go_wp2
        go_ret2
        exact ⟨rfl, hS.out.bel⟩
      · have hct := hid (fun W b v (h : Own W b 2 v (ints (pfC d n P))) => slContains_any W b v (pfC d n P) (-1) h (by have := hgl.out; omega) false (iff_of_false (by decide) hm))
        have hgP := pfC_isP hm
        have hne : (prtP d (pfC d n P) n).map Int.ofNat ≠ L := fun e => hno ⟨_, hgP, e.symm⟩
        have hof := hid (fun W b v (h : Own W b 2 v (ints (pfC d n P))) => ofPortrait_any W d n hd hn b v _ h hgP)
        have hsq := hid (fun W b1 b2 v1 v2 (h1 : Own W b1 2 v1 (nats (prtP d (pfC d n P) n))) (h2 : Own W b2 2 v2 (ints L)) => (by
          rw [nats_ints] at h1
          exact slEqual_any W b1 b2 v1 v2 _ _ h1 h2 (by rw [List.length_map, prtP, pmF_length]; omega) (by omega) false (iff_of_false (by decide) hne) : Calls Try.prog 192 #[v1, v2] W fun e w' => e = .returned (.bool false) ∧ ∃ k, w' = W.drewN k))
        replace hO := hid hO; replace hno := hid hno
        clear hPl hPr hin hP hLP hnP hm hgP hne
        generalize prtP d (pfC d n P) n = Q at *
        generalize pfC d n P = G at *
        generalize pw d n = N at *
        replace hlen := hid hlen
        go_enter Try.func114, Try.ntmps114
        go_upto_region 1 with (fail)
        generalize hb2' : w.heap.size + 1 + 1 = b2 at *
        generalize hb1' : w.heap.size + 1 = b1 at *
        obtain ⟨b0', hb0'⟩ : ∃ b0', b0' = w.heap.size := ⟨_, rfl⟩
        replace hb2' := hid hb2'
        replace hb1' := hid hb1'
        replace hS := hid hS.out.drew
        have T0 := hT.out _ _ hS.out
        rw [← hb0'] at T0
        refine wp_region_heldL (L := [(9, (fun w' : World => w'.cell? ⟨b0', 0, none⟩ = some (.int .i64 d) ∧ w'.cell? ⟨b1, 0, none⟩ = some (.int .i64 n) ∧ w'.cell? ⟨b2, 0, none⟩ = some (.slice A L.length ca)))]) (by kernel_rfl) (HeldL.cons (fun _ => T0) HeldL.nil) (fun hHeld => ?_)
        generalize World.drew _ = wa at *
        refine wpAnyL_takeP (i := 0) 9 [6, 5, 1] (v := (.slice A L.length ca)) (fun w' : World => w'.cell? ⟨b0', 0, none⟩ = some (.int .i64 d) ∧ w'.cell? ⟨b1, 0, none⟩ = some (.int .i64 n) ∧ w'.cell? ⟨b2, 0, none⟩ = some (.slice A L.length ca)) rfl (by kernel_rfl) (by kernel_rfl) (by kernel_rfl) (by rfl) (by kernel_rfl) (by simp) (fun _ _ _ h => h) (Or.inl ⟨by rfl, ?_⟩) (by assumption) ?_
        · (intro W hW; (replace hW := hW.2.2; go_simp))
        intro hHeld'
        clear hHeld; have hHeld := hHeld'; clear hHeld'
        try simp only [Act.put, List.getElem_toArray, List.getElem_cons_succ, List.getElem_cons_zero, List.setIfInBounds_toArray, List.set_cons_zero, List.set_cons_succ]
        refine wpAnyL_take0 (i := 1) (v := ?_) rfl (by kernel_rfl) (by kernel_rfl) (by kernel_rfl) (by rfl) (fun _ _ _ h => h) (Or.inl ⟨by rfl, ?_⟩) (by assumption) ?_
        rotate_left
        · (intro W _; go_simp; (with_reducible rfl))
        intro hHeld'
        clear hHeld; have hHeld := hHeld'; clear hHeld'
        try simp only [Act.put, List.getElem_toArray, List.getElem_cons_succ, List.getElem_cons_zero, List.setIfInBounds_toArray, List.set_cons_zero, List.set_cons_succ]
        refine wpAnyL_takeP (i := 2) 9 [6, 4] (v := (.int .i64 d)) (fun w' : World => w'.cell? ⟨b0', 0, none⟩ = some (.int .i64 d) ∧ w'.cell? ⟨b1, 0, none⟩ = some (.int .i64 n) ∧ w'.cell? ⟨b2, 0, none⟩ = some (.slice A L.length ca)) rfl (by kernel_rfl) (by kernel_rfl) (by kernel_rfl) (by rfl) (by kernel_rfl) (by simp) (fun _ _ _ h => h) (Or.inl ⟨by rfl, ?_⟩) (by assumption) ?_
        · (intro W hW; (replace hW := hW.1; rw [hb0'] at hW; go_simp))
        intro hHeld'
        clear hHeld; have hHeld := hHeld'; clear hHeld'
        try simp only [Act.put, List.getElem_toArray, List.getElem_cons_succ, List.getElem_cons_zero, List.setIfInBounds_toArray, List.set_cons_zero, List.set_cons_succ]
        refine wpAnyL_takeP (i := 3) 9 [6, 4] (v := (.int .i64 n)) (fun w' : World => w'.cell? ⟨b0', 0, none⟩ = some (.int .i64 d) ∧ w'.cell? ⟨b1, 0, none⟩ = some (.int .i64 n) ∧ w'.cell? ⟨b2, 0, none⟩ = some (.slice A L.length ca)) rfl (by kernel_rfl) (by kernel_rfl) (by kernel_rfl) (by rfl) (by kernel_rfl) (by simp) (fun _ _ _ h => h) (Or.inl ⟨by rfl, ?_⟩) (by assumption) ?_
        · (intro W hW; (replace hW := hW.2.1; go_simp))
        intro hHeld'
        clear hHeld; have hHeld := hHeld'; clear hHeld'
        try simp only [Act.put, List.getElem_toArray, List.getElem_cons_succ, List.getElem_cons_zero, List.setIfInBounds_toArray, List.set_cons_zero, List.set_cons_succ]
        refine wpAnyL_ready (rs := [4]) (by kernel_rfl) (by simp) ?_
        refine AllReadyL.cons rfl (fun K hK => ?_) AllReadyL.nil
        go_simp
        (with_reducible refine (hpw.out _).mono ?_)
        rintro e w5 ⟨rfl, rfl⟩
        go_simp
        refine hK.out _ _ (HeldL.cons (fun _ => T0) HeldL.nil) (fun hHeld' => ?_)
        clear hK K hHeld; have hHeld := hHeld'; clear hHeld'
        try simp only [Act.put, List.getElem_toArray, List.getElem_cons_succ, List.getElem_cons_zero, List.setIfInBounds_toArray, List.set_cons_zero, List.set_cons_succ]
        refine wpAnyL_take0 (i := 5) (v := ?_) rfl (by kernel_rfl) (by kernel_rfl) (by kernel_rfl) (by rfl) (fun _ _ _ h => h) (Or.inl ⟨by rfl, ?_⟩) (by assumption) ?_
        rotate_left
        · (intro W _; go_simp; (with_reducible rfl))
        intro hHeld'
        clear hHeld; have hHeld := hHeld'; clear hHeld'
        try simp only [Act.put, List.getElem_toArray, List.getElem_cons_succ, List.getElem_cons_zero, List.setIfInBounds_toArray, List.set_cons_zero, List.set_cons_succ]
        refine wpAnyL_take0 (i := 6) (v := ?_) rfl (by kernel_rfl) (by kernel_rfl) (by kernel_rfl) (by rfl) (fun _ _ _ h => h) (Or.inl ⟨by rfl, ?_⟩) (by assumption) ?_
        rotate_left
        · (intro W _; go_simp; (with_reducible rfl))
        intro hHeld'
        clear hHeld; have hHeld := hHeld'; clear hHeld'
        try simp only [Act.put, List.getElem_toArray, List.getElem_cons_succ, List.getElem_cons_zero, List.setIfInBounds_toArray, List.set_cons_zero, List.set_cons_succ]
        refine wpAnyL_takeP (i := 7) 9 [] (v := (.slice A L.length ca)) (fun w' : World => w'.cell? ⟨b0', 0, none⟩ = some (.int .i64 d) ∧ w'.cell? ⟨b1, 0, none⟩ = some (.int .i64 n) ∧ w'.cell? ⟨b2, 0, none⟩ = some (.slice A L.length ca)) rfl (by kernel_rfl) (by kernel_rfl) (by kernel_rfl) (by rfl) (by kernel_rfl) (by simp) (fun _ _ _ h => h) (Or.inl ⟨by rfl, ?_⟩) (by assumption) ?_
        · (intro W hW; (replace hW := hW.2.2; go_simp))
        intro hHeld'
        clear hHeld; have hHeld := hHeld'; clear hHeld'
        try simp only [Act.put, List.getElem_toArray, List.getElem_cons_succ, List.getElem_cons_zero, List.setIfInBounds_toArray, List.set_cons_zero, List.set_cons_succ]
        refine wpAnyL_take0 (i := 8) (v := ?_) rfl (by kernel_rfl) (by kernel_rfl) (by kernel_rfl) (by rfl) (fun _ _ _ h => h) (Or.inl ⟨by rfl, ?_⟩) (by assumption) ?_
        rotate_left
        · (intro W _; go_simp; (with_reducible rfl))
        intro hHeld'
        clear hHeld; have hHeld := hHeld'; clear hHeld'
        try simp only [Act.put, List.getElem_toArray, List.getElem_cons_succ, List.getElem_cons_zero, List.setIfInBounds_toArray, List.set_cons_zero, List.set_cons_succ]
        refine wpAnyL_ready (rs := [9]) (by kernel_rfl) (by simp) ?_
        refine AllReadyL.cons rfl (fun K hK => ?_) AllReadyL.nil
        go_simp
        (with_reducible refine (hcf.out _ hS.out).mono ?_)
        rintro e w6 ⟨rfl, hb⟩
        replace hS := hid (hS.out.call hb)
        clear hb T0
        go_simp
        refine hK.out _ _ (HeldL.cons (fun h => absurd h (by decide +kernel)) HeldL.nil) (fun hHeld' => ?_)
        clear hK K hHeld; have hHeld := hHeld'; clear hHeld'
        try simp only [Act.put, List.getElem_toArray, List.getElem_cons_succ, List.getElem_cons_zero, List.setIfInBounds_toArray, List.set_cons_zero, List.set_cons_succ]
        refine wpAnyL_take0 (i := 10) (v := ?_) rfl (by kernel_rfl) (by kernel_rfl) (by kernel_rfl) (by rfl) (fun _ _ _ h => h) (Or.inl ⟨by rfl, ?_⟩) (by assumption) ?_
        rotate_left
        · (intro W _; go_simp; (with_reducible rfl))
        intro hHeld'
        clear hHeld; have hHeld := hHeld'; clear hHeld'
        try simp only [Act.put, List.getElem_toArray, List.getElem_cons_succ, List.getElem_cons_zero, List.setIfInBounds_toArray, List.set_cons_zero, List.set_cons_succ]
        refine wpAnyL_done (by kernel_rfl) ?_ _
        have c1 := (hT.out _ _ hS.out).1
        have c2 := (hT.out _ _ hS.out).2.1
        have c3 := (hT.out _ _ hS.out).2.2
        go_upto_region 4 with (
          (go_at_call 209; (with_reducible refine (hby.out _ hS.out).mono ?_); rintro e w7 ⟨vo, rfl, hO2, hb⟩; replace hS := hid (hS.out.callOwn hb hO2); clear hb hO2 c1 c2 c3))
        replace hS := hid hS.out.drew
        have T0 : w7.drew.cell? ⟨b0', 0, none⟩ = some (.int .i64 d) ∧ w7.drew.cell? ⟨b1, 0, none⟩ = some (.int .i64 n) ∧ w7.drew.cell? ⟨b2, 0, none⟩ = some (.slice A L.length ca) := by rw [hb0']; exact ⟨blkc hS.out.k3, blkc hS.out.k2, blkc hS.out.k1⟩
        refine wp_region_heldL (L := [(8, (fun w' : World => w'.cell? ⟨b0', 0, none⟩ = some (.int .i64 d) ∧ w'.cell? ⟨b1, 0, none⟩ = some (.int .i64 n) ∧ w'.cell? ⟨b2, 0, none⟩ = some (.slice A L.length ca)))]) (by kernel_rfl) (HeldL.cons (fun _ => T0) HeldL.nil) (fun hHeld => ?_)
        generalize w7.drew = wb at *
        refine wpAnyL_take0 (i := 0) (v := ?_) rfl (by kernel_rfl) (by kernel_rfl) (by kernel_rfl) (by rfl) (fun _ _ _ h => h) (Or.inl ⟨by rfl, ?_⟩) (by assumption) ?_
        rotate_left
        · (intro W _; go_simp; (with_reducible rfl))
        intro hHeld'
        clear hHeld; have hHeld := hHeld'; clear hHeld'
        try simp only [Act.put, List.getElem_toArray, List.getElem_cons_succ, List.getElem_cons_zero, List.setIfInBounds_toArray, List.set_cons_zero, List.set_cons_succ]
        refine wpAnyL_ready (rs := [1]) (by kernel_rfl) (by simp) ?_
        refine AllReadyL.cons rfl (fun K hK => ?_) AllReadyL.nil
        go_simp
        (with_reducible refine (hct.out _ _ _ hS.out.o0).mono ?_)
        rintro e w5 ⟨rfl, rfl⟩
        go_simp
        refine hK.out _ _ (HeldL.cons (fun _ => T0) HeldL.nil) (fun hHeld' => ?_)
        clear hK K hHeld; have hHeld := hHeld'; clear hHeld'
        try simp only [Act.put, List.getElem_toArray, List.getElem_cons_succ, List.getElem_cons_zero, List.setIfInBounds_toArray, List.set_cons_zero, List.set_cons_succ]
        refine wpAnyL_take0 (i := 2) (v := ?_) rfl (by kernel_rfl) (by kernel_rfl) (by kernel_rfl) (by rfl) (fun _ _ _ h => h) (Or.inl ⟨by rfl, ?_⟩) (by assumption) ?_
        rotate_left
        · (intro W _; go_simp; (with_reducible rfl))
        intro hHeld'
        clear hHeld; have hHeld := hHeld'; clear hHeld'
        try simp only [Act.put, List.getElem_toArray, List.getElem_cons_succ, List.getElem_cons_zero, List.setIfInBounds_toArray, List.set_cons_zero, List.set_cons_succ]
        refine wpAnyL_takeP (i := 3) 8 [6] (v := (.int .i64 d)) (fun w' : World => w'.cell? ⟨b0', 0, none⟩ = some (.int .i64 d) ∧ w'.cell? ⟨b1, 0, none⟩ = some (.int .i64 n) ∧ w'.cell? ⟨b2, 0, none⟩ = some (.slice A L.length ca)) rfl (by kernel_rfl) (by kernel_rfl) (by kernel_rfl) (by rfl) (by kernel_rfl) (by simp) (fun _ _ _ h => h) (Or.inl ⟨by rfl, ?_⟩) (by assumption) ?_
        · (intro W hW; (replace hW := hW.1; rw [hb0'] at hW; go_simp))
        intro hHeld'
        clear hHeld; have hHeld := hHeld'; clear hHeld'
        try simp only [Act.put, List.getElem_toArray, List.getElem_cons_succ, List.getElem_cons_zero, List.setIfInBounds_toArray, List.set_cons_zero, List.set_cons_succ]
        refine wpAnyL_takeP (i := 4) 8 [6] (v := (.int .i64 n)) (fun w' : World => w'.cell? ⟨b0', 0, none⟩ = some (.int .i64 d) ∧ w'.cell? ⟨b1, 0, none⟩ = some (.int .i64 n) ∧ w'.cell? ⟨b2, 0, none⟩ = some (.slice A L.length ca)) rfl (by kernel_rfl) (by kernel_rfl) (by kernel_rfl) (by rfl) (by kernel_rfl) (by simp) (fun _ _ _ h => h) (Or.inl ⟨by rfl, ?_⟩) (by assumption) ?_
        · (intro W hW; (replace hW := hW.2.1; go_simp))
        intro hHeld'
        clear hHeld; have hHeld := hHeld'; clear hHeld'
        try simp only [Act.put, List.getElem_toArray, List.getElem_cons_succ, List.getElem_cons_zero, List.setIfInBounds_toArray, List.set_cons_zero, List.set_cons_succ]
        refine wpAnyL_take0 (i := 5) (v := ?_) rfl (by kernel_rfl) (by kernel_rfl) (by kernel_rfl) (by rfl) (fun _ _ _ h => h) (Or.inl ⟨by rfl, ?_⟩) (by assumption) ?_
        rotate_left
        · (intro W _; go_simp; (with_reducible rfl))
        intro hHeld'
        clear hHeld; have hHeld := hHeld'; clear hHeld'
        try simp only [Act.put, List.getElem_toArray, List.getElem_cons_succ, List.getElem_cons_zero, List.setIfInBounds_toArray, List.set_cons_zero, List.set_cons_succ]
        refine wpAnyL_takeP (i := 7) 8 [] (v := (.slice A L.length ca)) (fun w' : World => w'.cell? ⟨b0', 0, none⟩ = some (.int .i64 d) ∧ w'.cell? ⟨b1, 0, none⟩ = some (.int .i64 n) ∧ w'.cell? ⟨b2, 0, none⟩ = some (.slice A L.length ca)) rfl (by kernel_rfl) (by kernel_rfl) (by kernel_rfl) (by rfl) (by kernel_rfl) (by simp) (fun _ _ _ h => h) (Or.inl ⟨by rfl, ?_⟩) (by assumption) ?_
        · (intro W hW; (replace hW := hW.2.2; go_simp))
        intro hHeld'
        clear hHeld; have hHeld := hHeld'; clear hHeld'
        try simp only [Act.put, List.getElem_toArray, List.getElem_cons_succ, List.getElem_cons_zero, List.setIfInBounds_toArray, List.set_cons_zero, List.set_cons_succ]
        refine wpAnyL_ready (rs := [6]) (by kernel_rfl) (by simp) ?_
        refine AllReadyL.cons rfl (fun K hK => ?_) AllReadyL.nil
        go_simp
        (with_reducible refine (hof.out _ _ _ hS.out.o0).mono ?_)
        rintro e w8 ⟨v3, rfl, hO3, hb⟩
        replace hS := hid (hS.out.callOwn hb hO3)
        clear hb hO3
        go_simp
        refine hK.out _ _ (HeldL.cons (fun _ => by rw [hb0']; exact ⟨blkc hS.out.k4, blkc hS.out.k3, blkc hS.out.k2⟩) HeldL.nil) (fun hHeld' => ?_)
        clear hK K hHeld; have hHeld := hHeld'; clear hHeld'
        try simp only [Act.put, List.getElem_toArray, List.getElem_cons_succ, List.getElem_cons_zero, List.setIfInBounds_toArray, List.set_cons_zero, List.set_cons_succ]
        refine wpAnyL_ready (rs := [8]) (by kernel_rfl) (by simp) ?_
        refine AllReadyL.cons rfl (fun K hK => ?_) AllReadyL.nil
        go_simp
        (with_reducible refine (hsq.out _ _ _ _ _ hS.out.o0 hS.out.o5).mono ?_)
        rintro e w9 ⟨rfl, k9, rfl⟩
        replace hS := hid (hS.out.drewN k9)
        clear T0
        go_simp
        refine hK.out _ _ (HeldL.cons (fun h => absurd h (by decide +kernel)) HeldL.nil) (fun hHeld' => ?_)
        clear hK K hHeld; have hHeld := hHeld'; clear hHeld'
        try simp only [Act.put, List.getElem_toArray, List.getElem_cons_succ, List.getElem_cons_zero, List.setIfInBounds_toArray, List.set_cons_zero, List.set_cons_succ]
        refine wpAnyL_take0 (i := 9) (v := ?_) rfl (by kernel_rfl) (by kernel_rfl) (by kernel_rfl) (by rfl) (fun _ _ _ h => h) (Or.inl ⟨by rfl, ?_⟩) (by assumption) ?_
        rotate_left
        · (intro W _; go_simp; (with_reducible rfl))
        intro hHeld'
        clear hHeld; have hHeld := hHeld'; clear hHeld'
        try simp only [Act.put, List.getElem_toArray, List.getElem_cons_succ, List.getElem_cons_zero, List.setIfInBounds_toArray, List.set_cons_zero, List.set_cons_succ]
        refine wpAnyL_take0 (i := 10) (v := ?_) rfl (by kernel_rfl) (by kernel_rfl) (by kernel_rfl) (by rfl) (fun _ _ _ h => h) (Or.inl ⟨by rfl, ?_⟩) (by assumption) ?_
        rotate_left
        · (intro W _; go_simp; (with_reducible rfl))
        intro hHeld'
        clear hHeld; have hHeld := hHeld'; clear hHeld'
        try simp only [Act.put, List.getElem_toArray, List.getElem_cons_succ, List.getElem_cons_zero, List.setIfInBounds_toArray, List.set_cons_zero, List.set_cons_succ]
        refine wpAnyL_done (by kernel_rfl) ?_ _
        go_wp2
        go_ret2
        exact ⟨rfl, hS.out.bel⟩
  · have qN : (((L.length : Nat) : Int) != ((pw d n : Nat) : Int)) = true := by simp; omega
    have qN2 : (L.length != pw d n) = true := by simpa using hlen
    clear hcf
    replace hO := hid hO; replace hno := hid hno
    generalize pw d n = N at *
    replace hlen := hid hlen
    go_enter Try.func114, Try.ntmps114
    go_upto_region 1 with (fail)
    generalize hb2' : w.heap.size + 1 + 1 = b2 at *
    generalize hb1' : w.heap.size + 1 = b1 at *
    obtain ⟨b0', hb0'⟩ : ∃ b0', b0' = w.heap.size := ⟨_, rfl⟩
    replace hb2' := hid hb2'
    replace hb1' := hid hb1'
    replace hS := hid hS.out.drew
    have T0 := hT.out _ _ hS.out
    rw [← hb0'] at T0
    refine wp_region_heldL (L := [(9, (fun w' : World => w'.cell? ⟨b0', 0, none⟩ = some (.int .i64 d) ∧ w'.cell? ⟨b1, 0, none⟩ = some (.int .i64 n) ∧ w'.cell? ⟨b2, 0, none⟩ = some (.slice A L.length ca)))]) (by kernel_rfl) (HeldL.cons (fun _ => T0) HeldL.nil) (fun hHeld => ?_)
    generalize World.drew _ = wa at *
    refine wpAnyL_takeP (i := 0) 9 [6, 5, 1] (v := (.slice A L.length ca)) (fun w' : World => w'.cell? ⟨b0', 0, none⟩ = some (.int .i64 d) ∧ w'.cell? ⟨b1, 0, none⟩ = some (.int .i64 n) ∧ w'.cell? ⟨b2, 0, none⟩ = some (.slice A L.length ca)) rfl (by kernel_rfl) (by kernel_rfl) (by kernel_rfl) (by rfl) (by kernel_rfl) (by simp) (fun _ _ _ h => h) (Or.inl ⟨by rfl, ?_⟩) (by assumption) ?_
    · (intro W hW; (replace hW := hW.2.2; go_simp))
    intro hHeld'
    clear hHeld; have hHeld := hHeld'; clear hHeld'
    try simp only [Act.put, List.getElem_toArray, List.getElem_cons_succ, List.getElem_cons_zero, List.setIfInBounds_toArray, List.set_cons_zero, List.set_cons_succ]
    refine wpAnyL_take0 (i := 1) (v := ?_) rfl (by kernel_rfl) (by kernel_rfl) (by kernel_rfl) (by rfl) (fun _ _ _ h => h) (Or.inl ⟨by rfl, ?_⟩) (by assumption) ?_
    rotate_left
    · (intro W _; go_simp; (with_reducible rfl))
    intro hHeld'
    clear hHeld; have hHeld := hHeld'; clear hHeld'
    try simp only [Act.put, List.getElem_toArray, List.getElem_cons_succ, List.getElem_cons_zero, List.setIfInBounds_toArray, List.set_cons_zero, List.set_cons_succ]
    refine wpAnyL_takeP (i := 2) 9 [6, 4] (v := (.int .i64 d)) (fun w' : World => w'.cell? ⟨b0', 0, none⟩ = some (.int .i64 d) ∧ w'.cell? ⟨b1, 0, none⟩ = some (.int .i64 n) ∧ w'.cell? ⟨b2, 0, none⟩ = some (.slice A L.length ca)) rfl (by kernel_rfl) (by kernel_rfl) (by kernel_rfl) (by rfl) (by kernel_rfl) (by simp) (fun _ _ _ h => h) (Or.inl ⟨by rfl, ?_⟩) (by assumption) ?_
    · (intro W hW; (replace hW := hW.1; rw [hb0'] at hW; go_simp))
    intro hHeld'
    clear hHeld; have hHeld := hHeld'; clear hHeld'
    try simp only [Act.put, List.getElem_toArray, List.getElem_cons_succ, List.getElem_cons_zero, List.setIfInBounds_toArray, List.set_cons_zero, List.set_cons_succ]
    refine wpAnyL_takeP (i := 3) 9 [6, 4] (v := (.int .i64 n)) (fun w' : World => w'.cell? ⟨b0', 0, none⟩ = some (.int .i64 d) ∧ w'.cell? ⟨b1, 0, none⟩ = some (.int .i64 n) ∧ w'.cell? ⟨b2, 0, none⟩ = some (.slice A L.length ca)) rfl (by kernel_rfl) (by kernel_rfl) (by kernel_rfl) (by rfl) (by kernel_rfl) (by simp) (fun _ _ _ h => h) (Or.inl ⟨by rfl, ?_⟩) (by assumption) ?_
    · (intro W hW; (replace hW := hW.2.1; go_simp))
    intro hHeld'
    clear hHeld; have hHeld := hHeld'; clear hHeld'
    try simp only [Act.put, List.getElem_toArray, List.getElem_cons_succ, List.getElem_cons_zero, List.setIfInBounds_toArray, List.set_cons_zero, List.set_cons_succ]
    refine wpAnyL_ready (rs := [4]) (by kernel_rfl) (by simp) ?_
    refine AllReadyL.cons rfl (fun K hK => ?_) AllReadyL.nil
    go_simp
    (with_reducible refine (hpw.out _).mono ?_)
    rintro e w5 ⟨rfl, rfl⟩
    go_simp
    refine hK.out _ _ (HeldL.cons (fun _ => T0) HeldL.nil) (fun hHeld' => ?_)
    clear hK K hHeld; have hHeld := hHeld'; clear hHeld'
    try simp only [Act.put, List.getElem_toArray, List.getElem_cons_succ, List.getElem_cons_zero, List.setIfInBounds_toArray, List.set_cons_zero, List.set_cons_succ]
    refine wpAnyL_take0 (i := 5) (v := ?_) rfl (by kernel_rfl) (by kernel_rfl) (by kernel_rfl) (by rfl) (fun _ _ _ h => h) (Or.inl ⟨by rfl, ?_⟩) (by assumption) ?_
    rotate_left
    · (intro W _; go_simp; (with_reducible rfl))
    intro hHeld'
    clear hHeld; have hHeld := hHeld'; clear hHeld'
    try simp only [Act.put, List.getElem_toArray, List.getElem_cons_succ, List.getElem_cons_zero, List.setIfInBounds_toArray, List.set_cons_zero, List.set_cons_succ]
    refine wpAnyL_take0 (i := 6) (v := ?_) rfl (by kernel_rfl) (by kernel_rfl) (by kernel_rfl) (by rfl) (fun _ _ _ h => h) (Or.inl ⟨by rfl, ?_⟩) (by assumption) ?_
    rotate_left
    · (intro W _; go_simp; (with_reducible rfl))
    intro hHeld'
    clear hHeld; have hHeld := hHeld'; clear hHeld'
    try simp only [Act.put, List.getElem_toArray, List.getElem_cons_succ, List.getElem_cons_zero, List.setIfInBounds_toArray, List.set_cons_zero, List.set_cons_succ]
    refine wpAnyL_take0 (i := 7) (v := undef) rfl (by kernel_rfl) (by kernel_rfl) (by kernel_rfl) (by rfl) (fun _ _ _ h => h) (Or.inr ⟨by rfl, rfl⟩) (by assumption) ?_
    intro hHeld'
    clear hHeld; have hHeld := hHeld'; clear hHeld'
    try simp only [Act.put, List.getElem_toArray, List.getElem_cons_succ, List.getElem_cons_zero, List.setIfInBounds_toArray, List.set_cons_zero, List.set_cons_succ]
    refine wpAnyL_take0 (i := 8) (v := undef) rfl (by kernel_rfl) (by kernel_rfl) (by kernel_rfl) (by rfl) (fun _ _ _ h => h) (Or.inr ⟨by rfl, rfl⟩) (by assumption) ?_
    intro hHeld'
    clear hHeld; have hHeld := hHeld'; clear hHeld'
    try simp only [Act.put, List.getElem_toArray, List.getElem_cons_succ, List.getElem_cons_zero, List.setIfInBounds_toArray, List.set_cons_zero, List.set_cons_succ]
    refine wpAnyL_ready (rs := [9]) (by kernel_rfl) (by simp) ?_
    refine AllReadyL.cons rfl (fun K hK => ?_) AllReadyL.nil
    go_simp
    refine hK.out _ _ (HeldL.cons (fun h => absurd h (by decide +kernel)) HeldL.nil) (fun hHeld' => ?_)
    clear hK K hHeld; have hHeld := hHeld'; clear hHeld'
    try simp only [Act.put, List.getElem_toArray, List.getElem_cons_succ, List.getElem_cons_zero, List.setIfInBounds_toArray, List.set_cons_zero, List.set_cons_succ]
    refine wpAnyL_take0 (i := 10) (v := ?_) rfl (by kernel_rfl) (by kernel_rfl) (by kernel_rfl) (by rfl) (fun _ _ _ h => h) (Or.inl ⟨by rfl, ?_⟩) (by assumption) ?_
    rotate_left
    · (intro W _; go_simp; (with_reducible rfl))
    intro hHeld'
    clear hHeld; have hHeld := hHeld'; clear hHeld'
    try simp only [Act.put, List.getElem_toArray, List.getElem_cons_succ, List.getElem_cons_zero, List.setIfInBounds_toArray, List.set_cons_zero, List.set_cons_succ]
    refine wpAnyL_done (by kernel_rfl) ?_ _
    go_wp2
    go_ret2
    exact ⟨rfl, hS.out.bel⟩
/-- What portraitFrom makes of any list. -/
theorem pfg_any (w : World) (d n : Nat) (hd : d = 2 ∨ d = 3) (hn1 : 1 ≤ n) (hn : n ≤ 4) (b0 : Nat) (v : Value) (L : List Int) (hO : Own w b0 2 v (ints L)) (hll : L.length < 1000000) :
    Calls Try.prog 114 #[.int .i64 d, .int .i64 n, v] w fun e w' => ∃ v', e = .returned (.tuple #[v', .bool (rfm d n L).2]) ∧ Own w' w.heap.size 2 v' (ints (rfm d n L).1) ∧ Below w.heap.size w w' := by
  by_cases h : Lvl d n L
  · obtain ⟨g, hg, rfl⟩ := h
    rw [rfm_1 hd hg]
    rw [← nats_ints] at hO
    have h2 := portraitFrom_any w d n hd hn1 hn (actP d g) (aut_act hd hg) b0 v hO
    rw [prtF_act hd hg] at h2
    exact h2
  · rw [rfm_0 h]
    refine (pfgBad_any w d n hd hn1 hn b0 v L hO hll h).mono ?_
    rintro e w' ⟨rfl, hb⟩
    exact ⟨_, rfl, Own.nil _ _ _, hb⟩
set_option maxHeartbeats 2000000 in
set_option maxRecDepth 100000 in
theorem implPor_any (w : World) (d n : Int) (v : Value) (L : List Int) (hO : Own w 0 2 v (ints L)) (hll : L.length < 1000000) :
    Calls Try.prog 34 #[.int .i64 d, .int .i64 n, v] w fun e w' => ∃ v', e = .returned (.tuple #[v', .int .i64 (porAns d n L).2]) ∧ Own w' w.heap.size 2 v' (ints (porAns d n L).1) ∧ Below w.heap.size w w' := by
  have hS := hid (St.start w)
  have had := hid (fun W => areDepths_any d n (decide (IsD d n)) rfl W)
  by_cases hD : IsD d n
  · rw [decide_eq_true hD] at had
    obtain ⟨d, n, rfl, rfl, hd, hn1, hn4⟩ := hD.nat
    have hpf := hid (pfg_any w d n hd hn1 hn4 0 v L hO hll)
    cases hr : (rfm d n L).2 with
    | true =>
      rw [porAns_1 hD hr]
      rw [hr] at hpf
      clear hr hO
      generalize (rfm d n L).1 = G at *
      replace hD := hid hD
      go_enter Try.func34, Try.ntmps34
      go_wp2_with (first
        | (go_at_call 120; (with_reducible refine (had.out _).mono ?_); rintro e w' ⟨rfl, rfl⟩)
        | (go_at_call 114; (with_reducible refine (hpf.out).mono ?_); rintro e w2 ⟨v3, rfl, hO3, hb⟩; replace hS := hid (hS.out.callOwn hb hO3); clear hb hO3))
      go_ret2
      exact ⟨_, rfl, hS.out.o0, hS.out.bel⟩
    | false =>
      rw [porAns_0 hD hr]
      rw [hr] at hpf
      clear hr hO
      generalize (rfm d n L).1 = G at *
      replace hD := hid hD
      go_enter Try.func34, Try.ntmps34
      go_wp2_with (first
        | (go_at_call 120; (with_reducible refine (had.out _).mono ?_); rintro e w' ⟨rfl, rfl⟩)
        | (go_at_call 114; (with_reducible refine (hpf.out).mono ?_); rintro e w2 ⟨v3, rfl, hO3, hb⟩; replace hS := hid (hS.out.callOwn hb hO3); clear hb hO3))
      go_ret2
      exact ⟨_, rfl, Own.nil _ _ _, hS.out.bel⟩
  · rw [decide_eq_false hD] at had
    rw [porAns_d hD]
    clear hO
    replace hD := hid hD
    go_enter Try.func34, Try.ntmps34
    go_wp2_with (
      (go_at_call 120; (with_reducible refine (had.out _).mono ?_); rintro e w' ⟨rfl, rfl⟩))
    go_ret2
    exact ⟨_, rfl, Own.nil _ _ _, hS.out.bel⟩
end Go.Proofs.Ytbmkkaecfogmoaa
