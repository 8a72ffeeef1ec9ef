/- What the proof of FnStates leans on, part 27 of 29. -/
import Derived.Test.YthmcdfjijkecfaaGreatZFnStatesZ
/- The program's portraitFrom at the map of a level. -/
namespace Go.Proofs.YthmcdfjijkecfaaGreat
open Go.RowKit
set_option linter.unusedVariables false
set_option linter.unusedSimpArgs false
-- @LONG

set_option maxHeartbeats 1000000 in
/-- Is a number in the level? -/
theorem pfr1_any (b b2 : Nat) (w : World) (d n : Nat) (hd : d = 2 ∨ d = 3) (hn : n ≤ 5) (hb : w.cell? ⟨b, 0, none⟩ = some (.int .i64 d)) (hb2 : w.cell? ⟨b2, 0, none⟩ = some (.int .i64 n)) (k : Int) (hk : 0 ≤ k ∧ k < (pw d n : Nat)) :
    Calls Tryz.prog 191 #[.int .i64 k, .pointer (some ⟨b, 0, none⟩), .pointer (some ⟨b2, 0, none⟩)] w fun e w' => e = .returned (.bool false) ∧ Below w.heap.size w w' := by
  have h5 := pw5 (n := n) hd hn
  have hpw := hid (fun W => power_any d n (by omega) (by omega) (by omega) W)
  have hin := hid (fun W => within_any k 0 ((pw d n : Nat) - 1) true (decide_eq_true (by omega)).symm W)
  have ew : wrap64 (((pw d n : Nat) : Int) - 1) = ((pw d n : Nat) : Int) - 1 := w64 (by omega) (by omega)
  have ew2 : IntKind.i64.wrap (((pw d n : Nat) : Int) - 1) = ((pw d n : Nat) : Int) - 1 := IntWalk.i64_in _ (by omega)
  generalize pw d n = N at *
  go_enter Tryz.func191, Tryz.ntmps191
  go_wp2_with (first
    | (go_at_call 171; (with_reducible refine (hpw.out _).mono ?_); rintro e w' ⟨rfl, rfl⟩)
    | (go_at_call 86; (with_reducible refine (hin.out _).mono ?_); rintro e w' ⟨rfl, rfl⟩))
  go_ret
  exact ⟨rfl, Below.refl _ _⟩
set_option maxHeartbeats 1000000 in
set_option maxRecDepth 100000 in
theorem indexFuncI_pfr (b b2 : Nat) (w : World) (base : Nat) (v : Value) (l : List Int) (h : Own w base 2 v (ints l)) (hl : l.length < 2000000) (p : Int → Bool)
    (hcall : ∀ W, Below w.heap.size w W → ∀ x, x ∈ l → Calls Tryz.prog 191 #[.int .i64 x, .pointer (some ⟨b, 0, none⟩), .pointer (some ⟨b2, 0, none⟩)] W fun e w' => e = .returned (.bool (p x)) ∧ Below W.heap.size W w') :
    Calls Tryz.prog 232 #[v, .func (.func 191) #[] #[.pointer (some ⟨b, 0, none⟩), .pointer (some ⟨b2, 0, none⟩)]] w fun e w' => e = .returned (.int .i64 (idxP p l 0)) ∧ Below w.heap.size w w' := by
  have hil := ints_length l
  obtain ⟨A1, c1, rfl, _, _⟩ := h.form
  rw [hil] at h ⊢
  have hget := hid (fun (k : Nat) (x : Int) (hx : l[k]? = some x) => (show (ints l)[k]? = some (.int .i64 x) by simp [ints, hx]))
  have hcell := hid (fun (k : Nat) (x : Int) (hx : l[k]? = some x) => (show ∃ g, A1 = some ⟨g, 0, none⟩ ∧ ∀ W, Below w.heap.size w W → W.cell? ⟨g, k, none⟩ = some (.int .i64 x) from by
    obtain ⟨g1, c2, he, _, hg1⟩ := h.blk (fun e => by have h1 := congrArg List.length e; rw [hil] at h1; have h2 := (List.getElem?_eq_some_iff.1 hx).1; rw [List.length_nil] at h1; omega)
    injection he with e1 e2 e3
    subst e1
    exact ⟨g1, rfl, fun W hW => (h.below hW).cellAt k _ (hget.out k x hx)⟩))
  replace hcall := hid hcall
  clear h hil
  obtain ⟨R, hR⟩ : ∃ R, R = idxP p l 0 := ⟨_, rfl⟩
  rw [← hR]
  replace hR := hid hR
  generalize hn : l.length = n at *
  replace hn := hid hn
  go_enter Tryz.func232, Tryz.ntmps232
  go_wp2
  go_loopw [8] (fun i wr => ∃ k : Nat, k ≤ n ∧ i = .int .i64 k ∧ Hid (R = idxP p (l.drop k) k) ∧ Below w.heap.size w wr) (fun i _ => n - (intOf i).toNat)
  case atStart => exact ⟨0, Nat.zero_le _, rfl, hR, Below.refl _ _⟩
  case round =>
    obtain ⟨k, hk, rfl, hA, rB⟩ := hrel
    clear hR
    replace rB := hid rB
    by_cases hlt : k < n
    · obtain ⟨x, hx⟩ : ∃ x, l[k]? = some x := ⟨_, List.getElem?_eq_getElem (by rw [hn.out]; exact hlt)⟩
      obtain ⟨g, rfl, hc⟩ := hcell.out k x hx
      have d1 := hc wr rB.out
      have hcl := hid (hcall.out wr rB.out x (List.mem_of_getElem? hx))
      have hT := hid (fun hp => idxP_drop_t (p := p) hx hp k)
      have hF := hid (fun hp => idxP_drop_f (p := p) hx hp k)
      clear hc hx
      cases hp : p x with
      | true =>
        rw [hp] at hcl
        have hA2 := hid (hA.out.trans (hT.out hp))
        clear hp hT hF
        go_wp2_with (first
          | (go_at_call 191; (with_reducible refine (hcl.out).mono ?_); rintro e w1 ⟨rfl, hb⟩; replace rB := hid (rB.out.trans (hb.mono rB.out.size)); clear hb))
        go_ret
        exact ⟨retI (by rw [hA2.out]), rB.out⟩
      | false =>
        rw [hp] at hcl
        have hA2 := hid (hA.out.trans (hF.out hp))
        clear hp hT hF
        go_wp2_with (first
          | (go_at_call 191; (with_reducible refine (hcl.out).mono ?_); rintro e w1 ⟨rfl, hb⟩; replace rB := hid (rB.out.trans (hb.mono rB.out.size)); clear hb))
        go_roundw
        case rel => exact ⟨k + 1, by omega, by go_num, hA2, rB.out⟩
        case measure => simp [intOf]; omega
    · obtain rfl : k = n := by omega
      have hA2 := hid (hA.out.trans (show _ = (-1 : Int) by rw [List.drop_eq_nil_of_le (by rw [hn.out]; exact Nat.le_refl _)]; rfl))
      go_wp2
      go_ret
      exact ⟨retI (by rw [hA2.out]), rB.out⟩
set_option maxHeartbeats 1000000 in
theorem containsFuncI_pfr (b b2 : Nat) (w : World) (base : Nat) (v : Value) (l : List Int) (h : Own w base 2 v (ints l)) (hl : l.length < 2000000) (p : Int → Bool)
    (hcall : ∀ W, Below w.heap.size w W → ∀ x, x ∈ l → Calls Tryz.prog 191 #[.int .i64 x, .pointer (some ⟨b, 0, none⟩), .pointer (some ⟨b2, 0, none⟩)] W fun e w' => e = .returned (.bool (p x)) ∧ Below W.heap.size W w') :
    Calls Tryz.prog 180 #[v, .func (.func 191) #[] #[.pointer (some ⟨b, 0, none⟩), .pointer (some ⟨b2, 0, none⟩)]] w fun e w' => e = .returned (.bool (l.any p)) ∧ Below w.heap.size w w' := by
  have hi := hid (indexFuncI_pfr b b2 w base v l h hl p hcall)
  have ha := hid (idxP_any p l 0 (Int.le_refl _))
  clear hcall h hl
  generalize idxP p l 0 = r at *
  generalize l.any p = c at *
  go_enter Tryz.func180, Tryz.ntmps180
  go_wp2_with (first
    | (go_at_call 232; (with_reducible refine (hi.out).mono ?_); rintro e w1 ⟨rfl, hb⟩; replace hb := hid hb))
  go_ret
  refine ⟨retB ?_, hb.out⟩
  have h := ha.out
  rw [Bool.eq_iff_iff, ← h]
  simp
set_option maxHeartbeats 4000000 in
set_option maxRecDepth 100000 in
/-- The number of what the map makes of the letters behind a word. -/
theorem pfr2_any (base : Nat) (w0 w : World) (b3 b2 b1 : Nat) (d n : Nat) (hd : d = 2 ∨ d = 3) (hn : n ≤ 4) (F : List Nat → List Nat) (hF : Aut d F n) (bv : Nat) (v : Value)
    (hS : St base w0 [Asn.blk b3 #[v] 32, Asn.blk b2 #[.int .i64 n] 2, Asn.blk b1 #[.int .i64 d] 2, Asn.own bv 2 v (nats (pmF d F n))] w)
    (u : List Nat) (hu : ∀ x ∈ u, x < d) (hlen : u.length < n) :
    Calls Tryz.prog 192 #[.string (wstr u), .pointer (some ⟨b1, 0, none⟩), .pointer (some ⟨b2, 0, none⟩), .pointer (some ⟨b3, 0, none⟩)] w fun e w' => e = .returned (.int .i64 (pnm (lrow d F u))) ∧ Below w.heap.size w w' := by
  have hpos := pw_pos d (by omega) n
  have hN := pw5 (n := n) hd (by omega)
  have hnl := nats_length (pmF d F n)
  rw [pmF_length] at hnl
  obtain ⟨ga, ca, rfl, _, _⟩ := hS.o3.blk (fun e => by rw [e] at hnl; simp at hnl; omega)
  rw [hnl] at hS
  have hc := hid (fun W (hW : Below w.heap.size w W) => (show W.cell? ⟨b1, 0, none⟩ = some (.int .i64 d) ∧ W.cell? ⟨b2, 0, none⟩ = some (.int .i64 n) ∧ W.cell? ⟨b3, 0, none⟩ = some (.slice (some ⟨ga, 0, none⟩) (pw d n) ca) ∧ ∀ j, j < pw d n → W.cell? ⟨ga, j, none⟩ = some (.int .i64 ((pmF d F n).getD j 0 : Nat)) from by
    have h := hS.call hW
    refine ⟨blkc h.k2, blkc h.k1, blkc h.k0, fun j hj => h.o3.cellAt j _ ?_⟩
    rw [nats, List.getElem?_map, List.getD_eq_getElem?_getD]
    have hj' : j < (pmF d F n).length := by rw [pmF_length]; exact hj
    rw [List.getElem?_eq_getElem hj']; rfl))
  have hnm := hid (fun W => numberOf_any d (by omega) (by omega) u hu (by have := pw5 (n := u.length) hd (by omega); omega) (by omega) W)
  have hp1 := hid (fun W => power_any d (n - u.length) (by omega) (by have := pw5 (n := n - u.length) hd (by omega); omega) (by omega) W)
  have hp2 := hid (fun W => power_any d (n - u.length - 1) (by omega) (by have := pw5 (n := n - u.length - 1) hd (by omega); omega) (by omega) W)
  have hrd := hid (fun x (hx : x < d) => pmF_read hd hF hu hlen hx)
  have hsz := wstr_size u
  have hP2 := pw_pos d (by omega) (n - u.length - 1)
  have hP2u := pw5 (n := n - u.length - 1) hd (by omega)
  have hyl := hid (fun x (hx : x < d) => (hF.last hu hx hlen).2)
  have hmu : num d u * pw d (n - u.length) < pw d n := by have h := (hrd.out 0 (by omega)).1; omega
  have hget := hid (fun j (hj : j < pw d n) => (show (pmF d F n).getD j 0 < pw d n from by
    rw [pmF_get hj]
    exact num_lt d n _ (by rw [hF.len _ (wrd_lt d (by omega) n j) (by rw [wrd_length]; exact Nat.le_refl _), wrd_length]) (hF.lt _ (wrd_lt d (by omega) n j) (by rw [wrd_length]; exact Nat.le_refl _))))
  obtain ⟨Y, hY⟩ : ∃ Y : Nat → Nat, Y = fun x => (F (u ++ [x])).getD u.length 0 := ⟨_, rfl⟩
  have hYe := hid (fun x => (show (F (u ++ [x])).getD u.length 0 = Y x by rw [hY]))
  obtain ⟨R, hR⟩ : ∃ R : Nat → List Int, R = fun k => (List.range k).map fun x => ((Y x : Nat) : Int) := ⟨_, rfl⟩
  have hR0 := hid (show R 0 = [] by rw [hR]; rfl)
  have hRs := hid (fun k => (show R (k + 1) = R k ++ [((Y k : Nat) : Int)] by rw [hR]; simp [List.range_succ]))
  have hRl := hid (fun k => (show (R k).length = k by rw [hR]; simp))
  have hRd : lrow d F u = R d := by rw [hR, hY]; rfl
  rw [hRd]
  have hpn := hid (fun W b v (hO : Own W b 2 v (ints (R d))) => (by have h := permutationNumber_any W b v _ hO (by rw [hRl.out]; omega); rw [pnI_of (by rw [hRl.out]; omega)] at h; exact h : Calls Tryz.prog 91 #[v] W fun e w' => e = .returned (.int .i64 (pnm (R d))) ∧ Below W.heap.size W w'))
  simp only [hYe.out] at hrd hyl
  have e1 : IntKind.i64.wrap ((n : Int) - (u.length : Int)) = ((n - u.length : Nat) : Int) := by rw [show (n : Int) - (u.length : Int) = ((n - u.length : Nat) : Int) by omega]; exact IntWalk.i64_in _ (by omega)
  have e2 : IntKind.i64.wrap (((n - u.length : Nat) : Int) - 1) = ((n - u.length - 1 : Nat) : Int) := by rw [show ((n - u.length : Nat) : Int) - 1 = ((n - u.length - 1 : Nat) : Int) by omega]; exact IntWalk.i64_in _ (by omega)
  have e3 : IntKind.i64.wrap (((num d u : Nat) : Int) * ((pw d (n - u.length) : Nat) : Int)) = ((num d u * pw d (n - u.length) : Nat) : Int) := by rw [← Int.natCast_mul]; exact IntWalk.i64_in _ (by omega)
  clear hR hY hRd hu hF hS hYe
  generalize hK : pnm (R d) = PN at *
  clear hK
  generalize (pmF d F n) = L at *
  generalize num d u * pw d (n - u.length) = first at *
  generalize pw d (n - u.length) = N1 at *
  generalize hNN : pw d (n - u.length - 1) = N2 at *
  clear hNN
  generalize num d u = nu at *
  generalize n - u.length - 1 = k2 at *
  generalize n - u.length = k1 at *
  generalize pw d n = N at *
  generalize u.length = k at *
  generalize wstr u = us at *
  have hS0 := hid ((St.start w).nilOwn 2)
  have c1 := (hc.out w (Below.refl _ _)).1
  have c2 := (hc.out w (Below.refl _ _)).2.1
  have c3 := (hc.out w (Below.refl _ _)).2.2.1
  go_enter Tryz.func192, Tryz.ntmps192
  go_upto_region 2 with (fail)
  go_quiet (first
    | (go_at_call 193; exact quiet_same (hnm.out _))
    | (go_at_call 171; exact quiet_same (hp1.out _)))
  replace hS0 := hid (hS0.out.drewN nq)
  clear c1 c2 c3
  have c1 := (hc.out _ hS0.out.bel).1
  go_wp2
  clear c1
  go_loopw [8, 23] (fun o i wr => ∃ x : Nat, x ≤ d ∧ i = .int .i64 x ∧ St w.heap.size w [Asn.own w.heap.size 2 o (ints (R x))] wr) (fun _ i _ => d - (intOf i).toNat)
  case atStart => exact ⟨0, Nat.zero_le _, rfl, by rw [hR0.out]; exact hS0.out⟩
  case round =>
    obtain ⟨x, hx, rfl, rS⟩ := hrel
    clear hS0
    have c1 := (hc.out wr rS.bel).1
    have c2 := (hc.out wr rS.bel).2.1
    have c3 := (hc.out wr rS.bel).2.2.1
    by_cases hlt : x < d
    · have dx : decide ((x : Int) < (d : Int)) = true := decide_eq_true (by omega)
      obtain ⟨r1, r2⟩ := hrd.out x hlt
      have c4 := (hc.out wr rS.bel).2.2.2 _ r1
      have hgt := hget.out _ r1
      have hy := hyl.out x hlt
      have e4 : IntKind.i64.wrap ((x : Int) * (N2 : Int)) = ((x * N2 : Nat) : Int) := by rw [← Int.natCast_mul]; exact IntWalk.i64_in _ (by omega)
      have e5 : IntKind.i64.wrap ((first : Int) + ((x * N2 : Nat) : Int)) = ((first + x * N2 : Nat) : Int) := by rw [← Int.natCast_add]; exact IntWalk.i64_in _ (by omega)
      generalize x * N2 = xn at *
      generalize first + xn = ix at *
      generalize L.getD ix 0 = tv at *
      have i0 : (0 : Int) ≤ (ix : Int) := Int.natCast_nonneg _
      have i1 : (ix : Int) < (N : Int) := by omega
      have dz : ¬ (N2 : Int) = 0 := by omega
      have dz2 : ¬ (d : Int) = 0 := by omega
      have dz3 : ¬ N2 = 0 := by omega
      have dz4 : ¬ d = 0 := by omega
      obtain ⟨qv, hqv⟩ : ∃ qv, qv = tv / N2 := ⟨_, rfl⟩
      have m2 : Int.tdiv (tv : Int) (N2 : Int) = (qv : Int) := by rw [hqv, Int.tdiv_eq_ediv_of_nonneg (Int.natCast_nonneg _)]; rfl
      have hq : qv ≤ tv := by rw [hqv]; exact Nat.div_le_self tv N2
      have m1 : Int.tmod (qv : Int) (d : Int) = ((Y x : Nat) : Int) := by rw [← r2, hqv, Int.tmod_eq_emod_of_nonneg (Int.natCast_nonneg _)]; rfl
      clear hqv
      have s1 : IntKind.i64.wrap (qv : Int) = (qv : Int) := IntWalk.i64_in _ (by omega)
      have s2 : IntKind.i64.wrap ((Y x : Nat) : Int) = ((Y x : Nat) : Int) := IntWalk.i64_in _ (by omega)
      have hRx := hid (hRs.out x)
      have hlx := hid (show (ints (R x)).length = x by rw [ints_length, hRl.out])
      generalize Y x = y at *
      replace rS := hid rS
      go_upto_region 7 with (fail)
      go_quiet (
        (go_at_call 171; exact quiet_same (hp2.out _)))
      replace rS := hid (rS.out.drewN nq)
      clear c1 c2 c3 c4
      generalize World.drewN wr nq = wq at *
      go_upto_region 8 with (fail)
      replace rS := hid rS.out.drew
      have T1 := (hc.out wq.drew rS.out.bel).1
      have T2 := (hc.out wq.drew rS.out.bel).2.1
      refine wp_region_heldL (L := [(12, (fun w' : World => w'.cell? ⟨b1, 0, none⟩ = some (.int .i64 d) ∧ w'.cell? ⟨b2, 0, none⟩ = some (.int .i64 n)))]) (by kernel_rfl) (HeldL.cons (fun _ => ⟨T1, T2⟩) HeldL.nil) (fun hHeld => ?_)
      generalize wq.drew = wa at *
      refine wpAnyL_take0 (i := 0) (v := ?_) rfl (by kernel_rfl) (by kernel_rfl) (by kernel_rfl) (by rfl) (fun _ _ _ h => h) (Or.inl ⟨by rfl, ?_⟩) (by assumption) ?_
      rotate_left
      · (intro W _; go_simp; (with_reducible rfl))
      intro hHeld'
      clear hHeld; have hHeld := hHeld'; clear hHeld'
      try simp only [Act.put, List.getElem_toArray, List.getElem_cons_succ, List.getElem_cons_zero, List.setIfInBounds_toArray, List.set_cons_zero, List.set_cons_succ]
      refine wpAnyL_take0 (i := 1) (v := ?_) rfl (by kernel_rfl) (by kernel_rfl) (by kernel_rfl) (by rfl) (fun _ _ _ h => h) (Or.inl ⟨by rfl, ?_⟩) (by assumption) ?_
      rotate_left
      · (intro W _; go_simp; (with_reducible rfl))
      intro hHeld'
      clear hHeld; have hHeld := hHeld'; clear hHeld'
      try simp only [Act.put, List.getElem_toArray, List.getElem_cons_succ, List.getElem_cons_zero, List.setIfInBounds_toArray, List.set_cons_zero, List.set_cons_succ]
      refine wpAnyL_takeP (i := 2) 12 [7] (v := (.int .i64 d)) (fun w' : World => w'.cell? ⟨b1, 0, none⟩ = some (.int .i64 d) ∧ w'.cell? ⟨b2, 0, none⟩ = some (.int .i64 n)) rfl (by kernel_rfl) (by kernel_rfl) (by kernel_rfl) (by rfl) (by kernel_rfl) (by simp) (fun _ _ _ h => h) (Or.inl ⟨by rfl, ?_⟩) (by assumption) ?_
      · (intro W hW; (replace hW := hW.1); go_simp)
      intro hHeld'
      clear hHeld; have hHeld := hHeld'; clear hHeld'
      try simp only [Act.put, List.getElem_toArray, List.getElem_cons_succ, List.getElem_cons_zero, List.setIfInBounds_toArray, List.set_cons_zero, List.set_cons_succ]
      refine wpAnyL_takeP (i := 3) 12 [7, 6, 5] (v := (.int .i64 n)) (fun w' : World => w'.cell? ⟨b1, 0, none⟩ = some (.int .i64 d) ∧ w'.cell? ⟨b2, 0, none⟩ = some (.int .i64 n)) rfl (by kernel_rfl) (by kernel_rfl) (by kernel_rfl) (by rfl) (by kernel_rfl) (by simp) (fun _ _ _ h => h) (Or.inl ⟨by rfl, ?_⟩) (by assumption) ?_
      · (intro W hW; (replace hW := hW.2); go_simp)
      intro hHeld'
      clear hHeld; have hHeld := hHeld'; clear hHeld'
      try simp only [Act.put, List.getElem_toArray, List.getElem_cons_succ, List.getElem_cons_zero, List.setIfInBounds_toArray, List.set_cons_zero, List.set_cons_succ]
      refine wpAnyL_take0 (i := 4) (v := ?_) rfl (by kernel_rfl) (by kernel_rfl) (by kernel_rfl) (by rfl) (fun _ _ _ h => h) (Or.inl ⟨by rfl, ?_⟩) (by assumption) ?_
      rotate_left
      · (intro W _; go_simp; (with_reducible rfl))
      intro hHeld'
      clear hHeld; have hHeld := hHeld'; clear hHeld'
      try simp only [Act.put, List.getElem_toArray, List.getElem_cons_succ, List.getElem_cons_zero, List.setIfInBounds_toArray, List.set_cons_zero, List.set_cons_succ]
      refine wpAnyL_take0 (i := 5) (v := ?_) rfl (by kernel_rfl) (by kernel_rfl) (by kernel_rfl) (by rfl) (fun _ _ _ h => h) (Or.inl ⟨by rfl, ?_⟩) (by assumption) ?_
      rotate_left
      · (intro W _; go_simp; (with_reducible rfl))
      intro hHeld'
      clear hHeld; have hHeld := hHeld'; clear hHeld'
      try simp only [Act.put, List.getElem_toArray, List.getElem_cons_succ, List.getElem_cons_zero, List.setIfInBounds_toArray, List.set_cons_zero, List.set_cons_succ]
      refine wpAnyL_take0 (i := 6) (v := ?_) rfl (by kernel_rfl) (by kernel_rfl) (by kernel_rfl) (by rfl) (fun _ _ _ h => h) (Or.inl ⟨by rfl, ?_⟩) (by assumption) ?_
      rotate_left
      · (intro W _; go_simp; (with_reducible rfl))
      intro hHeld'
      clear hHeld; have hHeld := hHeld'; clear hHeld'
      try simp only [Act.put, List.getElem_toArray, List.getElem_cons_succ, List.getElem_cons_zero, List.setIfInBounds_toArray, List.set_cons_zero, List.set_cons_succ]
      refine wpAnyL_takeP (i := 9) 12 [11, 10] (v := (.int .i64 d)) (fun w' : World => w'.cell? ⟨b1, 0, none⟩ = some (.int .i64 d) ∧ w'.cell? ⟨b2, 0, none⟩ = some (.int .i64 n)) rfl (by kernel_rfl) (by kernel_rfl) (by kernel_rfl) (by rfl) (by kernel_rfl) (by simp) (fun _ _ _ h => h) (Or.inl ⟨by rfl, ?_⟩) (by assumption) ?_
      · (intro W hW; (replace hW := hW.1); go_simp)
      intro hHeld'
      clear hHeld; have hHeld := hHeld'; clear hHeld'
      try simp only [Act.put, List.getElem_toArray, List.getElem_cons_succ, List.getElem_cons_zero, List.setIfInBounds_toArray, List.set_cons_zero, List.set_cons_succ]
      refine wpAnyL_ready (rs := [7]) (by kernel_rfl) (by simp) ?_
      refine AllReadyL.cons rfl (fun K hK => ?_) AllReadyL.nil
      go_simp
      (with_reducible refine (hp2.out _).mono ?_)
      rintro e w5 ⟨rfl, rfl⟩
      go_simp
      refine hK.out _ _ (HeldL.cons (fun _ => ⟨T1, T2⟩) HeldL.nil) (fun hHeld' => ?_)
      clear hK K hHeld; have hHeld := hHeld'; clear hHeld'
      try simp only [Act.put, List.getElem_toArray, List.getElem_cons_succ, List.getElem_cons_zero, List.setIfInBounds_toArray, List.set_cons_zero, List.set_cons_succ]
      refine wpAnyL_take0 (i := 8) (v := ?_) rfl (by kernel_rfl) (by kernel_rfl) (by kernel_rfl) (by rfl) (fun _ _ _ h => h) (Or.inl ⟨by rfl, ?_⟩) (by assumption) ?_
      rotate_left
      · (intro W _; go_simp; (with_reducible rfl))
      intro hHeld'
      clear hHeld; have hHeld := hHeld'; clear hHeld'
      try simp only [Act.put, List.getElem_toArray, List.getElem_cons_succ, List.getElem_cons_zero, List.setIfInBounds_toArray, List.set_cons_zero, List.set_cons_succ]
      refine wpAnyL_take0 (i := 10) (v := ?_) rfl (by kernel_rfl) (by kernel_rfl) (by kernel_rfl) (by rfl) (fun _ _ _ h => h) (Or.inl ⟨by rfl, ?_⟩) (by assumption) ?_
      rotate_left
      · (intro W _; go_simp; (with_reducible rfl))
      intro hHeld'
      clear hHeld; have hHeld := hHeld'; clear hHeld'
      try simp only [Act.put, List.getElem_toArray, List.getElem_cons_succ, List.getElem_cons_zero, List.setIfInBounds_toArray, List.set_cons_zero, List.set_cons_succ]
      refine wpAnyL_ready (rs := [11]) (by kernel_rfl) (by simp) ?_
      refine AllReadyL.cons rfl (fun K hK => ?_) AllReadyL.nil
      go_simp
      clear T1 T2
      replace rS := hid (rS.out.newBlk #[.int .i64 (y : Nat)] 2)
      generalize wa.heap.size = bx at *
      generalize wa.alloc (.cells #[.int .i64 (y : Nat)] 2) = w6 at *
      have T1 := (hc.out w6 rS.out.bel).1
      have T2 := (hc.out w6 rS.out.bel).2.1
      refine hK.out _ _ (HeldL.cons (fun _ => ⟨T1, T2⟩) HeldL.nil) (fun hHeld' => ?_)
      clear hK K hHeld; have hHeld := hHeld'; clear hHeld'
      try simp only [Act.put, List.getElem_toArray, List.getElem_cons_succ, List.getElem_cons_zero, List.setIfInBounds_toArray, List.set_cons_zero, List.set_cons_succ]
      refine wpAnyL_ready (rs := [12]) (by kernel_rfl) (by simp) ?_
      refine AllReadyL.cons rfl (fun K hK => ?_) AllReadyL.nil
      refine St.step1 32 2 2 (.int .i64 0) 8 Tryz.underlying32 info_i64 rfl (by omega) rfl _ _ rfl _ _ rfl rS.out.f1 rfl rfl x hlx.out (by omega) ?_
      intro gn cn w7 rS'
      replace rS := hid rS'.f1.drop
      clear rS'
      refine hK.out _ _ (HeldL.cons (fun h => absurd h (by decide +kernel)) HeldL.nil) (fun hHeld' => ?_)
      clear hK K hHeld; have hHeld := hHeld'; clear hHeld'
      try simp only [Act.put, List.getElem_toArray, List.getElem_cons_succ, List.getElem_cons_zero, List.setIfInBounds_toArray, List.set_cons_zero, List.set_cons_succ]
      refine wpAnyL_take0 (i := 13) (v := ?_) rfl (by kernel_rfl) (by kernel_rfl) (by kernel_rfl) (by rfl) (fun _ _ _ h => h) (Or.inl ⟨by rfl, ?_⟩) (by assumption) ?_
      rotate_left
      · (intro W _; go_simp; (with_reducible rfl))
      intro hHeld'
      clear hHeld; have hHeld := hHeld'; clear hHeld'
      try simp only [Act.put, List.getElem_toArray, List.getElem_cons_succ, List.getElem_cons_zero, List.setIfInBounds_toArray, List.set_cons_zero, List.set_cons_succ]
      refine wpAnyL_done (by kernel_rfl) ?_ _
      rw [← ints_snoc, ← hRx.out] at rS
      go_wp2
      go_roundw
      case rel => exact ⟨x + 1, by omega, by go_num, rS.out⟩
      case measure => simp [intOf]; omega
    · obtain rfl : x = d := by omega
      have dx : decide ((x : Int) < (x : Int)) = false := decide_eq_false (by omega)
      replace rS := hid rS
      go_wp2_with (
        (go_at_call 91; (with_reducible refine (hpn.out _ _ _ rS.out.o0).mono ?_); rintro e w2 ⟨rfl, hb⟩; replace rS := hid (rS.out.call hb); clear hb))
      go_ret
      exact ⟨rfl, rS.out.bel⟩
set_option maxHeartbeats 2000000 in
set_option maxRecDepth 100000 in
theorem portraitBy_pfr (b3 b2 b1 : Nat) (d n : Nat) (hd : d = 2 ∨ d = 3) (hn : n ≤ 5) (w : World) (F : List Nat → Int)
    (hf : ∀ W, Below w.heap.size w W → ∀ u, u.length < n → (∀ x ∈ u, x < d) → Calls Tryz.prog 192 #[.string (wstr u), .pointer (some ⟨b1, 0, none⟩), .pointer (some ⟨b2, 0, none⟩), .pointer (some ⟨b3, 0, none⟩)] W fun e W' => e = .returned (.int .i64 (F u)) ∧ Below W.heap.size W W') :
    Calls Tryz.prog 88 #[.int .i64 d, .int .i64 n, .func (.func 192) #[] #[.pointer (some ⟨b1, 0, none⟩), .pointer (some ⟨b2, 0, none⟩), .pointer (some ⟨b3, 0, none⟩)]] w fun e w' => ∃ v, e = .returned v ∧ Own w' w.heap.size 2 v (ints (byL d F n)) ∧ Below w.heap.size w w' := by
  have hl := hid (fun k (hk : k < n) W => level_any d k (by omega) (by omega) (by omega) (by have := pw5 (n := k) hd (by omega); omega) W)
  have hlen := hid (fun k M => lvl_length d k M)
  have hpos := hid (fun k => pw_pos d (by omega) k)
  have hp5 := hid (fun k (hk : k < n) => pw5 (n := k) hd (by omega))
  have hwl := hid (fun k j => wrd_length d k j)
  have hwm := hid (fun k j => wrd_lt d (by omega) k j)
  have hst := hid (fun k (hk : k < n) => (show start d k ≤ 243 by
    have := start_pw d (by omega) k
    have h2 : start d k ≤ start d k * (d - 1) := Nat.le_mul_of_pos_right _ (by omega)
    have h3 := pw5 (n := k) hd (by omega)
    omega))
  replace hf := hid hf
  have hS := hid (St.start w)
  clear hd
  go_enter Tryz.func88, Tryz.ntmps88
  replace hS := hid (hS.out.nilOwn 2)
  go_wp2
  go_loopw [7, 12] (fun o i wr => ∃ k : Nat, k ≤ n ∧ i = .int .i64 k ∧ St w.heap.size w [Asn.own w.heap.size 2 o (ints (byL d F k))] wr) (fun _ i _ => n - (intOf i).toNat)
  case atStart => exact ⟨0, Nat.zero_le _, rfl, hS.out⟩
  case round =>
    obtain ⟨k, hk, rfl, rS⟩ := hrel
    clear hS
    replace rS := hid rS
    by_cases hlk : k < n
    · have dk : decide ((k : Int) < (n : Int)) = true := decide_eq_true (by omega)
      have hlv := hid (hl.out k hlk)
      have hM0 := hpos.out k
      have hM1 := hp5.out k hlk
      have hll := hid (hlen.out k (pw d k))
      have hs1 := hst.out k hlk
      have hget := hid (fun j (hj : j < pw d k) => lvl_get d k (pw d k) j hj)
      have hend := hid (byP_full d F k)
      generalize pw d k = M at *
      go_wp2_with (first
        | (go_at_call 182; (with_reducible refine (hlv.out _).mono ?_); rintro e w1 ⟨v, rfl, hO, hb⟩; obtain ⟨g, cap, rfl, _, _⟩ := hO.blk (fun e => by have h := hll.out; rw [e] at h; simp at h; omega); rw [hll.out] at hO; rw [hll.out]; replace rS := hid (rS.out.callOwn hb hO); clear hO hb))
      go_loopw [7, 19] (fun o i wr => ∃ j : Nat, j ≤ M ∧ i = .int .i64 j ∧ St w.heap.size w [Asn.own w.heap.size 2 o (ints (byP d F k j)), Asn.own w.heap.size 9 (.slice (some ⟨g, 0, none⟩) M cap) (lvl d k M)] wr) (fun _ i _ => M - (intOf i).toNat)
      case atStart => exact ⟨0, Nat.zero_le _, rfl, by rw [byP_zero]; exact rS.out.f1⟩
      case round =>
        obtain ⟨j, hj, rfl, rS⟩ := hrel
        have ck := fun (h : j < M) => rS.o1.cellAt j _ (hget.out j h)
        replace rS := hid rS
        by_cases hlj : j < M
        · have dj : decide ((j : Int) < (M : Int)) = true := decide_eq_true (by omega)
          replace ck := ck hlj
          have hfj := hid (hf.out _ rS.out.bel (wrd d k j) (by rw [hwl.out]; exact hlk) (hwm.out k j))
          have hsn := hid (byP_snoc d F k j)
          have hil := hid (ints_length (byP d F k j))
          have hbl := hid (byP_length d F k j)
          generalize wrd d k j = u at *
          generalize F u = fu at *
          go_wp2_with (first
            | (go_at_call 192; (with_reducible refine (hfj.out).mono ?_); rintro e w2 ⟨rfl, hb⟩; replace rS := hid (rS.out.call hb); clear hb ck hfj)
            | ((with_reducible refine gate (N := 28) rfl ?_); refine St.app 32 2 (.int .i64 0) 8 Tryz.underlying32 info_i64 rfl (by omega) rfl _ _ rfl _ _ rfl rS.out _ rfl rfl (start d k + j) (by rw [hil.out, hbl.out]) (by omega) ?_; intro gn cn w5 rS'; replace rS := hid rS'; clear rS'))
          rw [← ints_snoc, ← hsn.out] at rS
          go_roundw
          case rel => exact ⟨j + 1, by omega, by go_num, rS.out⟩
          case measure => simp [intOf]; omega
        · obtain rfl : j = M := by omega
          clear ck
          rw [hend.out] at rS
          go_wp2
          go_roundw
          case rel => exact ⟨k + 1, by omega, by go_num, rS.out.f1.drop⟩
          case measure => simp [intOf]; omega
    · obtain rfl : k = n := by omega
      go_wp2
      go_ret
      exact ⟨_, rfl, rS.out.o0, rS.out.bel⟩
set_option maxHeartbeats 4000000 in
set_option maxRecDepth 100000 in
theorem portraitFrom_any (w : World) (d n : Nat) (hd : d = 2 ∨ d = 3) (hn1 : 1 ≤ n) (hn : n ≤ 4) (F : List Nat → List Nat) (hF : Aut d F n) (b0 : Nat) (v : Value) (hO : Own w b0 2 v (nats (pmF d F n))) :
    Calls Tryz.prog 93 #[.int .i64 d, .int .i64 n, v] w fun e w' => ∃ v', e = .returned (.tuple #[v', .bool true]) ∧ Own w' w.heap.size 2 v' (ints (prtF d F n)) ∧ Below w.heap.size w w' := by
  have hN := pw5 (n := n) hd (by omega)
  have hnl := nats_length (pmF d F n)
  rw [pmF_length] at hnl
  have hgP := prtF_isP hd hF
  obtain ⟨A, ca, rfl, _, _⟩ := hO.form
  rw [hnl] at hO ⊢
  have hS := (((St.arg w hO).newBlk #[.int .i64 d] 2).newBlk #[.int .i64 n] 2).newBlk #[.slice A (pw d n) ca] 32
  simp only [heap_alloc_size] at hS
  replace hS := hid hS
  have hmf : ∀ (fn : Fn) (first cap : Array Value) (w : World), (Instr.makeFunc fn first cap).run Tryz.prog w = .ok (.func fn first cap) w := fun _ _ _ _ => rfl
  have hT := hid (fun W L (h : St w.heap.size w (Asn.blk (w.heap.size + 1 + 1) #[.slice A (pw d n) ca] 32 :: Asn.blk (w.heap.size + 1) #[.int .i64 n] 2 :: Asn.blk w.heap.size #[.int .i64 d] 2 :: L) W) => (show W.cell? ⟨w.heap.size, 0, none⟩ = some (.int .i64 d) ∧ W.cell? ⟨w.heap.size + 1, 0, none⟩ = some (.int .i64 n) ∧ W.cell? ⟨w.heap.size + 1 + 1, 0, none⟩ = some (.slice A (pw d n) ca) from ⟨blkc h.k2, blkc h.k1, blkc h.k0⟩))
  have hpw := hid (fun W => power_any d n (by omega) (by omega) (by omega) W)
  have hcf := hid (fun W (h : St w.heap.size w [Asn.blk (w.heap.size + 1 + 1) #[.slice A (pw d n) ca] 32, Asn.blk (w.heap.size + 1) #[.int .i64 n] 2, Asn.blk w.heap.size #[.int .i64 d] 2, Asn.own 0 2 (.slice A (pw d n) ca) (nats (pmF d F n))] W) => (by
    have hl : ((pmF d F n).map Int.ofNat).length < 2000000 := by rw [List.length_map, pmF_length]; omega
    have hO2 := h.o3
    rw [nats_ints] at hO2
    have h1 := containsFuncI_pfr w.heap.size (w.heap.size + 1) W 0 (.slice A (pw d n) ca) ((pmF d F n).map Int.ofNat) hO2 hl (fun _ => false) (fun W' hW' x hx => by
      obtain ⟨y, hy, rfl⟩ := List.mem_map.1 hx
      obtain ⟨j, hj, rfl⟩ := List.mem_map.1 hy
      have hj := List.mem_range.1 hj
      have h2 := h.call hW'
      have h3 := num_lt d n (F (wrd d n j)) (by rw [hF.len _ (wrd_lt d (by omega) n j) (by rw [wrd_length]; exact Nat.le_refl _), wrd_length]) (hF.lt _ (wrd_lt d (by omega) n j) (by rw [wrd_length]; exact Nat.le_refl _))
      exact pfr1_any w.heap.size (w.heap.size + 1) W' d n hd (by omega) (blkc h2.k2) (blkc h2.k1) _ ⟨Int.natCast_nonneg _, by show ((num d (F (wrd d n j)) : Nat) : Int) < _; omega⟩)
    rw [show ((pmF d F n).map Int.ofNat).any (fun _ => false) = false from by simp] at h1
    exact h1 : Calls Tryz.prog 180 #[.slice A (pw d n) ca, .func (.func 191) #[] #[.pointer (some ⟨w.heap.size, 0, none⟩), .pointer (some ⟨w.heap.size + 1, 0, none⟩)]] W fun e w' => e = .returned (.bool false) ∧ Below W.heap.size W w'))
  have hby := hid (fun W (h : St w.heap.size w [Asn.blk (w.heap.size + 1 + 1) #[.slice A (pw d n) ca] 32, Asn.blk (w.heap.size + 1) #[.int .i64 n] 2, Asn.blk w.heap.size #[.int .i64 d] 2, Asn.own 0 2 (.slice A (pw d n) ca) (nats (pmF d F n))] W) =>
    portraitBy_pfr (w.heap.size + 1 + 1) (w.heap.size + 1) w.heap.size d n hd (by omega) W (fun u => pnm (lrow d F u)) (fun W' hW' u hl hu => pfr2_any w.heap.size w W' _ _ _ d n hd hn F hF 0 _ (h.call hW') u hu hl))
  have hpF := hid (show byL d (fun u => pnm (lrow d F u)) n = prtF d F n from rfl)
  have hof := hid (fun W b v (h : Own W b 2 v (ints (prtF d F n))) => ofPortrait_any W d n hd hn b v _ h hgP)
  have hre := hid (show prtP d (prtF d F n) n = pmF d F n from pmF_congr (by omega) fun u hu hx => act_prtF hd hF n u hu (Nat.le_refl _) hx)
  have hgl := hid (show (prtF d F n).length ≤ 40 from by rw [hgP.1]; exact (start_le hd hn).1)
  have hct := hid (fun W b v (h : Own W b 2 v (ints (prtF d F n))) => slContains_any W b v (prtF d F n) (-1) h (by have := hgl.out; omega) false (iff_of_false (by decide) (fun hm => by have := (hgP.2 _ hm).1; omega)))
  have hsq := hid (fun W b1 b2 v1 v2 (h1 : Own W b1 2 v1 (nats (pmF d F n))) (h2 : Own W b2 2 v2 (nats (pmF d F n))) => (by
    rw [nats_ints] at h1 h2
    exact slEqual_any W b1 b2 v1 v2 _ _ h1 h2 (by rw [List.length_map, pmF_length]; omega) (by rw [List.length_map, pmF_length]; omega) true (iff_of_true rfl rfl) : Calls Tryz.prog 186 #[v1, v2] W fun e w' => e = .returned (.bool true) ∧ ∃ k, w' = W.drewN k))
  rw [hpF.out] at hby
  rw [hre.out] at hof
  replace hO := hid hO
  clear hgP hre hpF
  generalize hgl2 : (prtF d F n).length = gl at *
  have hgl3 := hid (show (ints (prtF d F n)).length = gl from by rw [ints_length]; exact hgl2)
  replace hgl2 := hid hgl2
  generalize hp : pmF d F n = P at *
  replace hp := hid hp
  generalize hN' : pw d n = N at *
  replace hN' := hid hN'
  generalize prtF d F n = G at *
  have qN : ((N : Int) != (N : Int)) = false := by simp
  go_enter Tryz.func93, Tryz.ntmps93
  go_upto_region 1 with (fail)
  generalize hb2' : w.heap.size + 1 + 1 = b2 at *
  generalize hb1' : w.heap.size + 1 = b1 at *
  obtain ⟨b0', hb0'⟩ : ∃ b0', b0' = w.heap.size := ⟨_, rfl⟩
  replace hb2' := hid hb2'
  replace hb1' := hid hb1'
  replace hS := hid hS.out.drew
  have T0 := hT.out _ _ hS.out
  rw [← hb0'] at T0
  refine wp_region_heldL (L := [(9, (fun w' : World => w'.cell? ⟨b0', 0, none⟩ = some (.int .i64 d) ∧ w'.cell? ⟨b1, 0, none⟩ = some (.int .i64 n) ∧ w'.cell? ⟨b2, 0, none⟩ = some (.slice A N ca)))]) (by kernel_rfl) (HeldL.cons (fun _ => T0) HeldL.nil) (fun hHeld => ?_)
  generalize World.drew _ = wa at *
  refine wpAnyL_takeP (i := 0) 9 [6, 5, 1] (v := (.slice A N ca)) (fun w' : World => w'.cell? ⟨b0', 0, none⟩ = some (.int .i64 d) ∧ w'.cell? ⟨b1, 0, none⟩ = some (.int .i64 n) ∧ w'.cell? ⟨b2, 0, none⟩ = some (.slice A N ca)) rfl (by kernel_rfl) (by kernel_rfl) (by kernel_rfl) (by rfl) (by kernel_rfl) (by simp) (fun _ _ _ h => h) (Or.inl ⟨by rfl, ?_⟩) (by assumption) ?_
  · (intro W hW; (replace hW := hW.2.2); go_simp)
  intro hHeld'
  clear hHeld; have hHeld := hHeld'; clear hHeld'
  try simp only [Act.put, List.getElem_toArray, List.getElem_cons_succ, List.getElem_cons_zero, List.setIfInBounds_toArray, List.set_cons_zero, List.set_cons_succ]
  refine wpAnyL_take0 (i := 1) (v := ?_) rfl (by kernel_rfl) (by kernel_rfl) (by kernel_rfl) (by rfl) (fun _ _ _ h => h) (Or.inl ⟨by rfl, ?_⟩) (by assumption) ?_
  rotate_left
  · (intro W _; go_simp; (with_reducible rfl))
  intro hHeld'
  clear hHeld; have hHeld := hHeld'; clear hHeld'
  try simp only [Act.put, List.getElem_toArray, List.getElem_cons_succ, List.getElem_cons_zero, List.setIfInBounds_toArray, List.set_cons_zero, List.set_cons_succ]
  refine wpAnyL_takeP (i := 2) 9 [6, 4] (v := (.int .i64 d)) (fun w' : World => w'.cell? ⟨b0', 0, none⟩ = some (.int .i64 d) ∧ w'.cell? ⟨b1, 0, none⟩ = some (.int .i64 n) ∧ w'.cell? ⟨b2, 0, none⟩ = some (.slice A N ca)) rfl (by kernel_rfl) (by kernel_rfl) (by kernel_rfl) (by rfl) (by kernel_rfl) (by simp) (fun _ _ _ h => h) (Or.inl ⟨by rfl, ?_⟩) (by assumption) ?_
  · (intro W hW; (replace hW := hW.1; rw [hb0'] at hW); go_simp)
  intro hHeld'
  clear hHeld; have hHeld := hHeld'; clear hHeld'
  try simp only [Act.put, List.getElem_toArray, List.getElem_cons_succ, List.getElem_cons_zero, List.setIfInBounds_toArray, List.set_cons_zero, List.set_cons_succ]
  refine wpAnyL_takeP (i := 3) 9 [6, 4] (v := (.int .i64 n)) (fun w' : World => w'.cell? ⟨b0', 0, none⟩ = some (.int .i64 d) ∧ w'.cell? ⟨b1, 0, none⟩ = some (.int .i64 n) ∧ w'.cell? ⟨b2, 0, none⟩ = some (.slice A N ca)) rfl (by kernel_rfl) (by kernel_rfl) (by kernel_rfl) (by rfl) (by kernel_rfl) (by simp) (fun _ _ _ h => h) (Or.inl ⟨by rfl, ?_⟩) (by assumption) ?_
  · (intro W hW; (replace hW := hW.2.1); go_simp)
  intro hHeld'
  clear hHeld; have hHeld := hHeld'; clear hHeld'
  try simp only [Act.put, List.getElem_toArray, List.getElem_cons_succ, List.getElem_cons_zero, List.setIfInBounds_toArray, List.set_cons_zero, List.set_cons_succ]
  refine wpAnyL_ready (rs := [4]) (by kernel_rfl) (by simp) ?_
  refine AllReadyL.cons rfl (fun K hK => ?_) AllReadyL.nil
  go_simp
  (with_reducible refine (hpw.out _).mono ?_)
  rintro e w5 ⟨rfl, rfl⟩
  go_simp
  refine hK.out _ _ (HeldL.cons (fun _ => T0) HeldL.nil) (fun hHeld' => ?_)
  clear hK K hHeld; have hHeld := hHeld'; clear hHeld'
  try simp only [Act.put, List.getElem_toArray, List.getElem_cons_succ, List.getElem_cons_zero, List.setIfInBounds_toArray, List.set_cons_zero, List.set_cons_succ]
  refine wpAnyL_take0 (i := 5) (v := ?_) rfl (by kernel_rfl) (by kernel_rfl) (by kernel_rfl) (by rfl) (fun _ _ _ h => h) (Or.inl ⟨by rfl, ?_⟩) (by assumption) ?_
  rotate_left
  · (intro W _; go_simp; (with_reducible rfl))
  intro hHeld'
  clear hHeld; have hHeld := hHeld'; clear hHeld'
  try simp only [Act.put, List.getElem_toArray, List.getElem_cons_succ, List.getElem_cons_zero, List.setIfInBounds_toArray, List.set_cons_zero, List.set_cons_succ]
  refine wpAnyL_take0 (i := 6) (v := ?_) rfl (by kernel_rfl) (by kernel_rfl) (by kernel_rfl) (by rfl) (fun _ _ _ h => h) (Or.inl ⟨by rfl, ?_⟩) (by assumption) ?_
  rotate_left
  · (intro W _; go_simp; (with_reducible rfl))
  intro hHeld'
  clear hHeld; have hHeld := hHeld'; clear hHeld'
  try simp only [Act.put, List.getElem_toArray, List.getElem_cons_succ, List.getElem_cons_zero, List.setIfInBounds_toArray, List.set_cons_zero, List.set_cons_succ]
  refine wpAnyL_takeP (i := 7) 9 [] (v := (.slice A N ca)) (fun w' : World => w'.cell? ⟨b0', 0, none⟩ = some (.int .i64 d) ∧ w'.cell? ⟨b1, 0, none⟩ = some (.int .i64 n) ∧ w'.cell? ⟨b2, 0, none⟩ = some (.slice A N ca)) rfl (by kernel_rfl) (by kernel_rfl) (by kernel_rfl) (by rfl) (by kernel_rfl) (by simp) (fun _ _ _ h => h) (Or.inl ⟨by rfl, ?_⟩) (by assumption) ?_
  · (intro W hW; (replace hW := hW.2.2); go_simp)
  intro hHeld'
  clear hHeld; have hHeld := hHeld'; clear hHeld'
  try simp only [Act.put, List.getElem_toArray, List.getElem_cons_succ, List.getElem_cons_zero, List.setIfInBounds_toArray, List.set_cons_zero, List.set_cons_succ]
  refine wpAnyL_take0 (i := 8) (v := ?_) rfl (by kernel_rfl) (by kernel_rfl) (by kernel_rfl) (by rfl) (fun _ _ _ h => h) (Or.inl ⟨by rfl, ?_⟩) (by assumption) ?_
  rotate_left
  · (intro W _; go_simp; (with_reducible rfl))
  intro hHeld'
  clear hHeld; have hHeld := hHeld'; clear hHeld'
  try simp only [Act.put, List.getElem_toArray, List.getElem_cons_succ, List.getElem_cons_zero, List.setIfInBounds_toArray, List.set_cons_zero, List.set_cons_succ]
  refine wpAnyL_ready (rs := [9]) (by kernel_rfl) (by simp) ?_
  refine AllReadyL.cons rfl (fun K hK => ?_) AllReadyL.nil
  go_simp
  (with_reducible refine (hcf.out _ hS.out).mono ?_)
  rintro e w6 ⟨rfl, hb⟩
  replace hS := hid (hS.out.call hb)
  clear hb T0
  go_simp
  refine hK.out _ _ (HeldL.cons (fun h => absurd h (by decide +kernel)) HeldL.nil) (fun hHeld' => ?_)
  clear hK K hHeld; have hHeld := hHeld'; clear hHeld'
  try simp only [Act.put, List.getElem_toArray, List.getElem_cons_succ, List.getElem_cons_zero, List.setIfInBounds_toArray, List.set_cons_zero, List.set_cons_succ]
  refine wpAnyL_take0 (i := 10) (v := ?_) rfl (by kernel_rfl) (by kernel_rfl) (by kernel_rfl) (by rfl) (fun _ _ _ h => h) (Or.inl ⟨by rfl, ?_⟩) (by assumption) ?_
  rotate_left
  · (intro W _; go_simp; (with_reducible rfl))
  intro hHeld'
  clear hHeld; have hHeld := hHeld'; clear hHeld'
  try simp only [Act.put, List.getElem_toArray, List.getElem_cons_succ, List.getElem_cons_zero, List.setIfInBounds_toArray, List.set_cons_zero, List.set_cons_succ]
  refine wpAnyL_done (by kernel_rfl) ?_ _
  have c1 := (hT.out _ _ hS.out).1
  have c2 := (hT.out _ _ hS.out).2.1
  have c3 := (hT.out _ _ hS.out).2.2
  go_upto_region 4 with (
    (go_at_call 88; (with_reducible refine (hby.out _ hS.out).mono ?_); rintro e w7 ⟨vo, rfl, hO2, hb⟩; obtain ⟨Ao, co, rfl, _, _⟩ := hO2.form; replace hS := hid (hS.out.callOwn hb hO2); clear hb hO2 c1 c2 c3))
  rw [hgl3.out] at hS ⊢
  replace hS := hid hS.out.drew
  have T0 : w7.drew.cell? ⟨b0', 0, none⟩ = some (.int .i64 d) ∧ w7.drew.cell? ⟨b1, 0, none⟩ = some (.int .i64 n) ∧ w7.drew.cell? ⟨b2, 0, none⟩ = some (.slice A N ca) := by rw [hb0']; exact ⟨blkc hS.out.k3, blkc hS.out.k2, blkc hS.out.k1⟩
  refine wp_region_heldL (L := [(8, (fun w' : World => w'.cell? ⟨b0', 0, none⟩ = some (.int .i64 d) ∧ w'.cell? ⟨b1, 0, none⟩ = some (.int .i64 n) ∧ w'.cell? ⟨b2, 0, none⟩ = some (.slice A N ca)))]) (by kernel_rfl) (HeldL.cons (fun _ => T0) HeldL.nil) (fun hHeld => ?_)
  generalize w7.drew = wb at *
  refine wpAnyL_take0 (i := 0) (v := ?_) rfl (by kernel_rfl) (by kernel_rfl) (by kernel_rfl) (by rfl) (fun _ _ _ h => h) (Or.inl ⟨by rfl, ?_⟩) (by assumption) ?_
  rotate_left
  · (intro W _; go_simp; (with_reducible rfl))
  intro hHeld'
  clear hHeld; have hHeld := hHeld'; clear hHeld'
  try simp only [Act.put, List.getElem_toArray, List.getElem_cons_succ, List.getElem_cons_zero, List.setIfInBounds_toArray, List.set_cons_zero, List.set_cons_succ]
  refine wpAnyL_ready (rs := [1]) (by kernel_rfl) (by simp) ?_
  refine AllReadyL.cons rfl (fun K hK => ?_) AllReadyL.nil
  go_simp
  (with_reducible refine (hct.out _ _ _ hS.out.o0).mono ?_)
  rintro e w5 ⟨rfl, rfl⟩
  go_simp
  refine hK.out _ _ (HeldL.cons (fun _ => T0) HeldL.nil) (fun hHeld' => ?_)
  clear hK K hHeld; have hHeld := hHeld'; clear hHeld'
  try simp only [Act.put, List.getElem_toArray, List.getElem_cons_succ, List.getElem_cons_zero, List.setIfInBounds_toArray, List.set_cons_zero, List.set_cons_succ]
  refine wpAnyL_take0 (i := 2) (v := ?_) rfl (by kernel_rfl) (by kernel_rfl) (by kernel_rfl) (by rfl) (fun _ _ _ h => h) (Or.inl ⟨by rfl, ?_⟩) (by assumption) ?_
  rotate_left
  · (intro W _; go_simp; (with_reducible rfl))
  intro hHeld'
  clear hHeld; have hHeld := hHeld'; clear hHeld'
  try simp only [Act.put, List.getElem_toArray, List.getElem_cons_succ, List.getElem_cons_zero, List.setIfInBounds_toArray, List.set_cons_zero, List.set_cons_succ]
  refine wpAnyL_takeP (i := 3) 8 [6] (v := (.int .i64 d)) (fun w' : World => w'.cell? ⟨b0', 0, none⟩ = some (.int .i64 d) ∧ w'.cell? ⟨b1, 0, none⟩ = some (.int .i64 n) ∧ w'.cell? ⟨b2, 0, none⟩ = some (.slice A N ca)) rfl (by kernel_rfl) (by kernel_rfl) (by kernel_rfl) (by rfl) (by kernel_rfl) (by simp) (fun _ _ _ h => h) (Or.inl ⟨by rfl, ?_⟩) (by assumption) ?_
  · (intro W hW; (replace hW := hW.1; rw [hb0'] at hW); go_simp)
  intro hHeld'
  clear hHeld; have hHeld := hHeld'; clear hHeld'
  try simp only [Act.put, List.getElem_toArray, List.getElem_cons_succ, List.getElem_cons_zero, List.setIfInBounds_toArray, List.set_cons_zero, List.set_cons_succ]
  refine wpAnyL_takeP (i := 4) 8 [6] (v := (.int .i64 n)) (fun w' : World => w'.cell? ⟨b0', 0, none⟩ = some (.int .i64 d) ∧ w'.cell? ⟨b1, 0, none⟩ = some (.int .i64 n) ∧ w'.cell? ⟨b2, 0, none⟩ = some (.slice A N ca)) rfl (by kernel_rfl) (by kernel_rfl) (by kernel_rfl) (by rfl) (by kernel_rfl) (by simp) (fun _ _ _ h => h) (Or.inl ⟨by rfl, ?_⟩) (by assumption) ?_
  · (intro W hW; (replace hW := hW.2.1); go_simp)
  intro hHeld'
  clear hHeld; have hHeld := hHeld'; clear hHeld'
  try simp only [Act.put, List.getElem_toArray, List.getElem_cons_succ, List.getElem_cons_zero, List.setIfInBounds_toArray, List.set_cons_zero, List.set_cons_succ]
  refine wpAnyL_take0 (i := 5) (v := ?_) rfl (by kernel_rfl) (by kernel_rfl) (by kernel_rfl) (by rfl) (fun _ _ _ h => h) (Or.inl ⟨by rfl, ?_⟩) (by assumption) ?_
  rotate_left
  · (intro W _; go_simp; (with_reducible rfl))
  intro hHeld'
  clear hHeld; have hHeld := hHeld'; clear hHeld'
  try simp only [Act.put, List.getElem_toArray, List.getElem_cons_succ, List.getElem_cons_zero, List.setIfInBounds_toArray, List.set_cons_zero, List.set_cons_succ]
  refine wpAnyL_takeP (i := 7) 8 [] (v := (.slice A N ca)) (fun w' : World => w'.cell? ⟨b0', 0, none⟩ = some (.int .i64 d) ∧ w'.cell? ⟨b1, 0, none⟩ = some (.int .i64 n) ∧ w'.cell? ⟨b2, 0, none⟩ = some (.slice A N ca)) rfl (by kernel_rfl) (by kernel_rfl) (by kernel_rfl) (by rfl) (by kernel_rfl) (by simp) (fun _ _ _ h => h) (Or.inl ⟨by rfl, ?_⟩) (by assumption) ?_
  · (intro W hW; (replace hW := hW.2.2); go_simp)
  intro hHeld'
  clear hHeld; have hHeld := hHeld'; clear hHeld'
  try simp only [Act.put, List.getElem_toArray, List.getElem_cons_succ, List.getElem_cons_zero, List.setIfInBounds_toArray, List.set_cons_zero, List.set_cons_succ]
  refine wpAnyL_ready (rs := [6]) (by kernel_rfl) (by simp) ?_
  refine AllReadyL.cons rfl (fun K hK => ?_) AllReadyL.nil
  go_simp
  (with_reducible refine (hof.out _ _ _ hS.out.o0).mono ?_)
  rintro e w8 ⟨v3, rfl, hO3, hb⟩
  obtain ⟨A3, c3, rfl, _, _⟩ := hO3.form
  replace hS := hid (hS.out.callOwn hb hO3)
  clear hb hO3
  rw [hnl] at hS
  go_simp
  refine hK.out _ _ (HeldL.cons (fun _ => by rw [hb0']; exact ⟨blkc hS.out.k4, blkc hS.out.k3, blkc hS.out.k2⟩) HeldL.nil) (fun hHeld' => ?_)
  clear hK K hHeld; have hHeld := hHeld'; clear hHeld'
  try simp only [Act.put, List.getElem_toArray, List.getElem_cons_succ, List.getElem_cons_zero, List.setIfInBounds_toArray, List.set_cons_zero, List.set_cons_succ]
  refine wpAnyL_ready (rs := [8]) (by kernel_rfl) (by simp) ?_
  refine AllReadyL.cons rfl (fun K hK => ?_) AllReadyL.nil
  go_simp
  (with_reducible refine (hsq.out _ _ _ _ _ hS.out.o0 hS.out.o5).mono ?_)
  rintro e w9 ⟨rfl, k9, rfl⟩
  replace hS := hid (hS.out.drewN k9)
  clear T0
  go_simp
  refine hK.out _ _ (HeldL.cons (fun h => absurd h (by decide +kernel)) HeldL.nil) (fun hHeld' => ?_)
  clear hK K hHeld; have hHeld := hHeld'; clear hHeld'
  try simp only [Act.put, List.getElem_toArray, List.getElem_cons_succ, List.getElem_cons_zero, List.setIfInBounds_toArray, List.set_cons_zero, List.set_cons_succ]
  refine wpAnyL_take0 (i := 9) (v := ?_) rfl (by kernel_rfl) (by kernel_rfl) (by kernel_rfl) (by rfl) (fun _ _ _ h => h) (Or.inl ⟨by rfl, ?_⟩) (by assumption) ?_
  rotate_left
  · (intro W _; go_simp; (with_reducible rfl))
  intro hHeld'
  clear hHeld; have hHeld := hHeld'; clear hHeld'
  try simp only [Act.put, List.getElem_toArray, List.getElem_cons_succ, List.getElem_cons_zero, List.setIfInBounds_toArray, List.set_cons_zero, List.set_cons_succ]
  refine wpAnyL_take0 (i := 10) (v := ?_) rfl (by kernel_rfl) (by kernel_rfl) (by kernel_rfl) (by rfl) (fun _ _ _ h => h) (Or.inl ⟨by rfl, ?_⟩) (by assumption) ?_
  rotate_left
  · (intro W _; go_simp; (with_reducible rfl))
  intro hHeld'
  clear hHeld; have hHeld := hHeld'; clear hHeld'
  try simp only [Act.put, List.getElem_toArray, List.getElem_cons_succ, List.getElem_cons_zero, List.setIfInBounds_toArray, List.set_cons_zero, List.set_cons_succ]
  refine wpAnyL_done (by kernel_rfl) ?_ _
  go_wp2
  go_ret2
  exact ⟨_, rfl, hS.out.o1, hS.out.bel⟩
end Go.Proofs.YthmcdfjijkecfaaGreat

/- Products and inverses of portraits: the program. -/
namespace Go.Proofs.YthmcdfjijkecfaaGreat
open Go.RowKit
set_option linter.unusedVariables false
set_option linter.unusedSimpArgs false
-- @LONG

theorem cell_ltM {W : World} {a : Addr} {v : Value} (h : W.cell? a = some v) : a.block < W.heap.size := by
  rcases Nat.lt_or_ge a.block W.heap.size with h1 | h1
  · exact h1
  · exfalso
    unfold World.cell? at h
    rw [Array.getElem?_eq_none h1] at h
    simp at h
theorem pcode_0 {d n : Nat} (hd : d = 2 ∨ d = 3) (hn1 : 1 ≤ n) (hn : n ≤ 4) {L : List (List Int)} (h : ∀ g ∈ L, IsP d n g) : pcode d n L = 0 := by
  have hD : IsD (d : Int) (n : Int) := ⟨by omega, by omega⟩
  unfold pcode
  rw [if_pos hD, if_pos]
  intro g hg
  exact h g hg
theorem mat2 {W : World} {b : Nat} {vv r1 r2 : Value} {g1 g2 : List Int} (h : Own W b 32 vv [r1, r2]) (h1 : Own W b 2 r1 (ints g1)) (h2 : Own W b 2 r2 (ints g2)) : Mat W b vv [g1, g2] :=
  ⟨_, h, rfl, fun i r' l e1 e2 => by
    match i, e1, e2 with
    | 0, e1, e2 => simp at e1 e2; subst e1; subst e2; exact h1
    | 1, e1, e2 => simp at e1 e2; subst e1; subst e2; exact h2
    | i + 2, e1, e2 => simp at e1⟩
set_option maxHeartbeats 1000000 in
set_option maxRecDepth 100000 in
theorem mul1_any (w : World) (b3 b2 b1 : Nat) (d n : Nat) (hd : d = 2 ∨ d = 3) (hn : n ≤ 4) (v1 v2 : Value) (A B : List Int) (hA : IsP d n A) (hB : IsP d n B)
    (c1 : w.cell? ⟨b1, 0, none⟩ = some (.int .i64 d)) (c2 : w.cell? ⟨b2, 0, none⟩ = some v2) (c3 : w.cell? ⟨b3, 0, none⟩ = some v1) (hO1 : Own w 0 2 v1 (ints A)) (hO2 : Own w 0 2 v2 (ints B))
    (u : List Nat) (hl : u.length = n) (hu : ∀ x ∈ u, x < d) :
    Calls Tryz.prog 95 #[.string (wstr u), .pointer (some ⟨b1, 0, none⟩), .pointer (some ⟨b2, 0, none⟩), .pointer (some ⟨b3, 0, none⟩)] w fun e w' => e = .returned (.string (wstr (actP d B (actP d A u)))) ∧ Below w.heap.size w w' := by
  have h1 := hid (fun W (hW : Below w.heap.size w W) => act_any W d n hd hn 0 v1 A (hO1.below hW) hA u hu (by omega))
  have h2 := hid (fun W (hW : Below w.heap.size w W) => act_any W d n hd hn 0 v2 B (hO2.below hW) hB (actP d A u) (actP_lt hd hA u hu (by omega)) (by rw [actP_length]; omega))
  have hT := hid (fun W (hW : Below w.heap.size w W) => (show W.cell? ⟨b1, 0, none⟩ = some (.int .i64 d) ∧ W.cell? ⟨b2, 0, none⟩ = some v2 ∧ W.cell? ⟨b3, 0, none⟩ = some v1 from
    ⟨(hW.cell (cell_ltM c1)).trans c1, (hW.cell (cell_ltM c2)).trans c2, (hW.cell (cell_ltM c3)).trans c3⟩))
  obtain ⟨A1, p1, rfl, _, _⟩ := hO1.form
  obtain ⟨A2, p2, rfl, _, _⟩ := hO2.form
  clear hO1 hO2 hu hl hA hB c1 c2 c3
  generalize wstr (actP d B (actP d A u)) = z at *
  generalize wstr (actP d A u) = y at *
  generalize wstr u = x at *
  generalize (ints A).length = n1 at *
  generalize (ints B).length = n2 at *
  have hB := hid (Below.refl w.heap.size w).drew
  go_enter Tryz.func95, Tryz.ntmps95
  go_upto_region 1 with (fail)
  have T0 := hT.out _ hB.out
  refine wp_region_heldL (L := [(6, (fun w' : World => w'.cell? ⟨b1, 0, none⟩ = some (.int .i64 d) ∧ w'.cell? ⟨b2, 0, none⟩ = some (.slice A2 n2 p2) ∧ w'.cell? ⟨b3, 0, none⟩ = some (.slice A1 n1 p1)))]) (by kernel_rfl) (HeldL.cons (fun _ => T0) HeldL.nil) (fun hHeld => ?_)
  generalize w.drew = wa at *
  refine wpAnyL_takeP (i := 0) 6 [] (v := (.int .i64 d)) (fun w' : World => w'.cell? ⟨b1, 0, none⟩ = some (.int .i64 d) ∧ w'.cell? ⟨b2, 0, none⟩ = some (.slice A2 n2 p2) ∧ w'.cell? ⟨b3, 0, none⟩ = some (.slice A1 n1 p1)) rfl (by kernel_rfl) (by kernel_rfl) (by kernel_rfl) (by rfl) (by kernel_rfl) (by simp) (fun _ _ _ h => h) (Or.inl ⟨by rfl, ?_⟩) (by assumption) ?_
  · (intro W hW; (replace hW := hW.1); go_simp)
  intro hHeld'
  clear hHeld; have hHeld := hHeld'; clear hHeld'
  try simp only [Act.put, List.getElem_toArray, List.getElem_cons_succ, List.getElem_cons_zero, List.setIfInBounds_toArray, List.set_cons_zero, List.set_cons_succ]
  refine wpAnyL_takeP (i := 1) 6 [] (v := (.slice A2 n2 p2)) (fun w' : World => w'.cell? ⟨b1, 0, none⟩ = some (.int .i64 d) ∧ w'.cell? ⟨b2, 0, none⟩ = some (.slice A2 n2 p2) ∧ w'.cell? ⟨b3, 0, none⟩ = some (.slice A1 n1 p1)) rfl (by kernel_rfl) (by kernel_rfl) (by kernel_rfl) (by rfl) (by kernel_rfl) (by simp) (fun _ _ _ h => h) (Or.inl ⟨by rfl, ?_⟩) (by assumption) ?_
  · (intro W hW; (replace hW := hW.2.1); go_simp)
  intro hHeld'
  clear hHeld; have hHeld := hHeld'; clear hHeld'
  try simp only [Act.put, List.getElem_toArray, List.getElem_cons_succ, List.getElem_cons_zero, List.setIfInBounds_toArray, List.set_cons_zero, List.set_cons_succ]
  refine wpAnyL_takeP (i := 2) 6 [5] (v := (.int .i64 d)) (fun w' : World => w'.cell? ⟨b1, 0, none⟩ = some (.int .i64 d) ∧ w'.cell? ⟨b2, 0, none⟩ = some (.slice A2 n2 p2) ∧ w'.cell? ⟨b3, 0, none⟩ = some (.slice A1 n1 p1)) rfl (by kernel_rfl) (by kernel_rfl) (by kernel_rfl) (by rfl) (by kernel_rfl) (by simp) (fun _ _ _ h => h) (Or.inl ⟨by rfl, ?_⟩) (by assumption) ?_
  · (intro W hW; (replace hW := hW.1); go_simp)
  intro hHeld'
  clear hHeld; have hHeld := hHeld'; clear hHeld'
  try simp only [Act.put, List.getElem_toArray, List.getElem_cons_succ, List.getElem_cons_zero, List.setIfInBounds_toArray, List.set_cons_zero, List.set_cons_succ]
  refine wpAnyL_takeP (i := 3) 6 [5] (v := (.slice A1 n1 p1)) (fun w' : World => w'.cell? ⟨b1, 0, none⟩ = some (.int .i64 d) ∧ w'.cell? ⟨b2, 0, none⟩ = some (.slice A2 n2 p2) ∧ w'.cell? ⟨b3, 0, none⟩ = some (.slice A1 n1 p1)) rfl (by kernel_rfl) (by kernel_rfl) (by kernel_rfl) (by rfl) (by kernel_rfl) (by simp) (fun _ _ _ h => h) (Or.inl ⟨by rfl, ?_⟩) (by assumption) ?_
  · (intro W hW; (replace hW := hW.2.2); go_simp)
  intro hHeld'
  clear hHeld; have hHeld := hHeld'; clear hHeld'
  try simp only [Act.put, List.getElem_toArray, List.getElem_cons_succ, List.getElem_cons_zero, List.setIfInBounds_toArray, List.set_cons_zero, List.set_cons_succ]
  refine wpAnyL_take0 (i := 4) (v := ?_) rfl (by kernel_rfl) (by kernel_rfl) (by kernel_rfl) (by rfl) (fun _ _ _ h => h) (Or.inl ⟨by rfl, ?_⟩) (by assumption) ?_
  rotate_left
  · (intro W _; go_simp; (with_reducible rfl))
  intro hHeld'
  clear hHeld; have hHeld := hHeld'; clear hHeld'
  try simp only [Act.put, List.getElem_toArray, List.getElem_cons_succ, List.getElem_cons_zero, List.setIfInBounds_toArray, List.set_cons_zero, List.set_cons_succ]
  refine wpAnyL_ready (rs := [5]) (by kernel_rfl) (by simp) ?_
  refine AllReadyL.cons rfl (fun K hK => ?_) AllReadyL.nil
  go_simp
  (with_reducible refine (h1.out _ hB.out).mono ?_)
  rintro e w5 ⟨rfl, hb⟩
  replace hB := hid (hB.out.trans (hb.mono hB.out.size))
  clear hb T0
  go_simp
  refine hK.out _ _ (HeldL.cons (fun _ => hT.out _ hB.out) HeldL.nil) (fun hHeld' => ?_)
  clear hK K hHeld; have hHeld := hHeld'; clear hHeld'
  try simp only [Act.put, List.getElem_toArray, List.getElem_cons_succ, List.getElem_cons_zero, List.setIfInBounds_toArray, List.set_cons_zero, List.set_cons_succ]
  refine wpAnyL_ready (rs := [6]) (by kernel_rfl) (by simp) ?_
  refine AllReadyL.cons rfl (fun K hK => ?_) AllReadyL.nil
  go_simp
  (with_reducible refine (h2.out _ hB.out).mono ?_)
  rintro e w6 ⟨rfl, hb⟩
  replace hB := hid (hB.out.trans (hb.mono hB.out.size))
  clear hb
  go_simp
  refine hK.out _ _ (HeldL.cons (fun h => absurd h (by decide +kernel)) HeldL.nil) (fun hHeld' => ?_)
  clear hK K hHeld; have hHeld := hHeld'; clear hHeld'
  try simp only [Act.put, List.getElem_toArray, List.getElem_cons_succ, List.getElem_cons_zero, List.setIfInBounds_toArray, List.set_cons_zero, List.set_cons_succ]
  refine wpAnyL_take0 (i := 7) (v := ?_) rfl (by kernel_rfl) (by kernel_rfl) (by kernel_rfl) (by rfl) (fun _ _ _ h => h) (Or.inl ⟨by rfl, ?_⟩) (by assumption) ?_
  rotate_left
  · (intro W _; go_simp; (with_reducible rfl))
  intro hHeld'
  clear hHeld; have hHeld := hHeld'; clear hHeld'
  try simp only [Act.put, List.getElem_toArray, List.getElem_cons_succ, List.getElem_cons_zero, List.setIfInBounds_toArray, List.set_cons_zero, List.set_cons_succ]
  refine wpAnyL_done (by kernel_rfl) ?_ _
  go_wp2
  go_ret
  exact ⟨rfl, hB.out⟩
set_option maxHeartbeats 2000000 in
set_option maxRecDepth 100000 in
theorem permutation_mul (b3 b2 b1 : Nat) (d n : Nat) (hd : 0 < d) (h3 : d ≤ 3) (hn : n ≤ 40) (hb : pw d n ≤ 100000) (w : World) (F : List Nat → List Nat)
    (hF : ∀ u, u.length = n → (∀ x ∈ u, x < d) → (F u).length = n ∧ ∀ x ∈ F u, x < d)
    (hf : ∀ W, Below w.heap.size w W → ∀ u, u.length = n → (∀ x ∈ u, x < d) → Calls Tryz.prog 95 #[.string (wstr u), .pointer (some ⟨b1, 0, none⟩), .pointer (some ⟨b2, 0, none⟩), .pointer (some ⟨b3, 0, none⟩)] W fun e W' => e = .returned (.string (wstr (F u))) ∧ Below W.heap.size W W') :
    Calls Tryz.prog 94 #[.int .i64 d, .int .i64 n, .func (.func 95) #[] #[.pointer (some ⟨b1, 0, none⟩), .pointer (some ⟨b2, 0, none⟩), .pointer (some ⟨b3, 0, none⟩)]] w fun e w' => ∃ v, e = .returned v ∧ Own w' w.heap.size 2 v (rng (fun k => num d (F (wrd d n k))) (pw d n)) ∧ Below w.heap.size w w' := by
  have hl := hid (level_any d n hd h3 hn hb w)
  have hpos := pw_pos d hd n
  have hwl := hid (fun k => wrd_length d n k)
  have hwm := hid (fun k => wrd_lt d hd n k)
  have hFo := hid (fun k => hF (wrd d n k) (wrd_length d n k) (wrd_lt d hd n k))
  have hnum := hid (fun k W => numberOf_any d hd h3 (F (wrd d n k)) (hFo.out k).2 (by rw [(hFo.out k).1]; omega) (by rw [(hFo.out k).1]; omega) W)
  replace hf := hid hf
  clear hF
  generalize hM : pw d n = M at *
  go_enter Tryz.func94, Tryz.ntmps94
  go_wp2_with (first
    | (go_at_call 182; (with_reducible refine (hl.out).mono ?_); rintro e w1 ⟨v, rfl, hO, hB⟩; obtain ⟨g, cap, rfl, hg1, hg2⟩ := hO.blk (fun e => by have := lvl_length d n M; rw [e] at this; simp at this; omega); have hll := lvl_length d n M; rw [hll] at hO; rw [hll]; clear hll; replace hO := hid hO; replace hB := hid hB; clear hl))
  go_loopw [7, 14] (fun v i wr => ∃ k : Nat, k ≤ M ∧ i = .int .i64 k ∧ Own wr w1.heap.size 2 v (rng (fun k => num d (F (wrd d n k))) k) ∧ Below w1.heap.size w1 wr) (fun _ i _ => M - (intOf i).toNat)
  case atStart => exact ⟨0, Nat.zero_le _, rfl, Own.nil _ _ _, Below.refl _ _⟩
  case round =>
    obtain ⟨k, hk, rfl, r1, rB⟩ := hrel
    have hll := hid (rng_length (fun k => num d (F (wrd d n k))) k)
    replace r1 := hid r1; replace rB := hid rB
    by_cases hlt : k < M
    · have dk : decide ((k : Int) < (M : Int)) = true := decide_eq_true (by omega)
      have hsn := hid (rng_snoc (fun k => num d (F (wrd d n k))) k)
      have ck := (hO.out.below rB.out).cellAt k _ (lvl_get d n M k hlt)
      have hBw := hid (hB.out.trans (rB.out.mono hB.out.size))
      go_wp2_with (first
        | (go_at_call 95; (with_reducible refine (hf.out _ hBw.out _ (hwl.out k) (hwm.out k)).mono ?_); rintro e w2 ⟨rfl, hb1⟩; replace r1 := hid (r1.out.below hb1); replace rB := hid (rB.out.trans (hb1.mono rB.out.size)); clear hb1 ck hBw)
        | (go_at_call 193; (with_reducible refine (hnum.out k _).mono ?_); rintro e w3 ⟨rfl, rfl⟩)
        | ((with_reducible refine gate (N := 25) rfl ?_); refine app1 32 2 (.int .i64 0) 8 Tryz.underlying32 info_i64 rfl (by omega) rfl _ _ rfl w1.heap.size _ _ rfl r1.out rB.out.size _ rfl rfl (by have := hll.out; omega) ?_; intro gn cap w2 hO2 hb2 hold hsz2 _; replace hO2 := hid hO2; have tB := hid (rB.out.trans hb2); clear hb2 hold hsz2 r1 rB))
      go_roundw
      case rel => exact ⟨k + 1, by omega, by go_num, by rw [hsn.out]; exact hO2.out, tB.out⟩
      case measure => simp [intOf]; omega
    · obtain rfl : k = M := by omega
      go_wp2
      go_ret
      exact ⟨_, rfl, r1.out.mono hB.out.size, hB.out.trans (rB.out.mono hB.out.size)⟩
open Classical in
/-- What MultiplyPortraits answers. -/
noncomputable def mulAns (d n : Int) (A B : List Int) : List Int × Int := if pcode d n [A, B] = 0 then (prtF d.toNat (fun u => actP d.toNat B (actP d.toNat A u)) n.toNat, 0) else ([], pcode d n [A, B])
theorem pcode2_cases (d n : Int) (A B : List Int) : pcode d n [A, B] ≠ 0 ∨ (pcode d n [A, B] = 0 ∧ ∃ (a b : Nat), d = a ∧ n = b ∧ (a = 2 ∨ a = 3) ∧ 1 ≤ b ∧ b ≤ 4 ∧ IsP a b A ∧ IsP a b B) := by
  by_cases h : pcode d n [A, B] = 0
  · refine .inr ⟨h, ?_⟩
    unfold pcode at h
    by_cases hD : IsD d n
    · rw [if_pos hD] at h
      by_cases hh : ∀ g ∈ [A, B], IsP d.toNat n.toNat g
      · obtain ⟨a, b, rfl, rfl, h1, h2, h3⟩ := hD.nat
        exact ⟨a, b, rfl, rfl, h1, h2, h3, hh A (by simp), hh B (by simp)⟩
      · rw [if_neg hh] at h; cases h
    · rw [if_neg hD] at h; cases h
  · exact .inl h
set_option maxHeartbeats 4000000 in
set_option maxRecDepth 100000 in
theorem implMul_any (w : World) (d n : Int) (v1 v2 : Value) (A B : List Int) (hO1 : Own w 0 2 v1 (ints A)) (hO2 : Own w 0 2 v2 (ints B)) (hlA : A.length < 2000000) (hlB : B.length < 2000000) :
    Calls Tryz.prog 13 #[.int .i64 d, .int .i64 n, v1, v2] w fun e w' => ∃ v, e = .returned (.tuple #[v, .int .i64 (mulAns d n A B).2]) ∧ Own w' w.heap.size 2 v (ints (mulAns d n A B).1) ∧ Below w.heap.size w w' := by
  have hS := (((St.start w).newBlk #[.int .i64 d] 2).newBlk #[v1] 32).newBlk #[v2] 32
  simp only [heap_alloc_size] at hS
  have hmf : ∀ (fn : Fn) (first cap : Array Value) (w : World), (Instr.makeFunc fn first cap).run Tryz.prog w = .ok (.func fn first cap) w := fun _ _ _ _ => rfl
  have hpc := hid (fun W b vv (hO : Own W b 32 vv [v1, v2]) (h1 : Own W b 2 v1 (ints A)) (h2 : Own W b 2 v2 (ints B)) => portraitCode_any W d n b vv [A, B] (mat2 hO h1 h2) (by simp) (by intro r hr; simp at hr; rcases hr with rfl | rfl <;> assumption))
  have hw1 := hid (fun W (hW : Below w.heap.size w W) => hO1.below hW)
  have hw2 := hid (fun W (hW : Below w.heap.size w W) => hO2.below hW)
  have hown := hid (hS.newOwn [v1, v2] 32 (by simp))
  replace hS := hid hS
  obtain ⟨A1, p1, rfl, _, _⟩ := hO1.form
  obtain ⟨A2, p2, rfl, _, _⟩ := hO2.form
  simp only [heap_alloc_size, List.length_cons, List.length_nil, Nat.zero_add, Nat.reduceAdd] at hown
  replace hO1 := hid hO1
  replace hO2 := hid hO2
  have c1 := blkc hS.out.k2
  have c2 := blkc hS.out.k1
  have c3 := blkc hS.out.k0
  simp only [ints_length] at *
  rcases pcode2_cases d n A B with h | ⟨h, d, n, rfl, rfl, hd, hn1, hn4, hA, hB⟩
  · have hAn : mulAns d n A B = ([], pcode d n [A, B]) := by unfold mulAns; rw [if_neg h]
    rw [hAn]
    have d0 : ((pcode d n [A, B] : Int) != 0) = true := by simpa using h
    clear h hAn
    generalize pcode d n [A, B] = c at *
    go_enter Tryz.func13, Tryz.ntmps13
    go_wp2_with (
      (go_at_call 92; (with_reducible refine (hpc.out _ _ _ (hown.out.o0.mono (Nat.zero_le _)) (hw1.out _ hown.out.bel) (hw2.out _ hown.out.bel)).mono ?_); rintro e w1 ⟨rfl, hb⟩; replace hS := hid (hown.out.call hb).drop; clear hb hown))
    go_ret2
    exact ⟨_, rfl, Own.nil _ _ _, hS.out.bel⟩
  · have hAn : mulAns d n A B = (prtF d (fun u => actP d B (actP d A u)) n, 0) := by unfold mulAns; rw [if_pos h]; rfl
    rw [hAn]
    rw [h] at hpc
    have hF : Aut d (fun u => actP d B (actP d A u)) n := (aut_act hd hB).comp (aut_act hd hA)
    have hpm := hid (fun W (hS : St w.heap.size w [Asn.blk (w.heap.size + 1 + 1) #[.slice A2 B.length p2] 32, Asn.blk (w.heap.size + 1) #[.slice A1 A.length p1] 32, Asn.blk w.heap.size #[.int .i64 d] 2] W) =>
      (by have h := permutation_mul (w.heap.size + 1) (w.heap.size + 1 + 1) w.heap.size d n (by omega) (by omega) (by omega) (by have := pw5 (n := n) hd (by omega); omega) W (fun u => actP d B (actP d A u)) (fun u hl hu => ⟨by rw [hF.len u hu (by omega), hl], hF.lt u hu (by omega)⟩) (fun W' hW' u hl hu => mul1_any W' _ _ _ d n hd hn4 _ _ A B hA hB (blkc (hS.call hW').k2) (blkc (hS.call hW').k0) (blkc (hS.call hW').k1) (hw1.out _ (hS.call hW').bel) (hw2.out _ (hS.call hW').bel) u hl hu)
          exact h : Calls Tryz.prog 94 #[.int .i64 d, .int .i64 n, .func (.func 95) #[] #[.pointer (some ⟨w.heap.size, 0, none⟩), .pointer (some ⟨w.heap.size + 1 + 1, 0, none⟩), .pointer (some ⟨w.heap.size + 1, 0, none⟩)]] W fun e w' => ∃ v, e = .returned v ∧ Own w' W.heap.size 2 v (nats (pmF d (fun u => actP d B (actP d A u)) n)) ∧ Below W.heap.size W w'))
    have hpf := hid (fun W b v hO => portraitFrom_any W d n hd hn1 hn4 (fun u => actP d B (actP d A u)) hF b v hO)
    replace hA := hid hA; replace hB := hid hB
    clear h hAn hF
    generalize pmF d (fun u => actP d B (actP d A u)) n = P at *
    generalize prtF d (fun u => actP d B (actP d A u)) n = G at *
    go_enter Tryz.func13, Tryz.ntmps13
    go_upto_region 4 with (
      (go_at_call 92; (with_reducible refine (hpc.out _ _ _ (hown.out.o0.mono (Nat.zero_le _)) (hw1.out _ hown.out.bel) (hw2.out _ hown.out.bel)).mono ?_); rintro e w1 ⟨rfl, hb⟩; replace hS := hid (hown.out.call hb).drop; clear hb hown c1 c2 c3))
    replace hS := hid hS.out.drew
    refine wp_region_heldL (L := [(6, (fun w' : World => w'.cell? ⟨w.heap.size, 0, none⟩ = some (.int .i64 d)))]) (by kernel_rfl) (HeldL.cons (fun _ => blkc hS.out.k2) HeldL.nil) (fun hHeld => ?_)
    generalize w1.drew = wa at *
    refine wpAnyL_takeP (i := 0) 6 [] (v := (.int .i64 d)) (fun w' : World => w'.cell? ⟨w.heap.size, 0, none⟩ = some (.int .i64 d)) rfl (by kernel_rfl) (by kernel_rfl) (by kernel_rfl) (by rfl) (by kernel_rfl) (by simp) (fun _ _ _ h => h) (Or.inl ⟨by rfl, ?_⟩) (by assumption) ?_
    · (intro W hW; go_simp)
    intro hHeld'
    clear hHeld; have hHeld := hHeld'; clear hHeld'
    try simp only [Act.put, List.getElem_toArray, List.getElem_cons_succ, List.getElem_cons_zero, List.setIfInBounds_toArray, List.set_cons_zero, List.set_cons_succ]
    refine wpAnyL_take0 (i := 1) (v := ?_) rfl (by kernel_rfl) (by kernel_rfl) (by kernel_rfl) (by rfl) (fun _ _ _ h => h) (Or.inl ⟨by rfl, ?_⟩) (by assumption) ?_
    rotate_left
    · (intro W _; go_simp; (with_reducible rfl))
    intro hHeld'
    clear hHeld; have hHeld := hHeld'; clear hHeld'
    try simp only [Act.put, List.getElem_toArray, List.getElem_cons_succ, List.getElem_cons_zero, List.setIfInBounds_toArray, List.set_cons_zero, List.set_cons_succ]
    refine wpAnyL_takeP (i := 2) 6 [5] (v := (.int .i64 d)) (fun w' : World => w'.cell? ⟨w.heap.size, 0, none⟩ = some (.int .i64 d)) rfl (by kernel_rfl) (by kernel_rfl) (by kernel_rfl) (by rfl) (by kernel_rfl) (by simp) (fun _ _ _ h => h) (Or.inl ⟨by rfl, ?_⟩) (by assumption) ?_
    · (intro W hW; go_simp)
    intro hHeld'
    clear hHeld; have hHeld := hHeld'; clear hHeld'
    try simp only [Act.put, List.getElem_toArray, List.getElem_cons_succ, List.getElem_cons_zero, List.setIfInBounds_toArray, List.set_cons_zero, List.set_cons_succ]
    refine wpAnyL_take0 (i := 3) (v := ?_) rfl (by kernel_rfl) (by kernel_rfl) (by kernel_rfl) (by rfl) (fun _ _ _ h => h) (Or.inl ⟨by rfl, ?_⟩) (by assumption) ?_
    rotate_left
    · (intro W _; go_simp; (with_reducible rfl))
    intro hHeld'
    clear hHeld; have hHeld := hHeld'; clear hHeld'
    try simp only [Act.put, List.getElem_toArray, List.getElem_cons_succ, List.getElem_cons_zero, List.setIfInBounds_toArray, List.set_cons_zero, List.set_cons_succ]
    refine wpAnyL_take0 (i := 4) (v := ?_) rfl (by kernel_rfl) (by kernel_rfl) (by kernel_rfl) (by rfl) (fun _ _ _ h => h) (Or.inl ⟨by rfl, ?_⟩) (by assumption) ?_
    rotate_left
    · (intro W _; go_simp; (with_reducible rfl))
    intro hHeld'
    clear hHeld; have hHeld := hHeld'; clear hHeld'
    try simp only [Act.put, List.getElem_toArray, List.getElem_cons_succ, List.getElem_cons_zero, List.setIfInBounds_toArray, List.set_cons_zero, List.set_cons_succ]
    refine wpAnyL_ready (rs := [5]) (by kernel_rfl) (by simp) ?_
    refine AllReadyL.cons rfl (fun K hK => ?_) AllReadyL.nil
    go_simp
    (with_reducible refine (hpm.out _ hS.out).mono ?_)
    rintro e w5 ⟨v5, rfl, hO5, hb⟩
    replace hS := hid (hS.out.callOwn hb hO5)
    clear hb hO5
    go_simp
    refine hK.out _ _ (HeldL.cons (fun _ => blkc hS.out.k3) HeldL.nil) (fun hHeld' => ?_)
    clear hK K hHeld; have hHeld := hHeld'; clear hHeld'
    try simp only [Act.put, List.getElem_toArray, List.getElem_cons_succ, List.getElem_cons_zero, List.setIfInBounds_toArray, List.set_cons_zero, List.set_cons_succ]
    refine wpAnyL_ready (rs := [6]) (by kernel_rfl) (by simp) ?_
    refine AllReadyL.cons rfl (fun K hK => ?_) AllReadyL.nil
    go_simp
    (with_reducible refine (hpf.out _ _ _ hS.out.o0).mono ?_)
    rintro e w6 ⟨v6, rfl, hO6, hb⟩
    replace hS := hid (hS.out.callOwn hb hO6)
    clear hb hO6
    go_simp
    refine hK.out _ _ (HeldL.cons (fun h => absurd h (by decide +kernel)) HeldL.nil) (fun hHeld' => ?_)
    clear hK K hHeld; have hHeld := hHeld'; clear hHeld'
    try simp only [Act.put, List.getElem_toArray, List.getElem_cons_succ, List.getElem_cons_zero, List.setIfInBounds_toArray, List.set_cons_zero, List.set_cons_succ]
    refine wpAnyL_take0 (i := 7) (v := ?_) rfl (by kernel_rfl) (by kernel_rfl) (by kernel_rfl) (by rfl) (fun _ _ _ h => h) (Or.inl ⟨by rfl, ?_⟩) (by assumption) ?_
    rotate_left
    · (intro W _; go_simp; (with_reducible rfl))
    intro hHeld'
    clear hHeld; have hHeld := hHeld'; clear hHeld'
    try simp only [Act.put, List.getElem_toArray, List.getElem_cons_succ, List.getElem_cons_zero, List.setIfInBounds_toArray, List.set_cons_zero, List.set_cons_succ]
    refine wpAnyL_take0 (i := 8) (v := ?_) rfl (by kernel_rfl) (by kernel_rfl) (by kernel_rfl) (by rfl) (fun _ _ _ h => h) (Or.inl ⟨by rfl, ?_⟩) (by assumption) ?_
    rotate_left
    · (intro W _; go_simp; (with_reducible rfl))
    intro hHeld'
    clear hHeld; have hHeld := hHeld'; clear hHeld'
    try simp only [Act.put, List.getElem_toArray, List.getElem_cons_succ, List.getElem_cons_zero, List.setIfInBounds_toArray, List.set_cons_zero, List.set_cons_succ]
    refine wpAnyL_take0 (i := 9) (v := ?_) rfl (by kernel_rfl) (by kernel_rfl) (by kernel_rfl) (by rfl) (fun _ _ _ h => h) (Or.inl ⟨by rfl, ?_⟩) (by assumption) ?_
    rotate_left
    · (intro W _; go_simp; (with_reducible rfl))
    intro hHeld'
    clear hHeld; have hHeld := hHeld'; clear hHeld'
    try simp only [Act.put, List.getElem_toArray, List.getElem_cons_succ, List.getElem_cons_zero, List.setIfInBounds_toArray, List.set_cons_zero, List.set_cons_succ]
    refine wpAnyL_take0 (i := 10) (v := ?_) rfl (by kernel_rfl) (by kernel_rfl) (by kernel_rfl) (by rfl) (fun _ _ _ h => h) (Or.inl ⟨by rfl, ?_⟩) (by assumption) ?_
    rotate_left
    · (intro W _; go_simp; (with_reducible rfl))
    intro hHeld'
    clear hHeld; have hHeld := hHeld'; clear hHeld'
    try simp only [Act.put, List.getElem_toArray, List.getElem_cons_succ, List.getElem_cons_zero, List.setIfInBounds_toArray, List.set_cons_zero, List.set_cons_succ]
    refine wpAnyL_take0 (i := 11) (v := ?_) rfl (by kernel_rfl) (by kernel_rfl) (by kernel_rfl) (by rfl) (fun _ _ _ h => h) (Or.inl ⟨by rfl, ?_⟩) (by assumption) ?_
    rotate_left
    · (intro W _; go_simp; (with_reducible rfl))
    intro hHeld'
    clear hHeld; have hHeld := hHeld'; clear hHeld'
    try simp only [Act.put, List.getElem_toArray, List.getElem_cons_succ, List.getElem_cons_zero, List.setIfInBounds_toArray, List.set_cons_zero, List.set_cons_succ]
    refine wpAnyL_done (by kernel_rfl) ?_ _
    go_wp2
    go_ret2
    exact ⟨_, rfl, hS.out.o0, hS.out.bel⟩
/-- The inverse of a permutation as it is written. -/
def bkL (p : List Nat) : Nat → List Nat
  | 0 => List.replicate p.length 0
  | k + 1 => (bkL p k).set (p.getD k 0) k
theorem bkL_length (p : List Nat) : ∀ k, (bkL p k).length = p.length
  | 0 => List.length_replicate
  | k + 1 => by rw [bkL, List.length_set, bkL_length p k]
theorem bkL_at {p : List Nat} (h : IsPm p) : ∀ k, k ≤ p.length → ∀ j, j < k → (bkL p k).getD (p.getD j 0) 0 = j
  | 0, _, j, hj => absurd hj (Nat.not_lt_zero _)
  | k + 1, hk, j, hj => by
    rw [bkL, List.getD_eq_getElem?_getD, List.getElem?_set]
    by_cases e : p.getD k 0 = p.getD j 0
    · have := h.inj k j (by omega) (by omega) e
      subst this
      rw [if_pos rfl, if_pos (by rw [bkL_length]; exact h.lt k (by omega))]; rfl
    · rw [if_neg e, ← List.getD_eq_getElem?_getD]
      refine bkL_at h k (by omega) j ?_
      have : j ≠ k := fun e2 => e (by rw [e2])
      omega
theorem bkL_pm {d n : Nat} {F G : List Nat → List Nat} (hd : 0 < d) (hF : Aut d F n) (hG : Aut d G n) (h1 : ∀ u, u.length = n → (∀ x ∈ u, x < d) → G (F u) = u) (h2 : ∀ u, u.length = n → (∀ x ∈ u, x < d) → F (G u) = u) : bkL (pmF d F n) (pw d n) = pmF d G n := by
  have hp := pmF_pm hd hF
  have hl := pmF_length d F n
  apply List.ext_getElem (by rw [bkL_length, hl, pmF_length])
  intro i hi1 hi2
  have hi : i < pw d n := by rw [pmF_length] at hi2; exact hi2
  have hw := wrd_lt d hd n i
  have hwl := wrd_length d n i
  have hg := hG.lt _ hw (by omega)
  have hgl := hG.len _ hw (by omega)
  have hj := num_lt d n _ (by rw [hgl, hwl]) hg
  have e1 : (pmF d F n).getD (num d (G (wrd d n i))) 0 = i := by
    rw [pmF_get hj, wrd_num d hd n _ (by rw [hgl, hwl]) hg, h2 _ hwl hw, num_wrd d hd n i hi]
  have e2 := bkL_at hp (pw d n) (by rw [hl]; exact Nat.le_refl _) _ hj
  rw [e1] at e2
  rw [List.getD_eq_getElem?_getD, List.getElem?_eq_getElem hi1] at e2
  have e3 : (pmF d G n)[i] = num d (G (wrd d n i)) := by
    have := pmF_get (F := G) hi
    rw [List.getD_eq_getElem?_getD, List.getElem?_eq_getElem hi2] at this
    exact this
  rw [e3]
  exact e2
set_option maxHeartbeats 4000000 in
set_option maxRecDepth 100000 in
theorem implIvp_any (w : World) (d n : Nat) (hd : d = 2 ∨ d = 3) (hn1 : 1 ≤ n) (hn : n ≤ 4) (b0 : Nat) (v : Value) (g : List Int) (hO : Own w b0 2 v (ints g)) (hg : IsP d n g) (G : List Nat → List Nat) (hG : Aut d G n)
    (h1 : ∀ u, u.length = n → (∀ x ∈ u, x < d) → G (actP d g u) = u) (h2 : ∀ u, u.length = n → (∀ x ∈ u, x < d) → actP d g (G u) = u) :
    Calls Tryz.prog 15 #[.int .i64 d, .int .i64 n, v] w fun e w' => ∃ v', e = .returned (.tuple #[v', .int .i64 0]) ∧ Own w' w.heap.size 2 v' (ints (prtF d G n)) ∧ Below w.heap.size w w' := by
  have hgl : g.length ≤ 40 := by rw [hg.1]; exact (start_le hd hn).1
  obtain ⟨A0, cp0, rfl, _, _⟩ := hO.form
  rw [ints_length] at hO ⊢
  have hS := (St.arg w hO).newOwn [(Value.slice A0 g.length cp0)] 32 (by simp)
  simp only [List.length_cons, List.length_nil, Nat.zero_add] at hS
  replace hS := hid hS
  have hpc := hid (fun W b vv (hO : Own W b 32 vv [(Value.slice A0 g.length cp0)]) (hr : Own W b 2 (Value.slice A0 g.length cp0) (ints g)) => portraitCode_any W d n b vv [g] (mat1 hO hr) (by simp) (by simp; omega))
  rw [pcode_0 hd hn1 hn (by intro x hx; rw [List.mem_singleton.1 hx]; exact hg)] at hpc
  have hof := hid (fun W (hO : Own W 0 2 (Value.slice A0 g.length cp0) (ints g)) => ofPortrait_any W d n hd hn 0 _ g hO hg)
  have hpf := hid (fun W b v hO => portraitFrom_any W d n hd hn1 hn G hG b v hO)
  have hN := pw5 (n := n) hd (by omega)
  have hpos := pw_pos d (by omega) n
  have hF := aut_act hd hg
  have hpm := pmF_pm (show 0 < d by omega) hF
  have hpl : (prtP d g n).length = pw d n := pmF_length d _ n
  have hbk := hid (show bkL (prtP d g n) (pw d n) = pmF d G n from bkL_pm (by omega) hF hG h1 h2)
  have hlt := hid (fun k (hk : k < pw d n) => (show (prtP d g n).getD k 0 < pw d n from by have := hpm.lt k (by rw [pmF_length]; exact hk); rw [pmF_length] at this; exact this))
  have hb0 := hid (show List.replicate (pw d n) (Value.int .i64 0) = nats (bkL (prtP d g n) 0) from by simp [bkL, nats, hpl])
  have hbs := hid (fun k => (show (nats (bkL (prtP d g n) k)).set ((prtP d g n).getD k 0) (.int .i64 (k : Nat)) = nats (bkL (prtP d g n) (k + 1)) from by simp [bkL, nats, List.map_set]))
  have hbl := hid (fun k => (show (nats (bkL (prtP d g n) k)).length = pw d n from by rw [nats_length, bkL_length, hpl]))
  have hcl := hid (fun k (hk : k < pw d n) => (show (nats (prtP d g n))[k]? = some (.int .i64 ((prtP d g n).getD k 0 : Nat)) from by
    rw [nats, List.getElem?_map, List.getD_eq_getElem?_getD]
    have hk' : k < (prtP d g n).length := by rw [hpl]; exact hk
    rw [List.getElem?_eq_getElem hk']; rfl))
  have hnl := hid (show (nats (prtP d g n)).length = pw d n from by rw [nats_length, hpl])
  rw [← hbk.out] at hpf
  replace hO := hid hO; replace hg := hid hg
  clear h1 h2 hG hF hpm hpl hbk
  generalize prtF d G n = R at *
  generalize prtP d g n = p at *
  generalize pw d n = N at *
  have hmk := fun W : World => run_make_row' (P := Tryz.prog) 32 2 (.int .i64 0) 8 Tryz.underlying32 info_i64 rfl .i64 .i64 N (by omega) (by omega) W
  have hmc := hid (toList_madeCells_one (.int .i64 0) N)
  generalize madeCells #[.int .i64 0] N = mc at *
  have hmcs := hid (show mc.size = N by rw [← Array.length_toList, hmc.out, List.length_replicate])
  go_enter Tryz.func15, Tryz.ntmps15
  go_upto_region 5 with (first
    | (go_at_call 92; (with_reducible refine (hpc.out _ _ _ (hS.out.o0.mono (Nat.zero_le _)) hS.out.o1).mono ?_); rintro e w1 ⟨rfl, hb⟩; replace hS := hid (hS.out.call hb).drop; clear hb)
    | (go_at_call 99; (with_reducible refine (hof.out _ hS.out.o0).mono ?_); rintro e w2 ⟨v2, rfl, hO2, hb⟩; obtain ⟨g2, c2, rfl, _, _⟩ := hO2.blk (fun e => by have h := hnl.out; rw [e] at h; simp at h; omega); rw [hnl.out] at hO2; rw [hnl.out]; replace hS := hid (hS.out.callOwn hb hO2); clear hO2 hb))
  replace hS := hid (hS.out.newArr mc N hmcs.out 2 (by omega))
  rw [hmc.out, hb0.out] at hS
  go_upto_region 6 with (fail)
  generalize w2.alloc (.cells mc 2) = w3 at *
  generalize w2.heap.size = gb at *
  go_wp2
  go_loopw [32] (fun i wr => ∃ k : Nat, k ≤ N ∧ i = .int .i64 k ∧ St w.heap.size w [Asn.own w.heap.size 2 (.slice (some ⟨gb, 0, none⟩) N N) (nats (bkL p k)), Asn.own w.heap.size 2 (.slice (some ⟨g2, 0, none⟩) N c2) (nats p)] wr) (fun i _ => N - (intOf i).toNat)
  case atStart => exact ⟨0, Nat.zero_le _, rfl, hS.out.f2.drop⟩
  case round =>
    obtain ⟨k, hk, rfl, rS⟩ := hrel
    clear hS
    by_cases hkN : k < N
    · have dk : decide ((k : Int) < (N : Int)) = true := decide_eq_true (by omega)
      have k0 : (0 : Int) ≤ (k : Int) := Int.natCast_nonneg _
      have k1 : (k : Int) < (N : Int) := by omega
      have ck := rS.o1.cellAt k _ (hcl.out k hkN)
      have hl := hlt.out k hkN
      have hset := hid (hbs.out k)
      have hl1 := hid (hbl.out k)
      generalize p.getD k 0 = y at *
      have y0 : (0 : Int) ≤ (y : Int) := Int.natCast_nonneg _
      have y1 : (y : Int) < (N : Int) := by omega
      obtain ⟨c0, hc0⟩ : ∃ z, (nats (bkL p k))[y]? = some z := ⟨_, List.getElem?_eq_getElem (by rw [hl1.out]; exact hl)⟩
      have co := Own.cellAt rS.o0 y c0 hc0
      have fo := Own.frozenAt rS.o0 hl1.out y
      replace rS := hid (rS.setOwn hl1.out y (.int .i64 (k : Nat)) hl)
      rw [hset.out] at rS
      go_wp2
      go_roundw
      case rel => exact ⟨k + 1, by omega, by go_num, rS.out⟩
      case measure => simp [intOf]; omega
    · obtain rfl : k = N := by omega
      have dk : decide ((k : Int) < (k : Int)) = false := decide_eq_false (by omega)
      replace rS := hid rS
      go_wp2_with (
        (go_at_call 93; (with_reducible refine (hpf.out _ _ _ rS.out.o0).mono ?_); rintro e w4 ⟨v4, rfl, hO4, hb⟩; replace rS := hid (rS.out.callOwn hb hO4); clear hb hO4))
      go_ret2
      exact ⟨_, rfl, rS.out.o0, rS.out.bel⟩
end Go.Proofs.YthmcdfjijkecfaaGreat
