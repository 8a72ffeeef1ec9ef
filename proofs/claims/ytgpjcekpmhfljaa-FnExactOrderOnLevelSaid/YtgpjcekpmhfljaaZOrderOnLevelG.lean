/- What the proof of OrderOnLevel leans on, part 7 of 8. -/
import Derived.Test.YtgpjcekpmhfljaaZOrderOnLevelF
/- The reference's l02Code, l01Letters, l01Word, l02Both. -/
namespace Go.Proofs.Ytgpjcekpmhfljaa
open Go.RowKit
set_option linter.unusedVariables false
set_option linter.unusedSimpArgs false
-- @LONG

open Classical in
/-- The code of a machine and group words. -/
noncomputable def codG (m : Mach) (M : List (List Int)) : Int := if IsM m ∧ ∀ row ∈ M, IsGw m row then 0 else 1
theorem codG_0 {m : Mach} {M : List (List Int)} (h : IsM m) (hM : ∀ row ∈ M, IsGw m row) : codG m M = 0 := by unfold codG; rw [if_pos ⟨h, hM⟩]
theorem codG_1 {m : Mach} {M : List (List Int)} (h : ¬ (IsM m ∧ ∀ row ∈ M, IsGw m row)) : codG m M = 1 := by unfold codG; rw [if_neg h]
theorem codG_y {m : Mach} {g : List Int} (h : IsGw m g) : codG m [g] = 0 := codG_0 h.1 (by simp; exact h)
theorem codG_n {m : Mach} {g : List Int} (h : ¬ IsGw m g) : codG m [g] = 1 := codG_1 (fun k => h (k.2 g (by simp)))

set_option maxHeartbeats 2000000 in
set_option maxRecDepth 100000 in
theorem l02Code_any (w : World) (m : Mach) (hk : m.Ok) (base : Nat) (v : Value) (M : List (List Int)) (h : Mat w base v M) (hl : M.length < 2000000) (hlr : ∀ row ∈ M, row.length < 2000000) :
    Calls Try.prog 100 #[.agg (mcells m), v] w fun e w' => e = .returned (.int .i64 (codG m M)) ∧ Below w.heap.size w w' := by
  have hS := hid ((St.start w).newMB m 29)
  by_cases hm : IsM m
  · obtain ⟨l, s, gd⟩ := hm.good
    obtain ⟨rows, hO, hrl, hrow⟩ := h
    obtain ⟨A1, c1, rfl, _, _⟩ := hO.form
    rw [hrl] at hO ⊢
    have hcell := hid (fun (k : Nat) (x : List Int) (hx : M[k]? = some x) => (show ∃ g r, A1 = some ⟨g, 0, none⟩ ∧ ∀ W, Below w.heap.size w W → W.cell? ⟨g, k, none⟩ = some r ∧ Own W base 2 r (ints x) from by
      have hk := (List.getElem?_eq_some_iff.1 hx).1
      obtain ⟨g1, c2, he, _, hg1⟩ := hO.blk (fun e => by rw [e] at hrl; rw [← hrl] at hk; simp at hk)
      injection he with e1 e2 e3
      subst e1
      obtain ⟨r, hr⟩ : ∃ r, rows[k]? = some r := ⟨_, List.getElem?_eq_getElem (by rw [hrl]; exact hk)⟩
      exact ⟨g1, r, rfl, fun W hW => ⟨(hO.below hW).cellAt k _ hr, (hrow k r x hr hx).below hW⟩⟩))
    have hi := hid (fun W => l01Is_any W m hk true ⟨fun _ => hm, fun _ => rfl⟩)
    have his := hid (fun W r row (hr : row ∈ M) (hO : Own W base 2 r (ints row)) (c : Bool) (hc : Tells c (IsGw m row)) => l02Is_any W m l s gd base r row hO (hlr row hr) c hc)
    obtain ⟨R, hR⟩ : ∃ R, R = codG m M := ⟨_, rfl⟩
    rw [← hR]
    replace hR := hid hR; replace hm := hid hm; replace gd := hid gd; replace hk := hid hk
    clear hO hrow
    generalize hn : M.length = n at *
    replace hn := hid hn
    go_enter Try.func100, Try.ntmps100
    go_wp2_with (first
      | ((with_reducible refine gate (N := 6) rfl ?_); refine load_mach rfl _ rfl w.heap.size rfl m hS.out.m0 ?_)
      | (go_at_call 92; (with_reducible refine (hi.out _).mono ?_); rintro e w1 ⟨rfl, hb⟩; replace hS := hid (hS.out.call hb); clear hi; clear hb))
    go_loopw [5] (fun i wr => ∃ k : Nat, k ≤ n ∧ i = .int .i64 k ∧ Hid (∀ j row, j < k → M[j]? = some row → IsGw m row) ∧ St w.heap.size w [Asn.mb 29 w.heap.size m] wr) (fun i _ => n - (intOf i).toNat)
    case atStart => exact ⟨0, Nat.zero_le _, rfl, (fun j row hj => absurd hj (by omega)), hS.out⟩
    case round =>
      obtain ⟨k, hk, rfl, hA, rS⟩ := hrel
      clear hS
      replace rS := hid rS
      by_cases hlt : k < n
      · have dc : decide ((k : Int) < (n : Int)) = true := decide_eq_true (by omega)
        obtain ⟨x, hx⟩ : ∃ x, M[k]? = some x := ⟨_, List.getElem?_eq_getElem (by rw [hn.out]; exact hlt)⟩
        obtain ⟨g, r, rfl, hc⟩ := hcell.out k x hx
        have k0 : (0 : Int) ≤ (k : Int) := Int.natCast_nonneg _
        have k1 : (k : Int) < (n : Int) := by omega
        replace hc := hid hc
        go_upto_region 6 with (fail)
        replace rS := hid rS.out.drew
        refine wp_region_heldL (L := [(5, (fun w' : World => MB w' 29 w.heap.size m ∧ w'.cell? ⟨g, k, none⟩ = some r))]) (by kernel_rfl) (HeldL.cons (fun _ => ⟨rS.out.m0, (hc.out _ rS.out.bel).1⟩) HeldL.nil) (fun hHeld => ?_)
        generalize wr.drew = wa at *
        refine wpAnyL_takeP (i := 0) 5 [] (v := (.agg (mcells m))) (fun w' : World => MB w' 29 w.heap.size m ∧ w'.cell? ⟨g, k, none⟩ = some r) rfl (by kernel_rfl) (by kernel_rfl) (by kernel_rfl) (by rfl) (by kernel_rfl) (by simp) (fun _ _ _ h => h) (Or.inl ⟨by rfl, ?_⟩) (by assumption) ?_
        · (intro W hW; exact exec_load _ rfl rfl (load_run hW.1))
        intro hHeld'
        clear hHeld; have hHeld := hHeld'; clear hHeld'
        try simp only [Act.put, List.getElem_toArray, List.getElem_cons_succ, List.getElem_cons_zero, List.setIfInBounds_toArray, List.set_cons_zero, List.set_cons_succ]
        refine wpAnyL_take0 (i := 1) (v := ?_) rfl (by kernel_rfl) (by kernel_rfl) (by kernel_rfl) (by rfl) (fun _ _ _ h => h) (Or.inl ⟨by rfl, ?_⟩) (by assumption) ?_
        rotate_left
        · (intro W _; go_simp; (with_reducible rfl))
        intro hHeld'
        clear hHeld; have hHeld := hHeld'; clear hHeld'
        try simp only [Act.put, List.getElem_toArray, List.getElem_cons_succ, List.getElem_cons_zero, List.setIfInBounds_toArray, List.set_cons_zero, List.set_cons_succ]
        refine wpAnyL_take0 (i := 2) (v := ?_) rfl (by kernel_rfl) (by kernel_rfl) (by kernel_rfl) (by rfl) (fun _ _ _ h => h) (Or.inl ⟨by rfl, ?_⟩) (by assumption) ?_
        rotate_left
        · (intro W _; go_simp; (with_reducible rfl))
        intro hHeld'
        clear hHeld; have hHeld := hHeld'; clear hHeld'
        try simp only [Act.put, List.getElem_toArray, List.getElem_cons_succ, List.getElem_cons_zero, List.setIfInBounds_toArray, List.set_cons_zero, List.set_cons_succ]
        refine wpAnyL_take0 (i := 3) (v := ?_) rfl (by kernel_rfl) (by kernel_rfl) (by kernel_rfl) (by rfl) (fun _ _ _ h => h) (Or.inl ⟨by rfl, ?_⟩) (by assumption) ?_
        rotate_left
        · (intro W _; go_simp; (with_reducible rfl))
        intro hHeld'
        clear hHeld; have hHeld := hHeld'; clear hHeld'
        try simp only [Act.put, List.getElem_toArray, List.getElem_cons_succ, List.getElem_cons_zero, List.setIfInBounds_toArray, List.set_cons_zero, List.set_cons_succ]
        refine wpAnyL_takeP (i := 4) 5 [] (v := ?_) (fun w' : World => MB w' 29 w.heap.size m ∧ w'.cell? ⟨g, k, none⟩ = some r) rfl (by kernel_rfl) (by kernel_rfl) (by kernel_rfl) (by rfl) (by kernel_rfl) (by simp) (fun _ _ _ h => h) (Or.inl ⟨by rfl, ?_⟩) (by assumption) ?_
        rotate_left
        · (intro W hW; (obtain ⟨_, hW⟩ := hW); go_simp; (with_reducible rfl))
        intro hHeld'
        clear hHeld; have hHeld := hHeld'; clear hHeld'
        try simp only [Act.put, List.getElem_toArray, List.getElem_cons_succ, List.getElem_cons_zero, List.setIfInBounds_toArray, List.set_cons_zero, List.set_cons_succ]
        refine wpAnyL_ready (rs := [5]) (by kernel_rfl) (by simp) ?_
        refine AllReadyL.cons rfl (fun K hK => ?_) AllReadyL.nil
        go_simp
        by_cases hgw : IsGw m x
        · have hcl := hid (fun W hO => his.out W r x (List.mem_of_getElem? hx) hO true ⟨fun _ => hgw, fun _ => rfl⟩)
          (with_reducible refine (hcl.out _ (hc.out _ rS.out.bel).2).mono ?_)
          rintro e w2 ⟨rfl, hb⟩
          replace rS := hid (rS.out.call hb)
          clear hb
          have hA2 : Hid (∀ j row, j < k + 1 → M[j]? = some row → IsGw m row) := fun j row hj hr => by
            by_cases e : j = k
            · subst e; rw [hx] at hr; injection hr with hr; subst hr; exact hgw
            · exact hA.out j row (by omega) hr
          clear hx hgw hcl
          go_simp
          refine hK.out _ _ (HeldL.cons (fun h => absurd h (by decide +kernel)) HeldL.nil) (fun hHeld' => ?_)
          clear hK K hHeld; have hHeld := hHeld'; clear hHeld'
          try simp only [Act.put, List.getElem_toArray, List.getElem_cons_succ, List.getElem_cons_zero, List.setIfInBounds_toArray, List.set_cons_zero, List.set_cons_succ]
          refine wpAnyL_take0 (i := 6) (v := ?_) rfl (by kernel_rfl) (by kernel_rfl) (by kernel_rfl) (by rfl) (fun _ _ _ h => h) (Or.inl ⟨by rfl, ?_⟩) (by assumption) ?_
          rotate_left
          · (intro W _; go_simp; (with_reducible rfl))
          intro hHeld'
          clear hHeld; have hHeld := hHeld'; clear hHeld'
          try simp only [Act.put, List.getElem_toArray, List.getElem_cons_succ, List.getElem_cons_zero, List.setIfInBounds_toArray, List.set_cons_zero, List.set_cons_succ]
          refine wpAnyL_done (by kernel_rfl) ?_ _
          go_wp2
          go_roundw
          case rel => exact ⟨k + 1, by omega, by go_num, hA2, rS.out⟩
          case measure => simp [intOf]; omega
        · have hcl := hid (fun W hO => his.out W r x (List.mem_of_getElem? hx) hO false ⟨fun h => (by cases h), fun h => absurd h hgw⟩)
          (with_reducible refine (hcl.out _ (hc.out _ rS.out.bel).2).mono ?_)
          rintro e w2 ⟨rfl, hb⟩
          replace rS := hid (rS.out.call hb)
          clear hb
          have hfin := hid (show R = 1 by rw [hR.out]; exact codG_1 (fun h => hgw (h.2 x (List.mem_of_getElem? hx))))
          clear hx hgw hcl
          go_simp
          refine hK.out _ _ (HeldL.cons (fun h => absurd h (by decide +kernel)) HeldL.nil) (fun hHeld' => ?_)
          clear hK K hHeld; have hHeld := hHeld'; clear hHeld'
          try simp only [Act.put, List.getElem_toArray, List.getElem_cons_succ, List.getElem_cons_zero, List.setIfInBounds_toArray, List.set_cons_zero, List.set_cons_succ]
          refine wpAnyL_take0 (i := 6) (v := ?_) rfl (by kernel_rfl) (by kernel_rfl) (by kernel_rfl) (by rfl) (fun _ _ _ h => h) (Or.inl ⟨by rfl, ?_⟩) (by assumption) ?_
          rotate_left
          · (intro W _; go_simp; (with_reducible rfl))
          intro hHeld'
          clear hHeld; have hHeld := hHeld'; clear hHeld'
          try simp only [Act.put, List.getElem_toArray, List.getElem_cons_succ, List.getElem_cons_zero, List.setIfInBounds_toArray, List.set_cons_zero, List.set_cons_succ]
          refine wpAnyL_done (by kernel_rfl) ?_ _
          go_wp2
          go_ret
          exact ⟨retI (by rw [hfin.out]), rS.out.bel⟩
      · obtain rfl : k = n := by omega
        have dc : decide ((k : Int) < (k : Int)) = false := decide_eq_false (by omega)
        have hfin := hid (show R = 0 by
          rw [hR.out]
          refine codG_0 hm.out fun row hr => ?_
          obtain ⟨j, hj, rfl⟩ := List.getElem_of_mem hr
          exact hA.out j _ (by rw [← hn.out]; exact hj) (List.getElem?_eq_getElem hj))
        go_wp2
        go_ret
        exact ⟨retI (by rw [hfin.out]), rS.out.bel⟩
  · have hi := hid (fun W => l01Is_any W m hk false ⟨fun h => (by cases h), fun h => absurd h hm⟩)
    rw [codG_1 (fun h => hm h.1)]
    replace hk := hid hk; replace h := hid h; clear hm
    go_enter Try.func100, Try.ntmps100
    go_wp2_with (first
      | ((with_reducible refine gate (N := 6) rfl ?_); refine load_mach rfl _ rfl w.heap.size rfl m hS.out.m0 ?_)
      | (go_at_call 92; (with_reducible refine (hi.out _).mono ?_); rintro e w1 ⟨rfl, hb⟩; replace hS := hid (hS.out.call hb); clear hi; clear hb))
    go_ret
    exact ⟨rfl, hS.out.bel⟩

end Go.Proofs.Ytgpjcekpmhfljaa

/- The reference's l02State, l02Step, l02Led, l02Act. -/
namespace Go.Proofs.Ytgpjcekpmhfljaa
open Go.RowKit
set_option linter.unusedVariables false
set_option linter.unusedSimpArgs false
-- @LONG

set_option maxHeartbeats 1000000 in
theorem l02State_any (w : World) (s : Nat) (hs : s ≤ 16) (k : Int) (q : Nat) (hq : q < s) (hk : k = (q : Int) + 1 ∨ k = -((q : Int) + 1)) :
    Calls Try.prog 168 #[.int .i64 k] w fun e w' => e = .returned (.int .i64 (q : Nat)) ∧ w = w' := by
  have e1 : IntKind.i64.wrap (-k) = -k := IntWalk.i64_in _ (by omega)
  have e2 : max k (-k) = (q : Int) + 1 := by omega
  have e3 : (q : Int) + 1 - 1 = (q : Int) := by omega
  have e4 : (if -k < k then k else -k) = (q : Int) + 1 := by split <;> omega
  have e5 : (if k < -k then -k else k) = (q : Int) + 1 := by split <;> omega
  replace hk := hid hk
  go_enter Try.func168, Try.ntmps168
  go_wp2
  go_ret
  exact ⟨rfl, rfl⟩
set_option maxHeartbeats 2000000 in
set_option maxRecDepth 100000 in
theorem l02Step_any (w : World) (m : Mach) (l s : Nat) (gd : Good m l s) (k : Int) (hk : isNum s k) (x : Nat) (hx : x < l) :
    Calls Try.prog 155 #[.agg (mcells m), .agg (mcells (inv m l s)), .int .i64 k, .int .u8 x] w fun e w' => e = .returned (.tuple #[.int .u8 (apO m l s k x : Nat), .int .i64 (apN m l s k x)]) ∧ Below w.heap.size w w' := by
  have hS := hid (((St.start w).newMB m 29).newMB (inv m l s) 29)
  rw [heap_alloc_size] at hS
  have s16 := gd.s16; have l3 := gd.l3
  have gI := inv_good gd
  obtain ⟨q, hq, hqk⟩ := isNum_cases hk
  have hst := hid (fun W => l02State_any W s s16 k q hq hqk)
  have x0 : (0 : Int) ≤ (x : Int) := Int.natCast_nonneg _
  have x1 : (x : Int) < 3 := by omega
  have q0 : (0 : Int) ≤ (q : Int) := Int.natCast_nonneg _
  have q1 : (q : Int) < 16 := by omega
  rcases hqk with hqk | hqk
  · have d1 : decide ((0 : Int) < k) = true := decide_eq_true (by omega)
    have c1 := hS.out.m1.cot q x (by omega) (by omega)
    have c2 := hS.out.m1.cnx q x (by omega) (by omega)
    have hO := hid (show apO m l s k x = m.ot (q * 3 + x) by rw [hqk]; exact apO_pos q x)
    have hN := hid (show apN m l s k x = (m.nx (q * 3 + x) : Int) + 1 by rw [hqk]; exact apN_pos q x)
    rw [hO.out, hN.out]
    have hnl := gd.nx q x hq hx
    have hol := gd.ot q x hq hx
    have e2 : IntKind.i64.wrap ((m.nx (q * 3 + x) : Int) + 1) = (m.nx (q * 3 + x) : Int) + 1 := IntWalk.i64_in _ (by omega)
    generalize m.ot (q * 3 + x) = ot at *
    generalize m.nx (q * 3 + x) = nx at *
    clear gd gI hk hO hN; replace hqk := hid hqk
    go_enter Try.func155, Try.ntmps155
    go_upto_region 3 with (first
      | (go_at_call 168; (with_reducible refine (hst.out _).mono ?_); rintro e w' ⟨rfl, rfl⟩))
    go_quiet (fail)
    go_wp2
    go_ret2
    exact ⟨rfl, below_drewN hS.out.bel _⟩
  · have d1 : decide ((0 : Int) < k) = false := decide_eq_false (by omega)
    have c1 := hS.out.m0.cot q x (by omega) (by omega)
    have c2 := hS.out.m0.cnx q x (by omega) (by omega)
    have hO := hid (show apO m l s k x = (inv m l s).ot (q * 3 + x) by rw [hqk]; exact apO_neg q x)
    have hN := hid (show apN m l s k x = -((inv m l s).nx (q * 3 + x) : Int) - 1 by rw [hqk]; exact apN_neg q x)
    rw [hO.out, hN.out]
    have hnl := gI.nx q x hq hx
    have hol := gI.ot q x hq hx
    have e2 : IntKind.i64.wrap (((inv m l s).nx (q * 3 + x) : Int) + 1) = ((inv m l s).nx (q * 3 + x) : Int) + 1 := IntWalk.i64_in _ (by omega)
    have e3 : IntKind.i64.wrap (-(((inv m l s).nx (q * 3 + x) : Int) + 1)) = -((inv m l s).nx (q * 3 + x) : Int) - 1 := by rw [IntWalk.i64_in _ (by omega)]; omega
    generalize (inv m l s).ot (q * 3 + x) = ot at *
    generalize (inv m l s).nx (q * 3 + x) = nx at *
    clear gd gI hk hO hN; replace hqk := hid hqk
    go_enter Try.func155, Try.ntmps155
    go_upto_region 4 with (first
      | (go_at_call 168; (with_reducible refine (hst.out _).mono ?_); rintro e w' ⟨rfl, rfl⟩))
    go_quiet (fail)
    go_wp2
    go_ret2
    exact ⟨rfl, below_drewN hS.out.bel _⟩
set_option maxHeartbeats 2000000 in
set_option maxRecDepth 100000 in
theorem l02Led_any (w : World) (m : Mach) (l s : Nat) (gd : Good m l s) (base : Nat) (v : Value) (u : List Int) (hu : Own w base 2 v (ints u)) (hn : ∀ k ∈ u, isNum s k) (hul : u.length ≤ 1000) (x : Nat) (hx : x < l) :
    Calls Try.prog 132 #[.agg (mcells m), .agg (mcells (inv m l s)), v, .int .u8 x] w fun e w' => ∃ v', e = .returned (.tuple #[.int .u8 (atX m l s u x : Nat), v']) ∧ Own w' w.heap.size 2 v' (ints (atS m l s u x)) ∧ Below w.heap.size w w' := by
  have hil := ints_length u
  obtain ⟨A, c, rfl, _, _⟩ := hu.form
  rw [hil] at hu ⊢
  have hcell := hid (fun (k : Nat) (y : Int) (hy : u[k]? = some y) => (show ∃ gA, A = some ⟨gA, 0, none⟩ ∧ ∀ W, Below w.heap.size w W → W.cell? ⟨gA, k, none⟩ = some (.int .i64 y) from by
    obtain ⟨g1, c2, he, _, hg1⟩ := hu.blk (fun e => by have h1 := congrArg List.length e; rw [hil] at h1; have h2 := (List.getElem?_eq_some_iff.1 hy).1; rw [List.length_nil] at h1; omega)
    injection he with e1 e2 e3
    subst e1
    exact ⟨g1, rfl, fun W hW => (hu.below hW).cellAt k _ (by simp [ints, hy])⟩))
  have hst := hid (fun W k (hk : isNum s k) y (hy : y < l) => l02Step_any W m l s gd k hk y hy)
  have hS := ((((St.start w).newMB m 29).newMB (inv m l s) 29).newOwn [] 2 (by simp))
  simp only [heap_alloc_size, List.length_nil] at hS
  replace hS := hid hS
  have hsx := hid (fun i y (hy : u[i]? = some y) => (show u.take (i + 1) = u.take i ++ [y] from by rw [List.take_add_one, hy]; rfl))
  have hlt := hid (fun i => atX_lt gd (u.take i) x (fun k hk => hn k (List.mem_of_mem_take hk)) hx)
  have hxs := hid (fun i y => atX_snoc (m := m) (l := l) (s := s) (u.take i) y x)
  have hss := hid (fun i y => atS_snoc (m := m) (l := l) (s := s) (u.take i) y x)
  have hsl := hid (fun i (hi : i ≤ u.length) => (show (ints (atS m l s (u.take i) x)).length = i from by rw [ints_length, atS_length, List.length_take]; omega))
  have h0X := hid (show atX m l s u x = atX m l s (u.take u.length) x by rw [List.take_length])
  have h0S := hid (show atS m l s u x = atS m l s (u.take u.length) x by rw [List.take_length])
  rw [h0X.out, h0S.out]
  have l3 := gd.l3
  replace hn := hid hn
  clear hu hil h0X h0S
  replace gd := hid gd
  generalize hI : inv m l s = I at *
  replace hI := hid hI
  generalize hN : u.length = N at *
  replace hN := hid hN
  go_enter Try.func132, Try.ntmps132
  go_upto_region 2 with (fail)
  generalize ((w.alloc (.cells (mcells m) 29)).alloc (.cells (mcells I) 29)).alloc (.cells #[] 2) = W1 at *
  go_wp2
  go_loopw [3, 10, 11] (fun y o i wr => ∃ j : Nat, j ≤ N ∧ i = .int .i64 j ∧ y = .int .u8 (atX m l s (u.take j) x : Nat) ∧ St w.heap.size w [Asn.own w.heap.size 2 o (ints (atS m l s (u.take j) x)), Asn.mb 29 (w.heap.size + 1) I, Asn.mb 29 w.heap.size m] wr) (fun _ _ i _ => N - (intOf i).toNat)
  case atStart => exact ⟨0, Nat.zero_le _, rfl, rfl, hS.out⟩
  case round =>
    obtain ⟨j, hj, rfl, rfl, rS⟩ := hrel
    clear hS
    replace rS := hid rS
    by_cases hjN : j < N
    · have dc : decide ((j : Int) < (N : Int)) = true := decide_eq_true (by omega)
      obtain ⟨y, hy⟩ : ∃ y, u[j]? = some y := ⟨_, List.getElem?_eq_getElem (by rw [hN.out]; exact hjN)⟩
      obtain ⟨gA, rfl, hc⟩ := hcell.out j y hy
      have j0 : (0 : Int) ≤ (j : Int) := Int.natCast_nonneg _
      have j1 : (j : Int) < (N : Int) := by omega
      have hcl := hid (fun W => hst.out W y (hn.out y (List.mem_of_getElem? hy)) _ (hlt.out j))
      have hX := hid ((congrArg (fun t => atX m l s t x) (hsx.out j y hy)).trans (hxs.out j y))
      have hSS := hid ((congrArg (fun t => atS m l s t x) (hsx.out j y hy)).trans (hss.out j y))
      have hl2 := hid (hsl.out j hj)
      have hlx := hlt.out j
      replace hc := hid hc
      clear hy
      generalize atX m l s (u.take j) x = xj at *
      generalize atS m l s (u.take j) x = sj at *
      generalize apO m l s y xj = xo at *
      generalize apN m l s y xj = xn at *
      go_upto_region 5 with (fail)
      replace rS := hid rS.out.drew
      refine wp_region_heldL (L := [(7, (fun w' : World => MB w' 29 w.heap.size m ∧ MB w' 29 (w.heap.size + 1) I ∧ w'.cell? ⟨gA, j, none⟩ = some (.int .i64 y)))]) (by kernel_rfl) (HeldL.cons (fun _ => ⟨rS.out.m2, rS.out.m1, hc.out _ rS.out.bel⟩) HeldL.nil) (fun hHeld => ?_)
      generalize wr.drew = wa at *
      refine wpAnyL_takeP (i := 0) 7 [] (v := (.agg (mcells m))) (fun w' : World => MB w' 29 w.heap.size m ∧ MB w' 29 (w.heap.size + 1) I ∧ w'.cell? ⟨gA, j, none⟩ = some (.int .i64 y)) rfl (by kernel_rfl) (by kernel_rfl) (by kernel_rfl) (by rfl) (by kernel_rfl) (by simp) (fun _ _ _ h => h) (Or.inl ⟨by rfl, ?_⟩) (by assumption) ?_
      · (intro W hW; exact exec_load _ rfl rfl (load_run hW.1))
      intro hHeld'
      clear hHeld; have hHeld := hHeld'; clear hHeld'
      try simp only [Act.put, List.getElem_toArray, List.getElem_cons_succ, List.getElem_cons_zero, List.setIfInBounds_toArray, List.set_cons_zero, List.set_cons_succ]
      refine wpAnyL_takeP (i := 1) 7 [] (v := (.agg (mcells I))) (fun w' : World => MB w' 29 w.heap.size m ∧ MB w' 29 (w.heap.size + 1) I ∧ w'.cell? ⟨gA, j, none⟩ = some (.int .i64 y)) rfl (by kernel_rfl) (by kernel_rfl) (by kernel_rfl) (by rfl) (by kernel_rfl) (by simp) (fun _ _ _ h => h) (Or.inl ⟨by rfl, ?_⟩) (by assumption) ?_
      · (intro W hW; exact exec_load _ rfl rfl (load_run hW.2.1))
      intro hHeld'
      clear hHeld; have hHeld := hHeld'; clear hHeld'
      try simp only [Act.put, List.getElem_toArray, List.getElem_cons_succ, List.getElem_cons_zero, List.setIfInBounds_toArray, List.set_cons_zero, List.set_cons_succ]
      refine wpAnyL_take0 (i := 2) (v := ?_) rfl (by kernel_rfl) (by kernel_rfl) (by kernel_rfl) (by rfl) (fun _ _ _ h => h) (Or.inl ⟨by rfl, ?_⟩) (by assumption) ?_
      rotate_left
      · (intro W _; go_simp; (with_reducible rfl))
      intro hHeld'
      clear hHeld; have hHeld := hHeld'; clear hHeld'
      try simp only [Act.put, List.getElem_toArray, List.getElem_cons_succ, List.getElem_cons_zero, List.setIfInBounds_toArray, List.set_cons_zero, List.set_cons_succ]
      refine wpAnyL_take0 (i := 3) (v := ?_) rfl (by kernel_rfl) (by kernel_rfl) (by kernel_rfl) (by rfl) (fun _ _ _ h => h) (Or.inl ⟨by rfl, ?_⟩) (by assumption) ?_
      rotate_left
      · (intro W _; go_simp; (with_reducible rfl))
      intro hHeld'
      clear hHeld; have hHeld := hHeld'; clear hHeld'
      try simp only [Act.put, List.getElem_toArray, List.getElem_cons_succ, List.getElem_cons_zero, List.setIfInBounds_toArray, List.set_cons_zero, List.set_cons_succ]
      refine wpAnyL_take0 (i := 4) (v := ?_) rfl (by kernel_rfl) (by kernel_rfl) (by kernel_rfl) (by rfl) (fun _ _ _ h => h) (Or.inl ⟨by rfl, ?_⟩) (by assumption) ?_
      rotate_left
      · (intro W _; go_simp; (with_reducible rfl))
      intro hHeld'
      clear hHeld; have hHeld := hHeld'; clear hHeld'
      try simp only [Act.put, List.getElem_toArray, List.getElem_cons_succ, List.getElem_cons_zero, List.setIfInBounds_toArray, List.set_cons_zero, List.set_cons_succ]
      refine wpAnyL_takeP (i := 5) 7 [] (v := ?_) (fun w' : World => MB w' 29 w.heap.size m ∧ MB w' 29 (w.heap.size + 1) I ∧ w'.cell? ⟨gA, j, none⟩ = some (.int .i64 y)) rfl (by kernel_rfl) (by kernel_rfl) (by kernel_rfl) (by rfl) (by kernel_rfl) (by simp) (fun _ _ _ h => h) (Or.inl ⟨by rfl, ?_⟩) (by assumption) ?_
      rotate_left
      · (intro W hW; (obtain ⟨_, _, hW⟩ := hW); go_simp; (with_reducible rfl))
      intro hHeld'
      clear hHeld; have hHeld := hHeld'; clear hHeld'
      try simp only [Act.put, List.getElem_toArray, List.getElem_cons_succ, List.getElem_cons_zero, List.setIfInBounds_toArray, List.set_cons_zero, List.set_cons_succ]
      refine wpAnyL_take0 (i := 6) (v := ?_) rfl (by kernel_rfl) (by kernel_rfl) (by kernel_rfl) (by rfl) (fun _ _ _ h => h) (Or.inl ⟨by rfl, ?_⟩) (by assumption) ?_
      rotate_left
      · (intro W _; go_simp; (with_reducible rfl))
      intro hHeld'
      clear hHeld; have hHeld := hHeld'; clear hHeld'
      try simp only [Act.put, List.getElem_toArray, List.getElem_cons_succ, List.getElem_cons_zero, List.setIfInBounds_toArray, List.set_cons_zero, List.set_cons_succ]
      refine wpAnyL_ready (rs := [7]) (by kernel_rfl) (by simp) ?_
      refine AllReadyL.cons rfl (fun K hK => ?_) AllReadyL.nil
      go_simp
      (with_reducible refine (hcl.out _).mono ?_)
      rintro e w3 ⟨rfl, hb⟩
      replace rS := hid (rS.out.call hb)
      clear hb
      go_simp
      refine hK.out _ _ (HeldL.cons (fun h => absurd h (by decide +kernel)) HeldL.nil) (fun hHeld' => ?_)
      clear hK K hHeld; have hHeld := hHeld'; clear hHeld'
      try simp only [Act.put, List.getElem_toArray, List.getElem_cons_succ, List.getElem_cons_zero, List.setIfInBounds_toArray, List.set_cons_zero, List.set_cons_succ]
      refine wpAnyL_take0 (i := 8) (v := ?_) rfl (by kernel_rfl) (by kernel_rfl) (by kernel_rfl) (by rfl) (fun _ _ _ h => h) (Or.inl ⟨by rfl, ?_⟩) (by assumption) ?_
      rotate_left
      · (intro W _; go_simp; (with_reducible rfl))
      intro hHeld'
      clear hHeld; have hHeld := hHeld'; clear hHeld'
      try simp only [Act.put, List.getElem_toArray, List.getElem_cons_succ, List.getElem_cons_zero, List.setIfInBounds_toArray, List.set_cons_zero, List.set_cons_succ]
      refine wpAnyL_take0 (i := 9) (v := ?_) rfl (by kernel_rfl) (by kernel_rfl) (by kernel_rfl) (by rfl) (fun _ _ _ h => h) (Or.inl ⟨by rfl, ?_⟩) (by assumption) ?_
      rotate_left
      · (intro W _; go_simp; (with_reducible rfl))
      intro hHeld'
      clear hHeld; have hHeld := hHeld'; clear hHeld'
      try simp only [Act.put, List.getElem_toArray, List.getElem_cons_succ, List.getElem_cons_zero, List.setIfInBounds_toArray, List.set_cons_zero, List.set_cons_succ]
      refine wpAnyL_take0 (i := 10) (v := ?_) rfl (by kernel_rfl) (by kernel_rfl) (by kernel_rfl) (by rfl) (fun _ _ _ h => h) (Or.inl ⟨by rfl, ?_⟩) (by assumption) ?_
      rotate_left
      · (intro W _; go_simp; (with_reducible rfl))
      intro hHeld'
      clear hHeld; have hHeld := hHeld'; clear hHeld'
      try simp only [Act.put, List.getElem_toArray, List.getElem_cons_succ, List.getElem_cons_zero, List.setIfInBounds_toArray, List.set_cons_zero, List.set_cons_succ]
      refine wpAnyL_take0 (i := 11) (v := ?_) rfl (by kernel_rfl) (by kernel_rfl) (by kernel_rfl) (by rfl) (fun _ _ _ h => h) (Or.inl ⟨by rfl, ?_⟩) (by assumption) ?_
      rotate_left
      · (intro W _; go_simp; (with_reducible rfl))
      intro hHeld'
      clear hHeld; have hHeld := hHeld'; clear hHeld'
      try simp only [Act.put, List.getElem_toArray, List.getElem_cons_succ, List.getElem_cons_zero, List.setIfInBounds_toArray, List.set_cons_zero, List.set_cons_succ]
      refine wpAnyL_take0 (i := 12) (v := ?_) rfl (by kernel_rfl) (by kernel_rfl) (by kernel_rfl) (by rfl) (fun _ _ _ h => h) (Or.inl ⟨by rfl, ?_⟩) (by assumption) ?_
      rotate_left
      · (intro W _; go_simp; (with_reducible rfl))
      intro hHeld'
      clear hHeld; have hHeld := hHeld'; clear hHeld'
      try simp only [Act.put, List.getElem_toArray, List.getElem_cons_succ, List.getElem_cons_zero, List.setIfInBounds_toArray, List.set_cons_zero, List.set_cons_succ]
      refine wpAnyL_done (by kernel_rfl) ?_ _
      go_wp2_with (first
        | ((with_reducible refine gate (N := 36) rfl ?_); refine St.app 34 2 (.int .i64 0) 8 Try.underlying34 info_i64 rfl (by omega) rfl _ _ rfl _ _ rfl rS.out _ rfl rfl j hl2.out (by omega) ?_; intro gn cn w4 rS'; replace rS := hid rS'; clear rS'))
      rw [← ints_snoc, ← hSS.out] at rS
      go_roundw
      case rel => exact ⟨j + 1, by omega, by go_num, by rw [hX.out], rS.out⟩
      case measure => simp [intOf]; omega
    · obtain rfl : j = N := by omega
      have dc : decide ((j : Int) < (j : Int)) = false := decide_eq_false (by omega)
      go_wp2
      go_ret2
      exact ⟨_, rfl, rS.out.o0, rS.out.bel⟩
end Go.Proofs.Ytgpjcekpmhfljaa

/- The reference's l01Own, l02Act, ImageOf, SectionOf. -/
namespace Go.Proofs.Ytgpjcekpmhfljaa
open Go.RowKit
set_option linter.unusedVariables false
set_option linter.unusedSimpArgs false
-- @LONG

set_option maxHeartbeats 1000000 in
set_option maxRecDepth 100000 in
theorem l01Own_any (w : World) (base : Nat) (v : Value) (l : List Int) (h : Own w base 2 v (ints l)) (hl : l.length ≤ 1000000) :
    Calls Try.prog 57 #[v] w fun e w' => ∃ v', e = .returned v' ∧ Own w' w.heap.size 2 v' (ints l) ∧ Below w.heap.size w w' := by
  have hil := ints_length l
  have hS := hid ((St.start w).newOwn [] 2 (by simp))
  have h' := hid (h.alloc (.cells #[] 2))
  clear h
  go_enter Try.func57, Try.ntmps57
  go_wp2_with (first
    | ((with_reducible refine gate (N := 5) rfl ?_); refine St.appS 34 2 (.int .i64 0) 8 Try.underlying34 info_i64 rfl (by omega) rfl _ _ rfl _ _ rfl hS.out _ _ _ _ rfl h'.out (ints_one l) (by rw [hil]; simp; omega) ?_; intro v' w2 hS'; replace hS := hid hS'; clear hS'))
  go_ret
  exact ⟨_, rfl, by have h := hS.out.o0; rw [List.nil_append] at h; exact h, hS.out.bel⟩
set_option maxHeartbeats 2000000 in
set_option maxRecDepth 100000 in
theorem l02Act_any (w : World) (m : Mach) (l s : Nat) (gd : Good m l s) (base : Nat) (v : Value) (gw : List Int) (hgw : Own w base 2 v (ints gw)) (hn : ∀ k ∈ gw, isNum s k) (hgl : gw.length ≤ 1000) (u : List Nat) (hu : ∀ x ∈ u, x < l) (hlen : u.length ≤ 1000) :
    Calls Try.prog 101 #[.agg (mcells m), .agg (mcells (inv m l s)), v, .string (wstr u)] w fun e w' => ∃ v', e = .returned (.tuple #[.string (wstr (imgW m l s gw u)), v']) ∧ Own w' w.heap.size 2 v' (ints (secW m l s gw u)) ∧ Below w.heap.size w w' := by
  have hsz := wstr_size u
  have hbyte := hid (fun k hk => wstr_byte u k hk (fun x hx => by have := hu x hx; have := gd.l3; omega))
  have hS := (((St.start w).newMB m 29).newMB (inv m l s) 29).newOwn [] 5 (by simp)
  simp only [heap_alloc_size, List.length_nil] at hS
  replace hS := hid hS
  have hown := hid (fun W (hW : Below w.heap.size w W) => l01Own_any W base v gw (hgw.below hW) (by omega))
  have hle := hid (fun W v (u' : List Int) (h1 : Own W 0 2 v (ints u')) (h2 : ∀ k ∈ u', isNum s k) (h3 : u'.length ≤ 1000) x (hx : x < l) => l02Led_any W m l s gd 0 v u' h1 h2 h3 x hx)
  have hnum := hid (fun k => secW_num gd (u.take k) gw hn (fun x hx => hu x (List.mem_of_mem_take hx)))
  have hsl := hid (fun k => secW_length (m := m) (l := l) (s := s) (u.take k) gw)
  have hil := hid (fun k (hk : k ≤ u.length) => (show (wb (imgW m l s gw (u.take k))).length = k by rw [wb_length, imgW_length, List.length_take]; omega))
  have hse := hid (fun k x => secW_snoc (m := m) (l := l) (s := s) (u.take k) x gw)
  have him := hid (fun k x => imgW_snoc (m := m) (l := l) (s := s) (u.take k) x gw)
  have hlt := hid (fun k x (hx : x < l) => atX_lt gd (secW m l s gw (u.take k)) x (hnum.out k) hx)
  have l3 := gd.l3
  replace hu := hid hu
  replace hn := hid hn
  have h0X := hid (show imgW m l s gw u = imgW m l s gw (u.take u.length) by rw [List.take_length])
  have h0S := hid (show secW m l s gw u = secW m l s gw (u.take u.length) by rw [List.take_length])
  rw [h0X.out, h0S.out]
  clear hgw h0X h0S
  replace gd := hid gd
  generalize hI : inv m l s = I at *
  replace hI := hid hI
  generalize hws : wstr u = ws at *
  replace hws := hid hws
  generalize hN : u.length = N at *
  replace hN := hid hN
  go_enter Try.func101, Try.ntmps101
  go_upto_region 3 with (first
    | (go_at_call 57; (with_reducible refine (hown.out _ hS.out.bel).mono ?_); rintro e w2 ⟨v2, rfl, hO, hb⟩; replace hS := hid (hS.out.callOwn hb hO).f1; clear hb hO hown))
  go_wp2
  go_loopw [2, 10, 11] (fun y o i wr => ∃ j : Nat, j ≤ N ∧ i = .int .i64 j ∧ St w.heap.size w [Asn.own w.heap.size 5 o (wb (imgW m l s gw (u.take j))), Asn.own w.heap.size 2 y (ints (secW m l s gw (u.take j))), Asn.mb 29 (w.heap.size + 1) I, Asn.mb 29 w.heap.size m] wr) (fun _ _ i _ => N - (intOf i).toNat)
  case atStart => exact ⟨0, Nat.zero_le _, rfl, hS.out⟩
  case round =>
    obtain ⟨j, hj, rfl, rS⟩ := hrel
    clear hS
    replace rS := hid rS
    by_cases hjN : j < N
    · have dc : decide ((j : Int) < (N : Int)) = true := decide_eq_true (by omega)
      have hx := hu.out _ (getD_mem u j (by rw [hN.out]; exact hjN))
      have hb := hbyte.out j (by omega)
      have htk := take_snoc' u j (by rw [hN.out]; exact hjN)
      have hsn := hid ((congrArg (fun t => secW m l s gw t) htk).trans (hse.out j (u.getD j 0)))
      have hin := hid ((congrArg (fun t => imgW m l s gw t) htk).trans (him.out j (u.getD j 0)))
      have hlk := hid (hil.out j hj)
      have hcl := hid (fun W v (h1 : Own W 0 2 v (ints (secW m l s gw (u.take j)))) => hle.out W v _ h1 (hnum.out j) (by rw [hsl.out j]; exact hgl) _ hx)
      have hlx := hlt.out j _ hx
      have e2 : ((u.getD j 0 : Nat) : Int) % 256 = (u.getD j 0 : Nat) := by omega
      have e4 : IntKind.u8.wrap ((u.getD j 0 : Nat) : Int) = (u.getD j 0 : Nat) := u8_in _ (by omega)
      clear htk
      generalize imgW m l s gw (u.take j) = im at *
      generalize secW m l s gw (u.take j) = se at *
      generalize u.getD j 0 = x at *
      have e1 : 48 + (x : Int) - 48 = x := by omega
      generalize hy : atX m l s se x = y at *
      replace hy := hid hy
      have e3 : (48 + (y : Int)) % 256 = 48 + y := by omega
      have j0 : (0 : Int) ≤ (j : Int) := Int.natCast_nonneg _
      have j1 : (j : Int) < (N : Int) := by omega
      go_upto_region 6 with (fail)
      replace rS := hid rS.out.drew
      refine wp_region_heldL (L := [(7, (fun w' : World => MB w' 29 w.heap.size m ∧ MB w' 29 (w.heap.size + 1) I))]) (by kernel_rfl) (HeldL.cons (fun _ => ⟨rS.out.m3, rS.out.m2⟩) HeldL.nil) (fun hHeld => ?_)
      generalize wr.drew = wa at *
      refine wpAnyL_takeP (i := 0) 7 [] (v := (.agg (mcells m))) (fun w' : World => MB w' 29 w.heap.size m ∧ MB w' 29 (w.heap.size + 1) I) rfl (by kernel_rfl) (by kernel_rfl) (by kernel_rfl) (by rfl) (by kernel_rfl) (by simp) (fun _ _ _ h => h) (Or.inl ⟨by rfl, ?_⟩) (by assumption) ?_
      · (intro W hW; exact exec_load _ rfl rfl (load_run hW.1))
      intro hHeld'
      clear hHeld; have hHeld := hHeld'; clear hHeld'
      try simp only [Act.put, List.getElem_toArray, List.getElem_cons_succ, List.getElem_cons_zero, List.setIfInBounds_toArray, List.set_cons_zero, List.set_cons_succ]
      refine wpAnyL_takeP (i := 1) 7 [] (v := (.agg (mcells I))) (fun w' : World => MB w' 29 w.heap.size m ∧ MB w' 29 (w.heap.size + 1) I) rfl (by kernel_rfl) (by kernel_rfl) (by kernel_rfl) (by rfl) (by kernel_rfl) (by simp) (fun _ _ _ h => h) (Or.inl ⟨by rfl, ?_⟩) (by assumption) ?_
      · (intro W hW; exact exec_load _ rfl rfl (load_run hW.2))
      intro hHeld'
      clear hHeld; have hHeld := hHeld'; clear hHeld'
      try simp only [Act.put, List.getElem_toArray, List.getElem_cons_succ, List.getElem_cons_zero, List.setIfInBounds_toArray, List.set_cons_zero, List.set_cons_succ]
      refine wpAnyL_take0 (i := 2) (v := ?_) rfl (by kernel_rfl) (by kernel_rfl) (by kernel_rfl) (by rfl) (fun _ _ _ h => h) (Or.inl ⟨by rfl, ?_⟩) (by assumption) ?_
      rotate_left
      · (intro W _; go_simp; (with_reducible rfl))
      intro hHeld'
      clear hHeld; have hHeld := hHeld'; clear hHeld'
      try simp only [Act.put, List.getElem_toArray, List.getElem_cons_succ, List.getElem_cons_zero, List.setIfInBounds_toArray, List.set_cons_zero, List.set_cons_succ]
      refine wpAnyL_take0 (i := 3) (v := ?_) rfl (by kernel_rfl) (by kernel_rfl) (by kernel_rfl) (by rfl) (fun _ _ _ h => h) (Or.inl ⟨by rfl, ?_⟩) (by assumption) ?_
      rotate_left
      · (intro W _; go_simp; (with_reducible rfl))
      intro hHeld'
      clear hHeld; have hHeld := hHeld'; clear hHeld'
      try simp only [Act.put, List.getElem_toArray, List.getElem_cons_succ, List.getElem_cons_zero, List.setIfInBounds_toArray, List.set_cons_zero, List.set_cons_succ]
      refine wpAnyL_take0 (i := 4) (v := ?_) rfl (by kernel_rfl) (by kernel_rfl) (by kernel_rfl) (by rfl) (fun _ _ _ h => h) (Or.inl ⟨by rfl, ?_⟩) (by assumption) ?_
      rotate_left
      · (intro W _; go_simp; (with_reducible rfl))
      intro hHeld'
      clear hHeld; have hHeld := hHeld'; clear hHeld'
      try simp only [Act.put, List.getElem_toArray, List.getElem_cons_succ, List.getElem_cons_zero, List.setIfInBounds_toArray, List.set_cons_zero, List.set_cons_succ]
      refine wpAnyL_take0 (i := 5) (v := ?_) rfl (by kernel_rfl) (by kernel_rfl) (by kernel_rfl) (by rfl) (fun _ _ _ h => h) (Or.inl ⟨by rfl, ?_⟩) (by assumption) ?_
      rotate_left
      · (intro W _; go_simp; (with_reducible rfl))
      intro hHeld'
      clear hHeld; have hHeld := hHeld'; clear hHeld'
      try simp only [Act.put, List.getElem_toArray, List.getElem_cons_succ, List.getElem_cons_zero, List.setIfInBounds_toArray, List.set_cons_zero, List.set_cons_succ]
      refine wpAnyL_take0 (i := 6) (v := ?_) rfl (by kernel_rfl) (by kernel_rfl) (by kernel_rfl) (by rfl) (fun _ _ _ h => h) (Or.inl ⟨by rfl, ?_⟩) (by assumption) ?_
      rotate_left
      · (intro W _; go_simp; (with_reducible rfl))
      intro hHeld'
      clear hHeld; have hHeld := hHeld'; clear hHeld'
      try simp only [Act.put, List.getElem_toArray, List.getElem_cons_succ, List.getElem_cons_zero, List.setIfInBounds_toArray, List.set_cons_zero, List.set_cons_succ]
      refine wpAnyL_ready (rs := [7]) (by kernel_rfl) (by simp) ?_
      refine AllReadyL.cons rfl (fun K hK => ?_) AllReadyL.nil
      go_simp
      (with_reducible refine (hcl.out _ _ (rS.out.o1.mono (Nat.zero_le _))).mono ?_)
      rintro e w3 ⟨v', rfl, hO, hb2⟩
      replace rS := hid (rS.out.callOwn hb2 hO)
      clear hb2 hO
      go_simp
      refine hK.out _ _ (HeldL.cons (fun h => absurd h (by decide +kernel)) HeldL.nil) (fun hHeld' => ?_)
      clear hK K hHeld; have hHeld := hHeld'; clear hHeld'
      try simp only [Act.put, List.getElem_toArray, List.getElem_cons_succ, List.getElem_cons_zero, List.setIfInBounds_toArray, List.set_cons_zero, List.set_cons_succ]
      refine wpAnyL_take0 (i := 8) (v := ?_) rfl (by kernel_rfl) (by kernel_rfl) (by kernel_rfl) (by rfl) (fun _ _ _ h => h) (Or.inl ⟨by rfl, ?_⟩) (by assumption) ?_
      rotate_left
      · (intro W _; go_simp; (with_reducible rfl))
      intro hHeld'
      clear hHeld; have hHeld := hHeld'; clear hHeld'
      try simp only [Act.put, List.getElem_toArray, List.getElem_cons_succ, List.getElem_cons_zero, List.setIfInBounds_toArray, List.set_cons_zero, List.set_cons_succ]
      refine wpAnyL_take0 (i := 9) (v := ?_) rfl (by kernel_rfl) (by kernel_rfl) (by kernel_rfl) (by rfl) (fun _ _ _ h => h) (Or.inl ⟨by rfl, ?_⟩) (by assumption) ?_
      rotate_left
      · (intro W _; go_simp; (with_reducible rfl))
      intro hHeld'
      clear hHeld; have hHeld := hHeld'; clear hHeld'
      try simp only [Act.put, List.getElem_toArray, List.getElem_cons_succ, List.getElem_cons_zero, List.setIfInBounds_toArray, List.set_cons_zero, List.set_cons_succ]
      refine wpAnyL_take0 (i := 10) (v := ?_) rfl (by kernel_rfl) (by kernel_rfl) (by kernel_rfl) (by rfl) (fun _ _ _ h => h) (Or.inl ⟨by rfl, ?_⟩) (by assumption) ?_
      rotate_left
      · (intro W _; go_simp; (with_reducible rfl))
      intro hHeld'
      clear hHeld; have hHeld := hHeld'; clear hHeld'
      try simp only [Act.put, List.getElem_toArray, List.getElem_cons_succ, List.getElem_cons_zero, List.setIfInBounds_toArray, List.set_cons_zero, List.set_cons_succ]
      refine wpAnyL_take0 (i := 11) (v := ?_) rfl (by kernel_rfl) (by kernel_rfl) (by kernel_rfl) (by rfl) (fun _ _ _ h => h) (Or.inl ⟨by rfl, ?_⟩) (by assumption) ?_
      rotate_left
      · (intro W _; go_simp; (with_reducible rfl))
      intro hHeld'
      clear hHeld; have hHeld := hHeld'; clear hHeld'
      try simp only [Act.put, List.getElem_toArray, List.getElem_cons_succ, List.getElem_cons_zero, List.setIfInBounds_toArray, List.set_cons_zero, List.set_cons_succ]
      refine wpAnyL_take0 (i := 12) (v := ?_) rfl (by kernel_rfl) (by kernel_rfl) (by kernel_rfl) (by rfl) (fun _ _ _ h => h) (Or.inl ⟨by rfl, ?_⟩) (by assumption) ?_
      rotate_left
      · (intro W _; go_simp; (with_reducible rfl))
      intro hHeld'
      clear hHeld; have hHeld := hHeld'; clear hHeld'
      try simp only [Act.put, List.getElem_toArray, List.getElem_cons_succ, List.getElem_cons_zero, List.setIfInBounds_toArray, List.set_cons_zero, List.set_cons_succ]
      refine wpAnyL_done (by kernel_rfl) ?_ _
      replace rS := hid rS.out.f1
      go_wp2_with (first
        | ((with_reducible refine gate (N := 38) rfl ?_); refine St.app 94 5 (.int .u8 0) 1 Try.underlying94 info_u8 rfl (by omega) rfl _ _ rfl _ _ rfl rS.out _ rfl rfl j hlk.out (by omega) ?_; intro gn cn w4 rS'; replace rS := hid rS'; clear rS'))
      rw [← wb_snoc, ← hin.out] at rS
      replace rS := hid rS.out.f2.drop
      go_roundw
      case rel => exact ⟨j + 1, by omega, by go_num, by rw [hsn.out]; exact rS.out⟩
      case measure => simp [intOf]; omega
    · obtain rfl : j = N := by omega
      have dc : decide ((j : Int) < (j : Int)) = false := decide_eq_false (by omega)
      have hconv := rS.out.o0.conv
      go_wp2
      go_ret2
      exact ⟨_, rfl, rS.out.o1, rS.out.bel⟩
end Go.Proofs.Ytgpjcekpmhfljaa

/- ImageOf and SectionOf: the reference's side. -/
namespace Go.Proofs.Ytgpjcekpmhfljaa
open Go.RowKit
set_option linter.unusedVariables false
set_option linter.unusedSimpArgs false
-- @LONG

end Go.Proofs.Ytgpjcekpmhfljaa

/- What a group word makes of a level: the program's ofWord and PermutationOf, the reference's l02Level, l04Code. -/
namespace Go.Proofs.Ytgpjcekpmhfljaa
open Go.RowKit
set_option linter.unusedVariables false
set_option linter.unusedSimpArgs false
-- @LONG

/-- What a group word makes of a level. -/
def permW (m : Mach) (l s : Nat) (g : List Int) (n : Nat) : List Nat := (List.range (pw l n)).map fun k => num l (imgW m l s g (wrd l n k))
theorem permW_length (m : Mach) (l s : Nat) (g : List Int) (n : Nat) : (permW m l s g n).length = pw l n := by simp [permW]
theorem permW_get (m : Mach) (l s : Nat) (g : List Int) (n k : Nat) (h : k < pw l n) : (permW m l s g n)[k]? = some (num l (imgW m l s g (wrd l n k))) := by simp [permW, h]

set_option maxHeartbeats 2000000 in
set_option maxRecDepth 100000 in
theorem permutation_ofWord (b1 b2 : Nat) (d n : Nat) (hd : 0 < d) (h3 : d ≤ 3) (hn : n ≤ 40) (hb : pw d n ≤ 100000) (w : World) (F : List Nat → List Nat)
    (hF : ∀ u, u.length = n → (∀ x ∈ u, x < d) → (F u).length = n ∧ ∀ x ∈ F u, x < d)
    (hf : ∀ W, Below w.heap.size w W → ∀ u, u.length = n → (∀ x ∈ u, x < d) → Calls Try.prog 136 #[.string (wstr u), .pointer (some ⟨b1, 0, none⟩), .pointer (some ⟨b2, 0, none⟩)] W fun e W' => e = .returned (.string (wstr (F u))) ∧ Below W.heap.size W W') :
    Calls Try.prog 89 #[.int .i64 d, .int .i64 n, .func (.func 136) #[] #[.pointer (some ⟨b1, 0, none⟩), .pointer (some ⟨b2, 0, none⟩)]] w fun e w' => ∃ v, e = .returned v ∧ Own w' w.heap.size 2 v (rng (fun k => num d (F (wrd d n k))) (pw d n)) ∧ Below w.heap.size w w' := by
  have hl := hid (level_any d n hd h3 hn hb w)
  have hpos := pw_pos d hd n
  have hwl := hid (fun k => wrd_length d n k)
  have hwm := hid (fun k => wrd_lt d hd n k)
  have hFo := hid (fun k => hF (wrd d n k) (wrd_length d n k) (wrd_lt d hd n k))
  have hnum := hid (fun k W => numberOf_any d hd h3 (F (wrd d n k)) (hFo.out k).2 (by rw [(hFo.out k).1]; omega) (by rw [(hFo.out k).1]; omega) W)
  replace hf := hid hf
  clear hF
  generalize hM : pw d n = M at *
  go_enter Try.func89, Try.ntmps89
  go_wp2_with (first
    | (go_at_call 118; (with_reducible refine (hl.out).mono ?_); rintro e w1 ⟨v, rfl, hO, hB⟩; obtain ⟨g, cap, rfl, hg1, hg2⟩ := hO.blk (fun e => by have := lvl_length d n M; rw [e] at this; simp at this; omega); have hll := lvl_length d n M; rw [hll] at hO; rw [hll]; clear hll; replace hO := hid hO; replace hB := hid hB; clear hl))
  go_loopw [7, 14] (fun v i wr => ∃ k : Nat, k ≤ M ∧ i = .int .i64 k ∧ Own wr w1.heap.size 2 v (rng (fun k => num d (F (wrd d n k))) k) ∧ Below w1.heap.size w1 wr) (fun _ i _ => M - (intOf i).toNat)
  case atStart => exact ⟨0, Nat.zero_le _, rfl, Own.nil _ _ _, Below.refl _ _⟩
  case round =>
    obtain ⟨k, hk, rfl, r1, rB⟩ := hrel
    have hll := hid (rng_length (fun k => num d (F (wrd d n k))) k)
    replace r1 := hid r1; replace rB := hid rB
    by_cases hlt : k < M
    · have dk : decide ((k : Int) < (M : Int)) = true := decide_eq_true (by omega)
      have hsn := hid (rng_snoc (fun k => num d (F (wrd d n k))) k)
      have ck := (hO.out.below rB.out).cellAt k _ (lvl_get d n M k hlt)
      have hBw := hid (hB.out.trans (rB.out.mono hB.out.size))
      go_wp2_with (first
        | (go_at_call 136; (with_reducible refine (hf.out _ hBw.out _ (hwl.out k) (hwm.out k)).mono ?_); rintro e w2 ⟨rfl, hb1⟩; replace r1 := hid (r1.out.below hb1); replace rB := hid (rB.out.trans (hb1.mono rB.out.size)); clear hb1 ck hBw)
        | (go_at_call 119; (with_reducible refine (hnum.out k _).mono ?_); rintro e w3 ⟨rfl, rfl⟩)
        | ((with_reducible refine gate (N := 25) rfl ?_); refine app1 34 2 (.int .i64 0) 8 Try.underlying34 info_i64 rfl (by omega) rfl _ _ rfl w1.heap.size _ _ rfl r1.out rB.out.size _ rfl rfl (by have := hll.out; omega) ?_; intro gn cap w2 hO2 hb2 hold hsz2 _; replace hO2 := hid hO2; have tB := hid (rB.out.trans hb2); clear hb2 hold hsz2 r1 rB))
      go_roundw
      case rel => exact ⟨k + 1, by omega, by go_num, by rw [hsn.out]; exact hO2.out, tB.out⟩
      case measure => simp [intOf]; omega
    · obtain rfl : k = M := by omega
      go_wp2
      go_ret
      exact ⟨_, rfl, r1.out.mono hB.out.size, hB.out.trans (rB.out.mono hB.out.size)⟩
set_option maxHeartbeats 2000000 in
set_option maxRecDepth 100000 in
theorem ofWord1_any (w : World) (G : Nat) (m : Mach) (l s : Nat) (gd : Good m l s) (v1 v2 : Value) (hG : GM w G m l s v1 v2) (base : Nat) (v : Value) (g : List Int) (hg : Own w base 2 v (ints g)) (hn : ∀ k ∈ g, isNum s k) (hgl : g.length ≤ 1000) (u : List Nat) (hu : ∀ x ∈ u, x < l) (hlen : u.length ≤ 1000)
    (b1 b2 : Nat) (h1 : w.cell? ⟨b1, 0, none⟩ = some (.pointer (some ⟨G, 0, none⟩))) (h2 : w.cell? ⟨b2, 0, none⟩ = some v) :
    Calls Try.prog 136 #[.string (wstr u), .pointer (some ⟨b1, 0, none⟩), .pointer (some ⟨b2, 0, none⟩)] w fun e w' => e = .returned (.string (wstr (imgW m l s g u))) ∧ Below w.heap.size w w' := by
  have hl := hid (image_any w G m l s gd v1 v2 hG base v g hg hn hgl u hu hlen)
  obtain ⟨A, c, rfl, _, _⟩ := hg.form
  clear hG hg
  go_enter Try.func136, Try.ntmps136
  go_wp2_with (first
    | (go_at_call 137; (with_reducible refine (hl.out).mono ?_); rintro e w1 ⟨v', rfl, _, hb⟩; replace hb := hid hb))
  go_ret
  exact ⟨rfl, hb.out⟩

set_option maxHeartbeats 2000000 in
set_option maxRecDepth 100000 in
theorem ofWord_any (w : World) (G : Nat) (m : Mach) (l s : Nat) (gd : Good m l s) (v1 v2 : Value) (hG : GM w G m l s v1 v2) (base : Nat) (v : Value) (g : List Int) (hg : Own w base 2 v (ints g)) (hgn : ∀ k ∈ g, isNum s k) (hgl : g.length ≤ 1000) (n : Nat) (hn : n ≤ 40) (hb : pw l n ≤ 100000) :
    Calls Try.prog 103 #[.pointer (some ⟨G, 0, none⟩), v, .int .i64 n] w fun e w' => ∃ v', e = .returned v' ∧ Own w' w.heap.size 2 v' (nats (permW m l s g n)) ∧ Below w.heap.size w w' := by
  obtain ⟨A, c, rfl, _, _⟩ := hg.form
  rw [ints_length] at hg ⊢
  have hS := ((St.start w).newBlk #[.pointer (some ⟨G, 0, none⟩)] 115).newBlk #[.slice A g.length c] 34
  rw [heap_alloc_size] at hS
  have cL := (hG.below (hS.bel)).cL
  rw [gd.L] at cL
  have l2 := gd.l2; have l3 := gd.l3
  have hsz : ((w.alloc (.cells #[.pointer (some ⟨G, 0, none⟩)] 115)).alloc (.cells #[.slice A g.length c] 34)).heap.size = w.heap.size + 2 := by rw [heap_alloc_size, heap_alloc_size]
  have hper := hid (permutation_ofWord w.heap.size (w.heap.size + 1) l n (by omega) l3 hn hb ((w.alloc (.cells #[.pointer (some ⟨G, 0, none⟩)] 115)).alloc (.cells #[.slice A g.length c] 34)) (fun u => imgW m l s g u) (fun u hu hx => ⟨(imgW_length u g).trans hu, imgW_lt gd u g hgn hx⟩)
    (fun W hW u hu hx => ofWord1_any W G m l s gd v1 v2 (hG.below (hS.call hW).bel) base (.slice A g.length c) g (hg.below (hS.call hW).bel) hgn hgl u hx (by omega) w.heap.size (w.heap.size + 1) (cell_of_row _ _ 0 _ _ _ (hS.call hW).k1) (cell_of_row _ _ 0 _ _ _ (hS.call hW).k0)))
  have hres := hid (show rng (fun k => num l (imgW m l s g (wrd l n k))) (pw l n) = nats (permW m l s g n) from rfl)
  have c1 := cell_of_row _ _ 0 _ _ _ hS.k1
  replace hS := hid hS
  clear hsz
  replace hG := hid hG; replace gd := hid gd; replace hg := hid hg; replace hgn := hid hgn
  have hmf : ∀ (fn : Fn) (first cap : Array Value) (w : World), (Instr.makeFunc fn first cap).run Try.prog w = .ok (.func fn first cap) w := fun _ _ _ _ => rfl
  go_enter Try.func103, Try.ntmps103
  go_wp2_with (first
    | (go_at_call 89; (with_reducible refine (hper.out).mono ?_); rintro e w1 ⟨v', rfl, hO, hb⟩; replace hO := hid (hO.mono hS.out.le); replace hS := hid (hS.out.call hb)))
  go_ret
  exact ⟨_, rfl, by rw [← hres.out]; exact hO.out, hS.out.bel⟩
theorem pw_five {l n : Nat} (l2 : 2 ≤ l) (l3 : l ≤ 3) (hn : n ≤ 5) : pw l n ≤ 243 := by
  have hl : l = 2 ∨ l = 3 := by omega
  have h5 : n = 0 ∨ n = 1 ∨ n = 2 ∨ n = 3 ∨ n = 4 ∨ n = 5 := by omega
  rcases hl with rfl | rfl <;> rcases h5 with h | h | h | h | h | h <;> subst h <;> decide
open Classical in
/-- What PermutationOf answers. -/
noncomputable def polAns (m : Mach) (g : List Int) (n : Int) : List Nat × Int := if IsGw m g then (if 0 ≤ n ∧ n ≤ 5 then (permW m m.L.toNat m.S.toNat g n.toNat, 0) else ([], 2)) else ([], 1)
section
variable {m : Mach} {l s : Nat} {g : List Int}
theorem polAns_1 {n : Int} (h : ¬ IsGw m g) : polAns m g n = ([], 1) := by unfold polAns; rw [if_neg h]
theorem polAns_2 {n : Int} (h : IsGw m g) (hn : ¬ (0 ≤ n ∧ n ≤ 5)) : polAns m g n = ([], 2) := by unfold polAns; rw [if_pos h, if_neg hn]
theorem polAns_0 {n : Nat} (gd : Good m l s) (h : IsGw m g) (hn : n ≤ 5) : polAns m g (n : Int) = (permW m l s g n, 0) := by unfold polAns; rw [if_pos h, if_pos (by omega), gd.L, gd.S]; rfl
theorem polAns_len (m : Mach) (g : List Int) (n : Int) : (polAns m g n).1.length ≤ 243 := by
  by_cases h : IsGw m g
  · by_cases hn : 0 ≤ n ∧ n ≤ 5
    · obtain ⟨l, s, gd⟩ := h.1.good
      obtain ⟨k, rfl⟩ := Int.eq_ofNat_of_zero_le hn.1
      rw [polAns_0 gd h (by omega), permW_length]
      exact pw_five gd.l2 gd.l3 (by omega)
    · rw [polAns_2 h hn]; exact Nat.zero_le _
  · rw [polAns_1 h]; exact Nat.zero_le _
end
set_option maxHeartbeats 2000000 in
set_option maxRecDepth 4000 in
theorem implPol_any (w : World) (m : Mach) (hkm : m.Ok) (b0 : Nat) (v : Value) (g : List Int) (hg : Own w b0 2 v (ints g)) (hl : g.length < 2000000) (n : Int) :
    Calls Try.prog 66 #[.agg (mcells m), v, .int .i64 n] w fun e w' => ∃ v', e = .returned (.tuple #[v', .int .i64 (polAns m g n).2]) ∧ Own w' w.heap.size 2 v' (nats (polAns m g n).1) ∧ Below w.heap.size w w' := by
  obtain ⟨A0, cp0, rfl, _, _⟩ := hg.form
  rw [ints_length] at hg ⊢
  have hS := hid ((St.arg w hg).newMB m 29)
  have hown := hid (hS.out.newOwn [(Value.slice A0 g.length cp0)] 34 (by simp))
  simp only [heap_alloc_size, List.length_cons, List.length_nil, Nat.zero_add] at hown
  by_cases hbad : ¬ IsGw m g
  · rw [polAns_1 hbad]
    have hgo := hid (fun W b vv (hO : Own W b 34 vv [(Value.slice A0 g.length cp0)]) (hr : Own W b 2 (Value.slice A0 g.length cp0) (ints g)) => groupOf_n W m hkm b vv [g] (mat_one hO hr) (by simp) (by simp; omega) (.inr ⟨g, by simp, hbad⟩))
    replace hkm := hid hkm; replace hg := hid hg; replace hbad := hid hbad
    go_enter Try.func66, Try.ntmps66
    go_wp2_with (first
      | ((with_reducible refine gate (N := 11) rfl ?_); refine load_mach rfl _ rfl w.heap.size rfl m hS.out.m0 ?_)
      | (go_at_call 102; (with_reducible refine (hgo.out _ _ _ (hown.out.o0.mono (Nat.zero_le _)) hown.out.o2).mono ?_); rintro e w1 ⟨rfl, hb⟩; replace hS := hid (hown.out.call hb); clear hgo hown; clear hb))
    go_ret2
    exact ⟨_, rfl, Own.nil _ _ _, hS.out.bel⟩
  · have hgw := Classical.not_not.1 hbad
    obtain ⟨l, s, gd⟩ := hgw.1.good
    obtain ⟨hgl, hgn⟩ := hgw.parts gd
    have hgo := hid (fun W b vv (hO : Own W b 34 vv [(Value.slice A0 g.length cp0)]) (hr : Own W b 2 (Value.slice A0 g.length cp0) (ints g)) => groupOf_y W m hkm b vv [g] (mat_one hO hr) (by simp) (by simp; omega) l s gd (by simp; exact hgw))
    by_cases hn : 0 ≤ n ∧ n ≤ 5
    · obtain ⟨n, rfl⟩ := Int.eq_ofNat_of_zero_le hn.1
      rw [polAns_0 gd hgw (by omega)]
      have hp5 := pw_five gd.l2 gd.l3 (show n ≤ 5 by omega)
      have hwi := hid (fun W => within_any (n : Int) 0 5 true (decide_eq_true hn).symm W)
      have how := hid (fun W G v1 v2 (hG : GM W G m l s v1 v2) (hO : Own W 0 2 (Value.slice A0 g.length cp0) (ints g)) => ofWord_any W G m l s gd v1 v2 hG 0 (Value.slice A0 g.length cp0) g hO hgn (by omega) n (by omega) (by omega))
      replace hkm := hid hkm; replace hg := hid hg; replace hgw := hid hgw; replace gd := hid gd; replace hgn := hid hgn
      clear hbad
      generalize permW m l s g n = ans at *
      go_enter Try.func66, Try.ntmps66
      go_wp2_with (first
        | ((with_reducible refine gate (N := 11) rfl ?_); refine load_mach rfl _ rfl w.heap.size rfl m hS.out.m0 ?_)
        | (go_at_call 102; (with_reducible refine (hgo.out _ _ _ (hown.out.o0.mono (Nat.zero_le _)) hown.out.o2).mono ?_); rintro e w1 ⟨G, v1, v2, rfl, hle, hGB, hb⟩; have hGM := hid hGB.gm; replace hS := hid (hown.out.call hb); clear hgo hb hGB hle hown)
        | (go_at_call 73; (with_reducible refine (hwi.out _).mono ?_); rintro e w' ⟨rfl, rfl⟩)
        | (go_at_call 103; (with_reducible refine (how.out _ _ _ _ hGM.out hS.out.o2).mono ?_); rintro e w2 ⟨v', rfl, hO, hb⟩; replace hS := hid (hS.out.callOwn hb hO); clear hb hO))
      go_ret2
      exact ⟨_, rfl, hS.out.o0, hS.out.bel⟩
    · rw [polAns_2 hgw hn]
      have hwi := hid (fun W => within_any n 0 5 false (decide_eq_false hn).symm W)
      replace hkm := hid hkm; replace hg := hid hg; replace hgw := hid hgw; replace gd := hid gd; replace hgn := hid hgn; replace hn := hid hn
      clear hbad
      go_enter Try.func66, Try.ntmps66
      go_wp2_with (first
        | ((with_reducible refine gate (N := 11) rfl ?_); refine load_mach rfl _ rfl w.heap.size rfl m hS.out.m0 ?_)
        | (go_at_call 102; (with_reducible refine (hgo.out _ _ _ (hown.out.o0.mono (Nat.zero_le _)) hown.out.o2).mono ?_); rintro e w1 ⟨G, v1, v2, rfl, hle, hGB, hb⟩; replace hS := hid (hown.out.call hb); clear hgo hb hGB hle hown)
        | (go_at_call 73; (with_reducible refine (hwi.out _).mono ?_); rintro e w' ⟨rfl, rfl⟩))
      go_ret2
      exact ⟨_, rfl, Own.nil _ _ _, hS.out.bel⟩
set_option maxHeartbeats 2000000 in
set_option maxRecDepth 4000 in
theorem l04Code_any (w : World) (m : Mach) (hkm : m.Ok) (b0 : Nat) (v : Value) (g : List Int) (hg : Own w b0 2 v (ints g)) (hl : g.length < 2000000) (n : Int) :
    Calls Try.prog 63 #[.agg (mcells m), v, .int .i64 n] w fun e w' => e = .returned (.int .i64 (polAns m g n).2) ∧ Below w.heap.size w w' := by
  obtain ⟨A0, cp0, rfl, _, _⟩ := hg.form
  rw [ints_length] at hg ⊢
  have hS := hid ((St.arg w hg).newMB m 29)
  have hown := hid (hS.out.newOwn [(Value.slice A0 g.length cp0)] 34 (by simp))
  simp only [heap_alloc_size, List.length_cons, List.length_nil, Nat.zero_add] at hown
  have hco := hid (fun W b vv (hO : Own W b 34 vv [(Value.slice A0 g.length cp0)]) (hr : Own W b 2 (Value.slice A0 g.length cp0) (ints g)) => l02Code_any W m hkm b vv [g] (mat_one hO hr) (by simp) (by simp; omega))
  by_cases hgw : IsGw m g
  · rw [codG_y hgw] at hco
    obtain ⟨l, s, gd⟩ := hgw.1.good
    by_cases hn : 0 ≤ n ∧ n ≤ 5
    · have hA : (polAns m g n).2 = 0 := by
        obtain ⟨n, rfl⟩ := Int.eq_ofNat_of_zero_le hn.1
        rw [polAns_0 gd hgw (by omega)]
      rw [hA]
      have hwi := hid (fun W => l01In_any n 0 5 true (decide_eq_true hn).symm W)
      replace hkm := hid hkm; replace hg := hid hg; replace hgw := hid hgw; replace gd := hid gd; replace hn := hid hn
      clear hA
      go_enter Try.func63, Try.ntmps63
      go_wp2_with (first
        | ((with_reducible refine gate (N := 8) rfl ?_); refine load_mach rfl _ rfl w.heap.size rfl m hS.out.m0 ?_)
        | (go_at_call 100; (with_reducible refine (hco.out _ _ _ (hown.out.o0.mono (Nat.zero_le _)) hown.out.o2).mono ?_); rintro e w1 ⟨rfl, hb⟩; replace hS := hid (hown.out.call hb).drop; clear hco hown; clear hb)
        | (go_at_call 55; (with_reducible refine (hwi.out _).mono ?_); rintro e w' ⟨rfl, rfl⟩))
      go_ret
      exact ⟨rfl, hS.out.bel⟩
    · rw [polAns_2 hgw hn]
      have hwi := hid (fun W => l01In_any n 0 5 false (decide_eq_false hn).symm W)
      replace hkm := hid hkm; replace hg := hid hg; replace hgw := hid hgw; replace gd := hid gd; replace hn := hid hn
      go_enter Try.func63, Try.ntmps63
      go_wp2_with (first
        | ((with_reducible refine gate (N := 8) rfl ?_); refine load_mach rfl _ rfl w.heap.size rfl m hS.out.m0 ?_)
        | (go_at_call 100; (with_reducible refine (hco.out _ _ _ (hown.out.o0.mono (Nat.zero_le _)) hown.out.o2).mono ?_); rintro e w1 ⟨rfl, hb⟩; replace hS := hid (hown.out.call hb).drop; clear hco hown; clear hb)
        | (go_at_call 55; (with_reducible refine (hwi.out _).mono ?_); rintro e w' ⟨rfl, rfl⟩))
      go_ret
      exact ⟨rfl, hS.out.bel⟩
  · rw [polAns_1 hgw]
    rw [codG_n hgw] at hco
    replace hkm := hid hkm; replace hg := hid hg; replace hgw := hid hgw
    go_enter Try.func63, Try.ntmps63
    go_wp2_with (first
      | ((with_reducible refine gate (N := 8) rfl ?_); refine load_mach rfl _ rfl w.heap.size rfl m hS.out.m0 ?_)
      | (go_at_call 100; (with_reducible refine (hco.out _ _ _ (hown.out.o0.mono (Nat.zero_le _)) hown.out.o2).mono ?_); rintro e w1 ⟨rfl, hb⟩; replace hS := hid (hown.out.call hb).drop; clear hco hown; clear hb))
    go_ret
    exact ⟨rfl, hS.out.bel⟩
end Go.Proofs.Ytgpjcekpmhfljaa

/- What a group word makes of a level: the reference's l02Level. -/
namespace Go.Proofs.Ytgpjcekpmhfljaa
open Go.RowKit
set_option linter.unusedVariables false
set_option linter.unusedSimpArgs false
-- @LONG

set_option maxHeartbeats 4000000 in
set_option maxRecDepth 100000 in
theorem l02Level_any (w : World) (m : Mach) (hkm : m.Ok) (l s : Nat) (gd : Good m l s) (base : Nat) (v : Value) (g : List Int) (hg : Own w base 2 v (ints g)) (hgn : ∀ k ∈ g, isNum s k) (hgl : g.length ≤ 1000) (n : Nat) (hn : n ≤ 40) (hb : pw l n ≤ 100000) :
    Calls Try.prog 64 #[.agg (mcells m), v, .int .i64 n] w fun e w' => ∃ v', e = .returned v' ∧ Own w' w.heap.size 2 v' (nats (permW m l s g n)) ∧ Below w.heap.size w w' := by
  have hz := zero_mach
  have hS := hid ((St.arg w hg).newMB m 29)
  have hres := hid (show rng (fun k => num l (imgW m l s g (wrd l n k))) (pw l n) = nats (permW m l s g n) from rfl)
  have l2 := gd.l2; have l3 := gd.l3
  have gL := hid gd.L
  have hiv := hid (fun W => l01Inverse_any W m l s gd hkm)
  have hpw := hid (fun W => l01Power_any l n (by omega) (by omega) (by omega) W)
  have hwo := hid (fun k (hk : k < pw l n) W => l01WordOf_any l (by omega) l3 n k hn (by omega) W)
  have hact := hid (fun k W (hO : Own W 0 2 v (ints g)) => l02Act_any W m l s gd 0 v g hO hgn hgl (wrd l n k) (wrd_lt l (by omega) n k) (by rw [wrd_length]; omega))
  have him := hid (fun k => imgW_lt gd (wrd l n k) g hgn (wrd_lt l (by omega) n k))
  have hil := hid (fun k => (imgW_length (m := m) (l := l) (s := s) (wrd l n k) g).trans (wrd_length l n k))
  have hnum := hid (fun k W => l01NumberOf_any l (by omega) l3 (imgW m l s g (wrd l n k)) (him.out k) (by rw [hil.out k]; omega) (by rw [hil.out k]; omega) W)
  have hz2 := hid (fun L W (h : St w.heap.size w L W) => (h.newOwn [] 2 (by simp)).newMB ⟨0, 0, fun _ => 0, fun _ => 0⟩ 29)
  simp only [heap_alloc_size, List.length_nil] at hz2
  clear him hil
  replace gd := hid gd; replace hg := hid hg; replace hkm := hid hkm; replace hgn := hid hgn
  generalize inv m l s = I at *
  generalize hMn : pw l n = M at *
  generalize mcells ⟨0, 0, fun _ => 0, fun _ => 0⟩ = zs at *
  go_enter Try.func64, Try.ntmps64
  go_upto_region 2 with (first
    | ((with_reducible refine gate (N := 12) rfl ?_); refine load_mach rfl _ rfl w.heap.size rfl m hS.out.m0 ?_)
    | (go_at_call 68; (with_reducible refine (hiv.out _).mono ?_); rintro e w2 ⟨rfl, hb⟩; have hle2 := hid (hS.out.call hb).le; replace hS := hid (hz2.out _ _ (hS.out.call hb)); clear hiv; clear hb)
    | ((with_reducible refine gateOp (op := .store 29 (.tmp 7) (.tmp 13)) rfl ?_); refine store_mach rfl _ _ rfl (w2.heap.size + 1) rfl I rfl 29 _ hS.out.m0 ?_; intro W2 p3 ho hsz hbl; replace hS := hid (hS.out.setM (Nat.le_succ_of_le hle2.out) p3 ho hbl); clear p3 ho hsz hbl))
  generalize w2.heap.size + 1 = b7 at *
  generalize w2.heap.size = b8 at *
  go_wp2
  replace hS := hid hS.out.f1
  go_loopw [8, 9] (fun o i wr => ∃ k : Nat, k ≤ M ∧ i = .int .i64 k ∧ St w.heap.size w [Asn.own w.heap.size 2 o (rng (fun k => num l (imgW m l s g (wrd l n k))) k), Asn.mb 29 b7 I, Asn.mb 29 w.heap.size m, Asn.own 0 2 v (ints g)] wr) (fun _ i _ => M - (intOf i).toNat)
  case atStart => exact ⟨0, Nat.zero_le _, rfl, hS.out⟩
  case round =>
    obtain ⟨k, hk, rfl, rS⟩ := hrel
    clear hS
    have hll := hid (rng_length (fun k => num l (imgW m l s g (wrd l n k))) k)
    have cL := rS.m2.cL
    rw [gL.out] at cL
    replace rS := hid rS
    by_cases hlt : k < M
    · have dk : decide ((k : Int) < (M : Int)) = true := decide_eq_true (by omega)
      have hsn := hid (rng_snoc (fun k => num l (imgW m l s g (wrd l n k))) k)
      have hac := hid (hact.out k)
      have hwk := hid (hwo.out k hlt)
      have hnk := hid (hnum.out k)
      generalize num l (imgW m l s g (wrd l n k)) = nk at *
      generalize secW m l s g (wrd l n k) = se at *
      generalize wstr (imgW m l s g (wrd l n k)) = iw at *
      generalize wstr (wrd l n k) = wk at *
      go_upto_region 5 with (first
        | (go_at_call 67; (with_reducible refine (hpw.out _).mono ?_); rintro e w' ⟨rfl, rfl⟩))
      replace rS := hid rS.out.drew
      refine wp_region_heldL (L := [(8, (fun w' : World => MB w' 29 w.heap.size m ∧ MB w' 29 b7 I ∧ w'.cell? ⟨w.heap.size, 0, none⟩ = some (.int .i64 (l : Int))))]) (by kernel_rfl) (HeldL.cons (fun _ => ⟨rS.out.m2, rS.out.m1, cL⟩) HeldL.nil) (fun hHeld => ?_)
      clear cL
      generalize wr.drew = wa at *
      refine wpAnyL_takeP (i := 0) 8 [] (v := (.agg (mcells m))) (fun w' : World => MB w' 29 w.heap.size m ∧ MB w' 29 b7 I ∧ w'.cell? ⟨w.heap.size, 0, none⟩ = some (.int .i64 (l : Int))) rfl (by kernel_rfl) (by kernel_rfl) (by kernel_rfl) (by rfl) (by kernel_rfl) (by simp) (fun _ _ _ h => h) (Or.inl ⟨by rfl, ?_⟩) (by assumption) ?_
      · (intro W hW; exact exec_load _ rfl rfl (load_run hW.1))
      intro hHeld'
      clear hHeld; have hHeld := hHeld'; clear hHeld'
      try simp only [Act.put, List.getElem_toArray, List.getElem_cons_succ, List.getElem_cons_zero, List.setIfInBounds_toArray, List.set_cons_zero, List.set_cons_succ]
      refine wpAnyL_takeP (i := 1) 8 [] (v := (.agg (mcells I))) (fun w' : World => MB w' 29 w.heap.size m ∧ MB w' 29 b7 I ∧ w'.cell? ⟨w.heap.size, 0, none⟩ = some (.int .i64 (l : Int))) rfl (by kernel_rfl) (by kernel_rfl) (by kernel_rfl) (by rfl) (by kernel_rfl) (by simp) (fun _ _ _ h => h) (Or.inl ⟨by rfl, ?_⟩) (by assumption) ?_
      · (intro W hW; exact exec_load _ rfl rfl (load_run hW.2.1))
      intro hHeld'
      clear hHeld; have hHeld := hHeld'; clear hHeld'
      try simp only [Act.put, List.getElem_toArray, List.getElem_cons_succ, List.getElem_cons_zero, List.setIfInBounds_toArray, List.set_cons_zero, List.set_cons_succ]
      refine wpAnyL_take0 (i := 2) (v := ?_) rfl (by kernel_rfl) (by kernel_rfl) (by kernel_rfl) (by rfl) (fun _ _ _ h => h) (Or.inl ⟨by rfl, ?_⟩) (by assumption) ?_
      rotate_left
      · (intro W _; go_simp; (with_reducible rfl))
      intro hHeld'
      clear hHeld; have hHeld := hHeld'; clear hHeld'
      try simp only [Act.put, List.getElem_toArray, List.getElem_cons_succ, List.getElem_cons_zero, List.setIfInBounds_toArray, List.set_cons_zero, List.set_cons_succ]
      refine wpAnyL_take0 (i := 3) (v := ?_) rfl (by kernel_rfl) (by kernel_rfl) (by kernel_rfl) (by rfl) (fun _ _ _ h => h) (Or.inl ⟨by rfl, ?_⟩) (by assumption) ?_
      rotate_left
      · (intro W _; go_simp; (with_reducible rfl))
      intro hHeld'
      clear hHeld; have hHeld := hHeld'; clear hHeld'
      try simp only [Act.put, List.getElem_toArray, List.getElem_cons_succ, List.getElem_cons_zero, List.setIfInBounds_toArray, List.set_cons_zero, List.set_cons_succ]
      refine wpAnyL_takeP (i := 4) 8 [7] (v := ?_) (fun w' : World => MB w' 29 w.heap.size m ∧ MB w' 29 b7 I ∧ w'.cell? ⟨w.heap.size, 0, none⟩ = some (.int .i64 (l : Int))) rfl (by kernel_rfl) (by kernel_rfl) (by kernel_rfl) (by rfl) (by kernel_rfl) (by simp) (fun _ _ _ h => h) (Or.inl ⟨by rfl, ?_⟩) (by assumption) ?_
      rotate_left
      · (intro W hW; (obtain ⟨_, _, hW⟩ := hW); go_simp; (with_reducible rfl))
      intro hHeld'
      clear hHeld; have hHeld := hHeld'; clear hHeld'
      try simp only [Act.put, List.getElem_toArray, List.getElem_cons_succ, List.getElem_cons_zero, List.setIfInBounds_toArray, List.set_cons_zero, List.set_cons_succ]
      refine wpAnyL_take0 (i := 5) (v := ?_) rfl (by kernel_rfl) (by kernel_rfl) (by kernel_rfl) (by rfl) (fun _ _ _ h => h) (Or.inl ⟨by rfl, ?_⟩) (by assumption) ?_
      rotate_left
      · (intro W _; go_simp; (with_reducible rfl))
      intro hHeld'
      clear hHeld; have hHeld := hHeld'; clear hHeld'
      try simp only [Act.put, List.getElem_toArray, List.getElem_cons_succ, List.getElem_cons_zero, List.setIfInBounds_toArray, List.set_cons_zero, List.set_cons_succ]
      refine wpAnyL_take0 (i := 6) (v := ?_) rfl (by kernel_rfl) (by kernel_rfl) (by kernel_rfl) (by rfl) (fun _ _ _ h => h) (Or.inl ⟨by rfl, ?_⟩) (by assumption) ?_
      rotate_left
      · (intro W _; go_simp; (with_reducible rfl))
      intro hHeld'
      clear hHeld; have hHeld := hHeld'; clear hHeld'
      try simp only [Act.put, List.getElem_toArray, List.getElem_cons_succ, List.getElem_cons_zero, List.setIfInBounds_toArray, List.set_cons_zero, List.set_cons_succ]
      refine wpAnyL_ready (rs := [7]) (by kernel_rfl) (by simp) ?_
      refine AllReadyL.cons rfl (fun K hK => ?_) AllReadyL.nil
      go_simp
      (with_reducible refine (hwk.out _).mono ?_)
      rintro e w3 ⟨rfl, hb⟩
      replace rS := hid (rS.out.call hb)
      clear hb
      go_simp
      have cL := rS.out.m2.cL
      rw [gL.out] at cL
      refine hK.out _ _ (HeldL.cons (fun _ => ⟨rS.out.m2, rS.out.m1, cL⟩) HeldL.nil) (fun hHeld' => ?_)
      clear hK K hHeld; have hHeld := hHeld'; clear hHeld'
      try simp only [Act.put, List.getElem_toArray, List.getElem_cons_succ, List.getElem_cons_zero, List.setIfInBounds_toArray, List.set_cons_zero, List.set_cons_succ]
      clear cL
      refine wpAnyL_ready (rs := [8]) (by kernel_rfl) (by simp) ?_
      refine AllReadyL.cons rfl (fun K hK => ?_) AllReadyL.nil
      go_simp
      (with_reducible refine (hac.out _ rS.out.o3).mono ?_)
      rintro e w4 ⟨v', rfl, hO, hb⟩
      replace rS := hid (rS.out.call hb)
      clear hb hO
      go_simp
      refine hK.out _ _ (HeldL.cons (fun h => absurd h (by decide +kernel)) HeldL.nil) (fun hHeld' => ?_)
      clear hK K hHeld; have hHeld := hHeld'; clear hHeld'
      try simp only [Act.put, List.getElem_toArray, List.getElem_cons_succ, List.getElem_cons_zero, List.setIfInBounds_toArray, List.set_cons_zero, List.set_cons_succ]
      refine wpAnyL_take0 (i := 9) (v := ?_) rfl (by kernel_rfl) (by kernel_rfl) (by kernel_rfl) (by rfl) (fun _ _ _ h => h) (Or.inl ⟨by rfl, ?_⟩) (by assumption) ?_
      rotate_left
      · (intro W _; go_simp; (with_reducible rfl))
      intro hHeld'
      clear hHeld; have hHeld := hHeld'; clear hHeld'
      try simp only [Act.put, List.getElem_toArray, List.getElem_cons_succ, List.getElem_cons_zero, List.setIfInBounds_toArray, List.set_cons_zero, List.set_cons_succ]
      refine wpAnyL_take0 (i := 10) (v := ?_) rfl (by kernel_rfl) (by kernel_rfl) (by kernel_rfl) (by rfl) (fun _ _ _ h => h) (Or.inl ⟨by rfl, ?_⟩) (by assumption) ?_
      rotate_left
      · (intro W _; go_simp; (with_reducible rfl))
      intro hHeld'
      clear hHeld; have hHeld := hHeld'; clear hHeld'
      try simp only [Act.put, List.getElem_toArray, List.getElem_cons_succ, List.getElem_cons_zero, List.setIfInBounds_toArray, List.set_cons_zero, List.set_cons_succ]
      refine wpAnyL_take0 (i := 11) (v := ?_) rfl (by kernel_rfl) (by kernel_rfl) (by kernel_rfl) (by rfl) (fun _ _ _ h => h) (Or.inl ⟨by rfl, ?_⟩) (by assumption) ?_
      rotate_left
      · (intro W _; go_simp; (with_reducible rfl))
      intro hHeld'
      clear hHeld; have hHeld := hHeld'; clear hHeld'
      try simp only [Act.put, List.getElem_toArray, List.getElem_cons_succ, List.getElem_cons_zero, List.setIfInBounds_toArray, List.set_cons_zero, List.set_cons_succ]
      refine wpAnyL_take0 (i := 12) (v := ?_) rfl (by kernel_rfl) (by kernel_rfl) (by kernel_rfl) (by rfl) (fun _ _ _ h => h) (Or.inl ⟨by rfl, ?_⟩) (by assumption) ?_
      rotate_left
      · (intro W _; go_simp; (with_reducible rfl))
      intro hHeld'
      clear hHeld; have hHeld := hHeld'; clear hHeld'
      try simp only [Act.put, List.getElem_toArray, List.getElem_cons_succ, List.getElem_cons_zero, List.setIfInBounds_toArray, List.set_cons_zero, List.set_cons_succ]
      refine wpAnyL_take0 (i := 13) (v := ?_) rfl (by kernel_rfl) (by kernel_rfl) (by kernel_rfl) (by rfl) (fun _ _ _ h => h) (Or.inl ⟨by rfl, ?_⟩) (by assumption) ?_
      rotate_left
      · (intro W _; go_simp; (with_reducible rfl))
      intro hHeld'
      clear hHeld; have hHeld := hHeld'; clear hHeld'
      try simp only [Act.put, List.getElem_toArray, List.getElem_cons_succ, List.getElem_cons_zero, List.setIfInBounds_toArray, List.set_cons_zero, List.set_cons_succ]
      refine wpAnyL_done (by kernel_rfl) ?_ _
      have cL := rS.out.m2.cL
      rw [gL.out] at cL
      go_wp2_with (first
        | (go_at_call 81; (with_reducible refine (hnk.out _).mono ?_); rintro e w' ⟨rfl, rfl⟩)
        | ((with_reducible refine gate (N := 41) rfl ?_); refine St.app 34 2 (.int .i64 0) 8 Try.underlying34 info_i64 rfl (by omega) rfl _ _ rfl _ _ rfl rS.out _ rfl rfl k hll.out (by omega) ?_; intro gn cn w5 rS'; replace rS := hid rS'; clear rS' cL))
      rw [← hsn.out] at rS
      go_roundw
      case rel => exact ⟨k + 1, by omega, by go_num, rS.out⟩
      case measure => simp [intOf]; omega
    · obtain rfl : k = M := by omega
      have dk : decide ((k : Int) < (k : Int)) = false := decide_eq_false (by omega)
      go_wp2_with (first
        | (go_at_call 67; (with_reducible refine (hpw.out _).mono ?_); rintro e w' ⟨rfl, rfl⟩))
      go_ret
      exact ⟨_, rfl, by rw [← hres.out]; exact rS.out.o0, rS.out.bel⟩
end Go.Proofs.Ytgpjcekpmhfljaa

/- FixedOfLevel: what the program and the reference answer. -/
namespace Go.Proofs.Ytgpjcekpmhfljaa
open Go.RowKit
set_option linter.unusedVariables false
set_option linter.unusedSimpArgs false
-- @LONG

def strs (L : List ByteArray) : List Value := L.map Value.string
theorem strs_length (L : List ByteArray) : (strs L).length = L.length := by simp [strs]
theorem strs_snoc (L : List ByteArray) (s : ByteArray) : strs (L ++ [s]) = strs L ++ [.string s] := by simp [strs]
/-- The words that are left, of those before j. -/
def fixS (P : Nat → Nat) (l n : Nat) : Nat → List ByteArray
  | 0 => []
  | j + 1 => if P j = j then fixS P l n j ++ [wstr (wrd l n j)] else fixS P l n j
theorem fixS_len (P : Nat → Nat) (l n : Nat) : ∀ j, (fixS P l n j).length ≤ j
  | 0 => Nat.le_refl _
  | j + 1 => by have := fixS_len P l n j; unfold fixS; split <;> simp <;> omega
def pW (m : Mach) (l s : Nat) (g : List Int) (n k : Nat) : Nat := num l (imgW m l s g (wrd l n k))
open Classical in
/-- What FixedOfLevel answers. -/
noncomputable def folAns (m : Mach) (g : List Int) (n : Int) : List ByteArray × Int :=
  if (polAns m g n).2 = 0 then (fixS (pW m m.L.toNat m.S.toNat g n.toNat) m.L.toNat n.toNat (pw m.L.toNat n.toNat), 0) else ([], (polAns m g n).2)
theorem polAns_cases (m : Mach) (g : List Int) (n : Int) : ((polAns m g n).2 = 1 ∧ polAns m g n = ([], 1)) ∨ ((polAns m g n).2 = 2 ∧ polAns m g n = ([], 2)) ∨ ∃ (l s : Nat) (n' : Nat), Good m l s ∧ IsGw m g ∧ n = n' ∧ n' ≤ 5 ∧ polAns m g n = (permW m l s g n', 0) := by
  by_cases h : IsGw m g
  · by_cases hn : 0 ≤ n ∧ n ≤ 5
    · obtain ⟨l, s, gd⟩ := h.1.good
      obtain ⟨k, rfl⟩ := Int.eq_ofNat_of_zero_le hn.1
      exact .inr (.inr ⟨l, s, k, gd, h, rfl, by omega, polAns_0 gd h (by omega)⟩)
    · exact .inr (.inl ⟨by rw [polAns_2 h hn], polAns_2 h hn⟩)
  · exact .inl ⟨by rw [polAns_1 h], polAns_1 h⟩
theorem folAns_n {m : Mach} {g : List Int} {n c : Int} (h : (polAns m g n).2 = c) (hc : c ≠ 0) : folAns m g n = ([], c) := by unfold folAns; rw [h, if_neg hc]
theorem folAns_0 {m : Mach} {l s n : Nat} {g : List Int} (gd : Good m l s) (h : (polAns m g n).2 = 0) : folAns m g (n : Int) = (fixS (pW m l s g n) l n (pw l n), 0) := by unfold folAns; rw [if_pos h, gd.L, gd.S]; rfl
theorem folAns_len (m : Mach) (g : List Int) (n : Int) : (folAns m g n).1.length ≤ 243 := by
  rcases polAns_cases m g n with ⟨h, _⟩ | ⟨h, _⟩ | ⟨l, s, n', gd, hgw, rfl, h5, h⟩
  · rw [folAns_n h (by decide)]; exact Nat.zero_le _
  · rw [folAns_n h (by decide)]; exact Nat.zero_le _
  · rw [folAns_0 gd (by rw [h])]
    exact Nat.le_trans (fixS_len _ _ _ _) (pw_five gd.l2 gd.l3 h5)

end Go.Proofs.Ytgpjcekpmhfljaa

/- How often a word has to be led until it comes back. -/
namespace Go.Proofs.Ytgpjcekpmhfljaa
open Go.RowKit
set_option linter.unusedVariables false
set_option linter.unusedSimpArgs false

section
variable {m : Mach} {l s : Nat}
theorem apO_inj (g : Good m l s) {k : Int} (h : isNum s k) {x y : Nat} (hx : x < l) (hy : y < l) (e : apO m l s k x = apO m l s k y) : x = y := by
  obtain ⟨q, hq, rfl | rfl⟩ := isNum_cases h
  · rw [apO_pos, apO_pos] at e
    rcases Nat.lt_trichotomy x y with h | h | h
    · exact absurd e (g.inj q hq x y h hy)
    · exact h
    · exact absurd e.symm (g.inj q hq y x h hx)
  · rw [apO_neg, apO_neg] at e
    rcases Nat.lt_trichotomy x y with h | h | h
    · exact absurd e ((inv_good g).inj q hq x y h hy)
    · exact h
    · exact absurd e.symm ((inv_good g).inj q hq y x h hx)
theorem atX_inj (g : Good m l s) : ∀ (u : List Int) (x y : Nat), (∀ k ∈ u, isNum s k) → x < l → y < l → atX m l s u x = atX m l s u y → x = y
  | [], _, _, _, _, _, e => e
  | k :: t, x, y, h, hx, hy, e => by
    have hk := h k List.mem_cons_self
    exact apO_inj g hk hx hy (atX_inj g t _ _ (fun j hj => h j (List.mem_cons_of_mem _ hj)) (apO_lt g hk hx) (apO_lt g hk hy) e)
theorem imgW_inj (gd : Good m l s) : ∀ (u v : List Nat) (g : List Int), (∀ k ∈ g, isNum s k) → (∀ x ∈ u, x < l) → (∀ x ∈ v, x < l) → imgW m l s g u = imgW m l s g v → u = v
  | [], [], _, _, _, _, _ => rfl
  | [], y :: v, g, _, _, _, e => by simp [imgW] at e
  | x :: u, [], g, _, _, _, e => by simp [imgW] at e
  | x :: u, y :: v, g, h, hu, hv, e => by
    have e' : atX m l s g x :: imgW m l s (atS m l s g x) u = atX m l s g y :: imgW m l s (atS m l s g y) v := e
    injection e' with e1 e2
    have hx := hu x List.mem_cons_self
    have hxy := atX_inj gd g x y h hx (hv y List.mem_cons_self) e1
    subst hxy
    rw [imgW_inj gd u v _ (atS_num gd g x h hx) (fun z hz => hu z (List.mem_cons_of_mem _ hz)) (fun z hz => hv z (List.mem_cons_of_mem _ hz)) e2]
end
/-- A word led again and again. -/
def itW (m : Mach) (l s : Nat) (g : List Int) (u : List Nat) : Nat → List Nat
  | 0 => u
  | k + 1 => imgW m l s g (itW m l s g u k)
section
variable {m : Mach} {l s : Nat} {g : List Int} {u : List Nat}
theorem itW_length (k : Nat) : (itW m l s g u k).length = u.length := by
  induction k with
  | zero => rfl
  | succ k ih => show (imgW m l s g _).length = _; rw [imgW_length, ih]
theorem itW_lt (gd : Good m l s) (hg : ∀ k ∈ g, isNum s k) (hu : ∀ x ∈ u, x < l) (k : Nat) : ∀ x ∈ itW m l s g u k, x < l := by
  induction k with
  | zero => exact hu
  | succ k ih => exact imgW_lt gd _ g hg ih
theorem itW_cancel (gd : Good m l s) (hg : ∀ k ∈ g, isNum s k) (hu : ∀ x ∈ u, x < l) : ∀ i d, itW m l s g u i = itW m l s g u (i + d) → u = itW m l s g u d
  | 0, d, e => by rw [Nat.zero_add] at e; exact e
  | i + 1, d, e => by
    rw [show i + 1 + d = (i + d) + 1 by omega] at e
    exact itW_cancel gd hg hu i d (imgW_inj gd _ _ g hg (itW_lt gd hg hu i) (itW_lt gd hg hu (i + d)) e)
theorem itW_back (gd : Good m l s) (hg : ∀ k ∈ g, isNum s k) (hu : ∀ x ∈ u, x < l) : ∃ d, d < pw l u.length ∧ itW m l s g u (d + 1) = u := by
  apply Classical.byContradiction
  intro hn
  have hinj : InjOn (fun i => num l (itW m l s g u i)) (pw l u.length + 1) := by
    intro i j hij hj e
    have hl : 0 < l := by have := gd.l2; omega
    have e2 : itW m l s g u i = itW m l s g u j := by
      have h1 := wrd_num l hl u.length _ (itW_length i) (itW_lt gd hg hu i)
      have h2 := wrd_num l hl u.length _ (itW_length j) (itW_lt gd hg hu j)
      rw [← h1, ← h2]
      exact congrArg _ e
    obtain ⟨d, rfl⟩ : ∃ d, j = i + (d + 1) := ⟨j - i - 1, by omega⟩
    exact hn ⟨d, by omega, (itW_cancel gd hg hu i (d + 1) e2).symm⟩
  have := inj_le (pw l u.length + 1) (pw l u.length) _ (fun i _ => num_lt l u.length _ (itW_length i) (itW_lt gd hg hu i)) hinj
  omega
end
/-- The period: the least number of times that leads a word back. -/
def per (m : Mach) (l s : Nat) (g : List Int) (u : List Nat) : Nat := fst (fun k => decide (itW m l s g u (k + 1) = u)) (pw l u.length) + 1
section
variable {m : Mach} {l s : Nat} {g : List Int} {u : List Nat}
theorem per_back (gd : Good m l s) (hg : ∀ k ∈ g, isNum s k) (hu : ∀ x ∈ u, x < l) : itW m l s g u (per m l s g u) = u ∧ per m l s g u ≤ pw l u.length := by
  obtain ⟨d, hd, he⟩ := itW_back gd hg hu
  have hle := fst_le (fun k => decide (itW m l s g u (k + 1) = u)) (pw l u.length)
  have hlt : fst (fun k => decide (itW m l s g u (k + 1) = u)) (pw l u.length) < pw l u.length := by
    apply Classical.byContradiction
    intro hn
    have h := fst_none (fun k => decide (itW m l s g u (k + 1) = u)) (pw l u.length) d (by omega)
    simp [he] at h
  exact ⟨by have h := fst_some _ _ hlt; unfold per; simpa using h, hlt⟩
theorem per_min {k : Nat} (h1 : 1 ≤ k) (h2 : k < per m l s g u) : itW m l s g u k ≠ u := by
  obtain ⟨j, rfl⟩ : ∃ j, k = j + 1 := ⟨k - 1, by omega⟩
  have h := fst_none (fun k => decide (itW m l s g u (k + 1) = u)) (pw l u.length) j (by unfold per at h2; omega)
  simpa using h
theorem per_pos : 1 ≤ per m l s g u := by unfold per; omega
end
theorem bytes_ne {a b : ByteArray} (h : a ≠ b) : (a.toList == b.toList) = false := by
  rw [← beq_toListBytes]
  have e : (a == b) = (a.data == b.data) := rfl
  rw [e, beq_eq_false_iff_ne]
  intro e2
  exact h (ByteArray.ext e2)
theorem bytes_eq {a b : ByteArray} (h : a = b) : (a.toList == b.toList) = true := by subst h; simp
theorem wstr_inj {u v : List Nat} (hu : ∀ x ∈ u, x < 200) (hv : ∀ x ∈ v, x < 200) (e : wstr u = wstr v) : u = v := by
  have hl : u.length = v.length := by rw [← wstr_size u, ← wstr_size v, e]
  apply List.ext_getElem hl
  intro i h1 h2
  have hb1 := wstr_byte u i (by rw [wstr_size]; exact h1) hu
  have hb2 := wstr_byte v i (by rw [wstr_size]; exact h2) hv
  have e3 : ((wstr u)[i]'(by rw [wstr_size]; exact h1)).toNat = ((wstr v)[i]'(by rw [wstr_size]; exact h2)).toNat := by simp only [e]
  rw [hb1, hb2, List.getD_eq_getElem?_getD, List.getD_eq_getElem?_getD, List.getElem?_eq_getElem h1, List.getElem?_eq_getElem h2] at e3
  simp at e3
  exact e3
open Classical in
/-- What PeriodOfWord answers. -/
noncomputable def perAns (m : Mach) (g : List Int) (ws : ByteArray) : Int × Int := if IsGw m g ∧ IsWd m.L ws then (if ws.size ≤ 5 then (((per m m.L.toNat m.S.toNat g (lets ws) : Nat) : Int), 0) else (0, 2)) else (0, 1)
section
variable {m : Mach} {l s : Nat} {g : List Int} {ws : ByteArray}
theorem perAns_1 (h : ¬ IsGw m g) : perAns m g ws = (0, 1) := by unfold perAns; rw [if_neg (fun k => h k.1)]
theorem perAns_w (gd : Good m l s) (h : ¬ IsWd l ws) : perAns m g ws = (0, 1) := by unfold perAns; rw [gd.L, if_neg (fun k => h k.2)]
theorem perAns_2 (gd : Good m l s) (h : IsGw m g) (hw : IsWd l ws) (h5 : ¬ ws.size ≤ 5) : perAns m g ws = (0, 2) := by unfold perAns; rw [gd.L, if_pos ⟨h, hw⟩, if_neg h5]
theorem perAns_0 (gd : Good m l s) (h : IsGw m g) (hw : IsWd l ws) (h5 : ws.size ≤ 5) : perAns m g ws = (((per m l s g (lets ws) : Nat) : Int), 0) := by unfold perAns; rw [gd.L, gd.S, if_pos ⟨h, hw⟩, if_pos h5]; rfl
end

end Go.Proofs.Ytgpjcekpmhfljaa
