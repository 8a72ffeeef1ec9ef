/- What the proof of SectionOf leans on, part 8 of 8. -/
import Derived.Test.YthempofohidlnaaZSectionOfG
/- The reference's l02State, l02Step, l02Led, l02Act. -/
namespace Go.Proofs.Ythempofohidlnaa
open Go.RowKit
set_option linter.unusedVariables false
set_option linter.unusedSimpArgs false
-- @LONG

set_option maxHeartbeats 1000000 in
theorem l02State_any (w : World) (s : Nat) (hs : s ≤ 16) (k : Int) (q : Nat) (hq : q < s) (hk : k = (q : Int) + 1 ∨ k = -((q : Int) + 1)) :
    Calls Try.prog 169 #[.int .i64 k] w fun e w' => e = .returned (.int .i64 (q : Nat)) ∧ w = w' := by
  have e1 : IntKind.i64.wrap (-k) = -k := IntWalk.i64_in _ (by omega)
  have e2 : max k (-k) = (q : Int) + 1 := by omega
  have e3 : (q : Int) + 1 - 1 = (q : Int) := by omega
  have e4 : (if -k < k then k else -k) = (q : Int) + 1 := by split <;> omega
  have e5 : (if k < -k then -k else k) = (q : Int) + 1 := by split <;> omega
  replace hk := hid hk
  go_enter Try.func169, Try.ntmps169
  go_wp2
  go_ret
  exact ⟨rfl, rfl⟩
set_option maxHeartbeats 2000000 in
set_option maxRecDepth 100000 in
theorem l02Step_any (w : World) (m : Mach) (l s : Nat) (gd : Good m l s) (k : Int) (hk : isNum s k) (x : Nat) (hx : x < l) :
    Calls Try.prog 159 #[.agg (mcells m), .agg (mcells (inv m l s)), .int .i64 k, .int .u8 x] w fun e w' => e = .returned (.tuple #[.int .u8 (apO m l s k x : Nat), .int .i64 (apN m l s k x)]) ∧ Below w.heap.size w w' := by
  have hS := hid (((St.start w).newMB m 34).newMB (inv m l s) 34)
  rw [heap_alloc_size] at hS
  have s16 := gd.s16; have l3 := gd.l3
  have gI := inv_good gd
  obtain ⟨q, hq, hqk⟩ := isNum_cases hk
  have hst := hid (fun W => l02State_any W s s16 k q hq hqk)
  have x0 : (0 : Int) ≤ (x : Int) := Int.natCast_nonneg _
  have x1 : (x : Int) < 3 := by omega
  have q0 : (0 : Int) ≤ (q : Int) := Int.natCast_nonneg _
  have q1 : (q : Int) < 16 := by omega
  rcases hqk with hqk | hqk
  · have d1 : decide ((0 : Int) < k) = true := decide_eq_true (by omega)
    have c1 := hS.out.m1.cot q x (by omega) (by omega)
    have c2 := hS.out.m1.cnx q x (by omega) (by omega)
    have hO := hid (show apO m l s k x = m.ot (q * 3 + x) by rw [hqk]; exact apO_pos q x)
    have hN := hid (show apN m l s k x = (m.nx (q * 3 + x) : Int) + 1 by rw [hqk]; exact apN_pos q x)
    rw [hO.out, hN.out]
    have hnl := gd.nx q x hq hx
    have hol := gd.ot q x hq hx
    have e2 : IntKind.i64.wrap ((m.nx (q * 3 + x) : Int) + 1) = (m.nx (q * 3 + x) : Int) + 1 := IntWalk.i64_in _ (by omega)
    generalize m.ot (q * 3 + x) = ot at *
    generalize m.nx (q * 3 + x) = nx at *
    clear gd gI hk hO hN; replace hqk := hid hqk
    go_enter Try.func159, Try.ntmps159
    go_upto_region 3 with (first
      | (go_at_call 169; (with_reducible refine (hst.out _).mono ?_); rintro e w' ⟨rfl, rfl⟩))
    go_quiet (fail)
    go_wp2
    go_ret2
    exact ⟨rfl, below_drewN hS.out.bel _⟩
  · have d1 : decide ((0 : Int) < k) = false := decide_eq_false (by omega)
    have c1 := hS.out.m0.cot q x (by omega) (by omega)
    have c2 := hS.out.m0.cnx q x (by omega) (by omega)
    have hO := hid (show apO m l s k x = (inv m l s).ot (q * 3 + x) by rw [hqk]; exact apO_neg q x)
    have hN := hid (show apN m l s k x = -((inv m l s).nx (q * 3 + x) : Int) - 1 by rw [hqk]; exact apN_neg q x)
    rw [hO.out, hN.out]
    have hnl := gI.nx q x hq hx
    have hol := gI.ot q x hq hx
    have e2 : IntKind.i64.wrap (((inv m l s).nx (q * 3 + x) : Int) + 1) = ((inv m l s).nx (q * 3 + x) : Int) + 1 := IntWalk.i64_in _ (by omega)
    have e3 : IntKind.i64.wrap (-(((inv m l s).nx (q * 3 + x) : Int) + 1)) = -((inv m l s).nx (q * 3 + x) : Int) - 1 := by rw [IntWalk.i64_in _ (by omega)]; omega
    generalize (inv m l s).ot (q * 3 + x) = ot at *
    generalize (inv m l s).nx (q * 3 + x) = nx at *
    clear gd gI hk hO hN; replace hqk := hid hqk
    go_enter Try.func159, Try.ntmps159
    go_upto_region 4 with (first
      | (go_at_call 169; (with_reducible refine (hst.out _).mono ?_); rintro e w' ⟨rfl, rfl⟩))
    go_quiet (fail)
    go_wp2
    go_ret2
    exact ⟨rfl, below_drewN hS.out.bel _⟩
set_option maxHeartbeats 2000000 in
set_option maxRecDepth 100000 in
theorem l02Led_any (w : World) (m : Mach) (l s : Nat) (gd : Good m l s) (base : Nat) (v : Value) (u : List Int) (hu : Own w base 2 v (ints u)) (hn : ∀ k ∈ u, isNum s k) (hul : u.length ≤ 1000) (x : Nat) (hx : x < l) :
    Calls Try.prog 132 #[.agg (mcells m), .agg (mcells (inv m l s)), v, .int .u8 x] w fun e w' => ∃ v', e = .returned (.tuple #[.int .u8 (atX m l s u x : Nat), v']) ∧ Own w' w.heap.size 2 v' (ints (atS m l s u x)) ∧ Below w.heap.size w w' := by
  have hil := ints_length u
  obtain ⟨A, c, rfl, _, _⟩ := hu.form
  rw [hil] at hu ⊢
  have hcell := hid (fun (k : Nat) (y : Int) (hy : u[k]? = some y) => (show ∃ gA, A = some ⟨gA, 0, none⟩ ∧ ∀ W, Below w.heap.size w W → W.cell? ⟨gA, k, none⟩ = some (.int .i64 y) from by
    obtain ⟨g1, c2, he, _, hg1⟩ := hu.blk (fun e => by have h1 := congrArg List.length e; rw [hil] at h1; have h2 := (List.getElem?_eq_some_iff.1 hy).1; rw [List.length_nil] at h1; omega)
    injection he with e1 e2 e3
    subst e1
    exact ⟨g1, rfl, fun W hW => (hu.below hW).cellAt k _ (by simp [ints, hy])⟩))
  have hst := hid (fun W k (hk : isNum s k) y (hy : y < l) => l02Step_any W m l s gd k hk y hy)
  have hS := ((((St.start w).newMB m 34).newMB (inv m l s) 34).newOwn [] 2 (by simp))
  simp only [heap_alloc_size, List.length_nil] at hS
  replace hS := hid hS
  have hsx := hid (fun i y (hy : u[i]? = some y) => (show u.take (i + 1) = u.take i ++ [y] from by rw [List.take_add_one, hy]; rfl))
  have hlt := hid (fun i => atX_lt gd (u.take i) x (fun k hk => hn k (List.mem_of_mem_take hk)) hx)
  have hxs := hid (fun i y => atX_snoc (m := m) (l := l) (s := s) (u.take i) y x)
  have hss := hid (fun i y => atS_snoc (m := m) (l := l) (s := s) (u.take i) y x)
  have hsl := hid (fun i (hi : i ≤ u.length) => (show (ints (atS m l s (u.take i) x)).length = i from by rw [ints_length, atS_length, List.length_take]; omega))
  have h0X := hid (show atX m l s u x = atX m l s (u.take u.length) x by rw [List.take_length])
  have h0S := hid (show atS m l s u x = atS m l s (u.take u.length) x by rw [List.take_length])
  rw [h0X.out, h0S.out]
  have l3 := gd.l3
  replace hn := hid hn
  clear hu hil h0X h0S
  replace gd := hid gd
  generalize hI : inv m l s = I at *
  replace hI := hid hI
  generalize hN : u.length = N at *
  replace hN := hid hN
  go_enter Try.func132, Try.ntmps132
  go_upto_region 2 with (fail)
  generalize ((w.alloc (.cells (mcells m) 34)).alloc (.cells (mcells I) 34)).alloc (.cells #[] 2) = W1 at *
  go_wp2
  go_loopw [3, 10, 11] (fun y o i wr => ∃ j : Nat, j ≤ N ∧ i = .int .i64 j ∧ y = .int .u8 (atX m l s (u.take j) x : Nat) ∧ St w.heap.size w [Asn.own w.heap.size 2 o (ints (atS m l s (u.take j) x)), Asn.mb 34 (w.heap.size + 1) I, Asn.mb 34 w.heap.size m] wr) (fun _ _ i _ => N - (intOf i).toNat)
  case atStart => exact ⟨0, Nat.zero_le _, rfl, rfl, hS.out⟩
  case round =>
    obtain ⟨j, hj, rfl, rfl, rS⟩ := hrel
    clear hS
    replace rS := hid rS
    by_cases hjN : j < N
    · have dc : decide ((j : Int) < (N : Int)) = true := decide_eq_true (by omega)
      obtain ⟨y, hy⟩ : ∃ y, u[j]? = some y := ⟨_, List.getElem?_eq_getElem (by rw [hN.out]; exact hjN)⟩
      obtain ⟨gA, rfl, hc⟩ := hcell.out j y hy
      have j0 : (0 : Int) ≤ (j : Int) := Int.natCast_nonneg _
      have j1 : (j : Int) < (N : Int) := by omega
      have hcl := hid (fun W => hst.out W y (hn.out y (List.mem_of_getElem? hy)) _ (hlt.out j))
      have hX := hid ((congrArg (fun t => atX m l s t x) (hsx.out j y hy)).trans (hxs.out j y))
      have hSS := hid ((congrArg (fun t => atS m l s t x) (hsx.out j y hy)).trans (hss.out j y))
      have hl2 := hid (hsl.out j hj)
      have hlx := hlt.out j
      replace hc := hid hc
      clear hy
      generalize atX m l s (u.take j) x = xj at *
      generalize atS m l s (u.take j) x = sj at *
      generalize apO m l s y xj = xo at *
      generalize apN m l s y xj = xn at *
      go_upto_region 5 with (fail)
      replace rS := hid rS.out.drew
      refine wp_region_heldL (L := [(7, (fun w' : World => MB w' 34 w.heap.size m ∧ MB w' 34 (w.heap.size + 1) I ∧ w'.cell? ⟨gA, j, none⟩ = some (.int .i64 y)))]) (by kernel_rfl) (HeldL.cons (fun _ => ⟨rS.out.m2, rS.out.m1, hc.out _ rS.out.bel⟩) HeldL.nil) (fun hHeld => ?_)
      generalize wr.drew = wa at *
      refine wpAnyL_takeP (i := 0) 7 [] (v := (.agg (mcells m))) (fun w' : World => MB w' 34 w.heap.size m ∧ MB w' 34 (w.heap.size + 1) I ∧ w'.cell? ⟨gA, j, none⟩ = some (.int .i64 y)) rfl (by kernel_rfl) (by kernel_rfl) (by kernel_rfl) (by rfl) (by kernel_rfl) (by simp) (fun _ _ _ h => h) (Or.inl ⟨by rfl, ?_⟩) (by assumption) ?_
      · (intro W hW; exact exec_load _ rfl rfl (load_run hW.1))
      intro hHeld'
      clear hHeld; have hHeld := hHeld'; clear hHeld'
      try simp only [Act.put, List.getElem_toArray, List.getElem_cons_succ, List.getElem_cons_zero, List.setIfInBounds_toArray, List.set_cons_zero, List.set_cons_succ]
      refine wpAnyL_takeP (i := 1) 7 [] (v := (.agg (mcells I))) (fun w' : World => MB w' 34 w.heap.size m ∧ MB w' 34 (w.heap.size + 1) I ∧ w'.cell? ⟨gA, j, none⟩ = some (.int .i64 y)) rfl (by kernel_rfl) (by kernel_rfl) (by kernel_rfl) (by rfl) (by kernel_rfl) (by simp) (fun _ _ _ h => h) (Or.inl ⟨by rfl, ?_⟩) (by assumption) ?_
      · (intro W hW; exact exec_load _ rfl rfl (load_run hW.2.1))
      intro hHeld'
      clear hHeld; have hHeld := hHeld'; clear hHeld'
      try simp only [Act.put, List.getElem_toArray, List.getElem_cons_succ, List.getElem_cons_zero, List.setIfInBounds_toArray, List.set_cons_zero, List.set_cons_succ]
      refine wpAnyL_take0 (i := 2) (v := ?_) rfl (by kernel_rfl) (by kernel_rfl) (by kernel_rfl) (by rfl) (fun _ _ _ h => h) (Or.inl ⟨by rfl, ?_⟩) (by assumption) ?_
      rotate_left
      · (intro W _; go_simp; (with_reducible rfl))
      intro hHeld'
      clear hHeld; have hHeld := hHeld'; clear hHeld'
      try simp only [Act.put, List.getElem_toArray, List.getElem_cons_succ, List.getElem_cons_zero, List.setIfInBounds_toArray, List.set_cons_zero, List.set_cons_succ]
      refine wpAnyL_take0 (i := 3) (v := ?_) rfl (by kernel_rfl) (by kernel_rfl) (by kernel_rfl) (by rfl) (fun _ _ _ h => h) (Or.inl ⟨by rfl, ?_⟩) (by assumption) ?_
      rotate_left
      · (intro W _; go_simp; (with_reducible rfl))
      intro hHeld'
      clear hHeld; have hHeld := hHeld'; clear hHeld'
      try simp only [Act.put, List.getElem_toArray, List.getElem_cons_succ, List.getElem_cons_zero, List.setIfInBounds_toArray, List.set_cons_zero, List.set_cons_succ]
      refine wpAnyL_take0 (i := 4) (v := ?_) rfl (by kernel_rfl) (by kernel_rfl) (by kernel_rfl) (by rfl) (fun _ _ _ h => h) (Or.inl ⟨by rfl, ?_⟩) (by assumption) ?_
      rotate_left
      · (intro W _; go_simp; (with_reducible rfl))
      intro hHeld'
      clear hHeld; have hHeld := hHeld'; clear hHeld'
      try simp only [Act.put, List.getElem_toArray, List.getElem_cons_succ, List.getElem_cons_zero, List.setIfInBounds_toArray, List.set_cons_zero, List.set_cons_succ]
      refine wpAnyL_takeP (i := 5) 7 [] (v := ?_) (fun w' : World => MB w' 34 w.heap.size m ∧ MB w' 34 (w.heap.size + 1) I ∧ w'.cell? ⟨gA, j, none⟩ = some (.int .i64 y)) rfl (by kernel_rfl) (by kernel_rfl) (by kernel_rfl) (by rfl) (by kernel_rfl) (by simp) (fun _ _ _ h => h) (Or.inl ⟨by rfl, ?_⟩) (by assumption) ?_
      rotate_left
      · (intro W hW; (obtain ⟨_, _, hW⟩ := hW); go_simp; (with_reducible rfl))
      intro hHeld'
      clear hHeld; have hHeld := hHeld'; clear hHeld'
      try simp only [Act.put, List.getElem_toArray, List.getElem_cons_succ, List.getElem_cons_zero, List.setIfInBounds_toArray, List.set_cons_zero, List.set_cons_succ]
      refine wpAnyL_take0 (i := 6) (v := ?_) rfl (by kernel_rfl) (by kernel_rfl) (by kernel_rfl) (by rfl) (fun _ _ _ h => h) (Or.inl ⟨by rfl, ?_⟩) (by assumption) ?_
      rotate_left
      · (intro W _; go_simp; (with_reducible rfl))
      intro hHeld'
      clear hHeld; have hHeld := hHeld'; clear hHeld'
      try simp only [Act.put, List.getElem_toArray, List.getElem_cons_succ, List.getElem_cons_zero, List.setIfInBounds_toArray, List.set_cons_zero, List.set_cons_succ]
      refine wpAnyL_ready (rs := [7]) (by kernel_rfl) (by simp) ?_
      refine AllReadyL.cons rfl (fun K hK => ?_) AllReadyL.nil
      go_simp
      (with_reducible refine (hcl.out _).mono ?_)
      rintro e w3 ⟨rfl, hb⟩
      replace rS := hid (rS.out.call hb)
      clear hb
      go_simp
      refine hK.out _ _ (HeldL.cons (fun h => absurd h (by decide +kernel)) HeldL.nil) (fun hHeld' => ?_)
      clear hK K hHeld; have hHeld := hHeld'; clear hHeld'
      try simp only [Act.put, List.getElem_toArray, List.getElem_cons_succ, List.getElem_cons_zero, List.setIfInBounds_toArray, List.set_cons_zero, List.set_cons_succ]
      refine wpAnyL_take0 (i := 8) (v := ?_) rfl (by kernel_rfl) (by kernel_rfl) (by kernel_rfl) (by rfl) (fun _ _ _ h => h) (Or.inl ⟨by rfl, ?_⟩) (by assumption) ?_
      rotate_left
      · (intro W _; go_simp; (with_reducible rfl))
      intro hHeld'
      clear hHeld; have hHeld := hHeld'; clear hHeld'
      try simp only [Act.put, List.getElem_toArray, List.getElem_cons_succ, List.getElem_cons_zero, List.setIfInBounds_toArray, List.set_cons_zero, List.set_cons_succ]
      refine wpAnyL_take0 (i := 9) (v := ?_) rfl (by kernel_rfl) (by kernel_rfl) (by kernel_rfl) (by rfl) (fun _ _ _ h => h) (Or.inl ⟨by rfl, ?_⟩) (by assumption) ?_
      rotate_left
      · (intro W _; go_simp; (with_reducible rfl))
      intro hHeld'
      clear hHeld; have hHeld := hHeld'; clear hHeld'
      try simp only [Act.put, List.getElem_toArray, List.getElem_cons_succ, List.getElem_cons_zero, List.setIfInBounds_toArray, List.set_cons_zero, List.set_cons_succ]
      refine wpAnyL_take0 (i := 10) (v := ?_) rfl (by kernel_rfl) (by kernel_rfl) (by kernel_rfl) (by rfl) (fun _ _ _ h => h) (Or.inl ⟨by rfl, ?_⟩) (by assumption) ?_
      rotate_left
      · (intro W _; go_simp; (with_reducible rfl))
      intro hHeld'
      clear hHeld; have hHeld := hHeld'; clear hHeld'
      try simp only [Act.put, List.getElem_toArray, List.getElem_cons_succ, List.getElem_cons_zero, List.setIfInBounds_toArray, List.set_cons_zero, List.set_cons_succ]
      refine wpAnyL_take0 (i := 11) (v := ?_) rfl (by kernel_rfl) (by kernel_rfl) (by kernel_rfl) (by rfl) (fun _ _ _ h => h) (Or.inl ⟨by rfl, ?_⟩) (by assumption) ?_
      rotate_left
      · (intro W _; go_simp; (with_reducible rfl))
      intro hHeld'
      clear hHeld; have hHeld := hHeld'; clear hHeld'
      try simp only [Act.put, List.getElem_toArray, List.getElem_cons_succ, List.getElem_cons_zero, List.setIfInBounds_toArray, List.set_cons_zero, List.set_cons_succ]
      refine wpAnyL_take0 (i := 12) (v := ?_) rfl (by kernel_rfl) (by kernel_rfl) (by kernel_rfl) (by rfl) (fun _ _ _ h => h) (Or.inl ⟨by rfl, ?_⟩) (by assumption) ?_
      rotate_left
      · (intro W _; go_simp; (with_reducible rfl))
      intro hHeld'
      clear hHeld; have hHeld := hHeld'; clear hHeld'
      try simp only [Act.put, List.getElem_toArray, List.getElem_cons_succ, List.getElem_cons_zero, List.setIfInBounds_toArray, List.set_cons_zero, List.set_cons_succ]
      refine wpAnyL_done (by kernel_rfl) ?_ _
      go_wp2_with (first
        | ((with_reducible refine gate (N := 36) rfl ?_); refine St.app 22 2 (.int .i64 0) 8 Try.underlying22 info_i64 rfl (by omega) rfl _ _ rfl _ _ rfl rS.out _ rfl rfl j hl2.out (by omega) ?_; intro gn cn w4 rS'; replace rS := hid rS'; clear rS'))
      rw [← ints_snoc, ← hSS.out] at rS
      go_roundw
      case rel => exact ⟨j + 1, by omega, by go_num, by rw [hX.out], rS.out⟩
      case measure => simp [intOf]; omega
    · obtain rfl : j = N := by omega
      have dc : decide ((j : Int) < (j : Int)) = false := decide_eq_false (by omega)
      go_wp2
      go_ret2
      exact ⟨_, rfl, rS.out.o0, rS.out.bel⟩
end Go.Proofs.Ythempofohidlnaa

/- The reference's l01Own, l02Act, ImageOf, SectionOf. -/
namespace Go.Proofs.Ythempofohidlnaa
open Go.RowKit
set_option linter.unusedVariables false
set_option linter.unusedSimpArgs false
-- @LONG

set_option maxHeartbeats 1000000 in
set_option maxRecDepth 100000 in
theorem l01Own_any (w : World) (base : Nat) (v : Value) (l : List Int) (h : Own w base 2 v (ints l)) (hl : l.length ≤ 1000000) :
    Calls Try.prog 131 #[v] w fun e w' => ∃ v', e = .returned v' ∧ Own w' w.heap.size 2 v' (ints l) ∧ Below w.heap.size w w' := by
  have hil := ints_length l
  have hS := hid ((St.start w).newOwn [] 2 (by simp))
  have h' := hid (h.alloc (.cells #[] 2))
  clear h
  go_enter Try.func131, Try.ntmps131
  go_wp2_with (first
    | ((with_reducible refine gate (N := 5) rfl ?_); refine St.appS 22 2 (.int .i64 0) 8 Try.underlying22 info_i64 rfl (by omega) rfl _ _ rfl _ _ rfl hS.out _ _ _ _ rfl h'.out (ints_one l) (by rw [hil]; simp; omega) ?_; intro v' w2 hS'; replace hS := hid hS'; clear hS'))
  go_ret
  exact ⟨_, rfl, by have h := hS.out.o0; rw [List.nil_append] at h; exact h, hS.out.bel⟩
set_option maxHeartbeats 2000000 in
set_option maxRecDepth 100000 in
theorem l02Act_any (w : World) (m : Mach) (l s : Nat) (gd : Good m l s) (base : Nat) (v : Value) (gw : List Int) (hgw : Own w base 2 v (ints gw)) (hn : ∀ k ∈ gw, isNum s k) (hgl : gw.length ≤ 1000) (u : List Nat) (hu : ∀ x ∈ u, x < l) (hlen : u.length ≤ 1000) :
    Calls Try.prog 79 #[.agg (mcells m), .agg (mcells (inv m l s)), v, .string (wstr u)] w fun e w' => ∃ v', e = .returned (.tuple #[.string (wstr (imgW m l s gw u)), v']) ∧ Own w' w.heap.size 2 v' (ints (secW m l s gw u)) ∧ Below w.heap.size w w' := by
  have hsz := wstr_size u
  have hbyte := hid (fun k hk => wstr_byte u k hk (fun x hx => by have := hu x hx; have := gd.l3; omega))
  have hS := (((St.start w).newMB m 34).newMB (inv m l s) 34).newOwn [] 5 (by simp)
  simp only [heap_alloc_size, List.length_nil] at hS
  replace hS := hid hS
  have hown := hid (fun W (hW : Below w.heap.size w W) => l01Own_any W base v gw (hgw.below hW) (by omega))
  have hle := hid (fun W v (u' : List Int) (h1 : Own W 0 2 v (ints u')) (h2 : ∀ k ∈ u', isNum s k) (h3 : u'.length ≤ 1000) x (hx : x < l) => l02Led_any W m l s gd 0 v u' h1 h2 h3 x hx)
  have hnum := hid (fun k => secW_num gd (u.take k) gw hn (fun x hx => hu x (List.mem_of_mem_take hx)))
  have hsl := hid (fun k => secW_length (m := m) (l := l) (s := s) (u.take k) gw)
  have hil := hid (fun k (hk : k ≤ u.length) => (show (wb (imgW m l s gw (u.take k))).length = k by rw [wb_length, imgW_length, List.length_take]; omega))
  have hse := hid (fun k x => secW_snoc (m := m) (l := l) (s := s) (u.take k) x gw)
  have him := hid (fun k x => imgW_snoc (m := m) (l := l) (s := s) (u.take k) x gw)
  have hlt := hid (fun k x (hx : x < l) => atX_lt gd (secW m l s gw (u.take k)) x (hnum.out k) hx)
  have l3 := gd.l3
  replace hu := hid hu
  replace hn := hid hn
  have h0X := hid (show imgW m l s gw u = imgW m l s gw (u.take u.length) by rw [List.take_length])
  have h0S := hid (show secW m l s gw u = secW m l s gw (u.take u.length) by rw [List.take_length])
  rw [h0X.out, h0S.out]
  clear hgw h0X h0S
  replace gd := hid gd
  generalize hI : inv m l s = I at *
  replace hI := hid hI
  generalize hws : wstr u = ws at *
  replace hws := hid hws
  generalize hN : u.length = N at *
  replace hN := hid hN
  go_enter Try.func79, Try.ntmps79
  go_upto_region 3 with (first
    | (go_at_call 131; (with_reducible refine (hown.out _ hS.out.bel).mono ?_); rintro e w2 ⟨v2, rfl, hO, hb⟩; replace hS := hid (hS.out.callOwn hb hO).f1; clear hb hO hown))
  go_wp2
  go_loopw [2, 10, 11] (fun y o i wr => ∃ j : Nat, j ≤ N ∧ i = .int .i64 j ∧ St w.heap.size w [Asn.own w.heap.size 5 o (wb (imgW m l s gw (u.take j))), Asn.own w.heap.size 2 y (ints (secW m l s gw (u.take j))), Asn.mb 34 (w.heap.size + 1) I, Asn.mb 34 w.heap.size m] wr) (fun _ _ i _ => N - (intOf i).toNat)
  case atStart => exact ⟨0, Nat.zero_le _, rfl, hS.out⟩
  case round =>
    obtain ⟨j, hj, rfl, rS⟩ := hrel
    clear hS
    replace rS := hid rS
    by_cases hjN : j < N
    · have dc : decide ((j : Int) < (N : Int)) = true := decide_eq_true (by omega)
      have hx := hu.out _ (getD_mem u j (by rw [hN.out]; exact hjN))
      have hb := hbyte.out j (by omega)
      have htk := take_snoc' u j (by rw [hN.out]; exact hjN)
      have hsn := hid ((congrArg (fun t => secW m l s gw t) htk).trans (hse.out j (u.getD j 0)))
      have hin := hid ((congrArg (fun t => imgW m l s gw t) htk).trans (him.out j (u.getD j 0)))
      have hlk := hid (hil.out j hj)
      have hcl := hid (fun W v (h1 : Own W 0 2 v (ints (secW m l s gw (u.take j)))) => hle.out W v _ h1 (hnum.out j) (by rw [hsl.out j]; exact hgl) _ hx)
      have hlx := hlt.out j _ hx
      have e2 : ((u.getD j 0 : Nat) : Int) % 256 = (u.getD j 0 : Nat) := by omega
      have e4 : IntKind.u8.wrap ((u.getD j 0 : Nat) : Int) = (u.getD j 0 : Nat) := u8_in _ (by omega)
      clear htk
      generalize imgW m l s gw (u.take j) = im at *
      generalize secW m l s gw (u.take j) = se at *
      generalize u.getD j 0 = x at *
      have e1 : 48 + (x : Int) - 48 = x := by omega
      generalize hy : atX m l s se x = y at *
      replace hy := hid hy
      have e3 : (48 + (y : Int)) % 256 = 48 + y := by omega
      have j0 : (0 : Int) ≤ (j : Int) := Int.natCast_nonneg _
      have j1 : (j : Int) < (N : Int) := by omega
      go_upto_region 6 with (fail)
      replace rS := hid rS.out.drew
      refine wp_region_heldL (L := [(7, (fun w' : World => MB w' 34 w.heap.size m ∧ MB w' 34 (w.heap.size + 1) I))]) (by kernel_rfl) (HeldL.cons (fun _ => ⟨rS.out.m3, rS.out.m2⟩) HeldL.nil) (fun hHeld => ?_)
      generalize wr.drew = wa at *
      refine wpAnyL_takeP (i := 0) 7 [] (v := (.agg (mcells m))) (fun w' : World => MB w' 34 w.heap.size m ∧ MB w' 34 (w.heap.size + 1) I) rfl (by kernel_rfl) (by kernel_rfl) (by kernel_rfl) (by rfl) (by kernel_rfl) (by simp) (fun _ _ _ h => h) (Or.inl ⟨by rfl, ?_⟩) (by assumption) ?_
      · (intro W hW; exact exec_load _ rfl rfl (load_run hW.1))
      intro hHeld'
      clear hHeld; have hHeld := hHeld'; clear hHeld'
      try simp only [Act.put, List.getElem_toArray, List.getElem_cons_succ, List.getElem_cons_zero, List.setIfInBounds_toArray, List.set_cons_zero, List.set_cons_succ]
      refine wpAnyL_takeP (i := 1) 7 [] (v := (.agg (mcells I))) (fun w' : World => MB w' 34 w.heap.size m ∧ MB w' 34 (w.heap.size + 1) I) rfl (by kernel_rfl) (by kernel_rfl) (by kernel_rfl) (by rfl) (by kernel_rfl) (by simp) (fun _ _ _ h => h) (Or.inl ⟨by rfl, ?_⟩) (by assumption) ?_
      · (intro W hW; exact exec_load _ rfl rfl (load_run hW.2))
      intro hHeld'
      clear hHeld; have hHeld := hHeld'; clear hHeld'
      try simp only [Act.put, List.getElem_toArray, List.getElem_cons_succ, List.getElem_cons_zero, List.setIfInBounds_toArray, List.set_cons_zero, List.set_cons_succ]
      refine wpAnyL_take0 (i := 2) (v := ?_) rfl (by kernel_rfl) (by kernel_rfl) (by kernel_rfl) (by rfl) (fun _ _ _ h => h) (Or.inl ⟨by rfl, ?_⟩) (by assumption) ?_
      rotate_left
      · (intro W _; go_simp; (with_reducible rfl))
      intro hHeld'
      clear hHeld; have hHeld := hHeld'; clear hHeld'
      try simp only [Act.put, List.getElem_toArray, List.getElem_cons_succ, List.getElem_cons_zero, List.setIfInBounds_toArray, List.set_cons_zero, List.set_cons_succ]
      refine wpAnyL_take0 (i := 3) (v := ?_) rfl (by kernel_rfl) (by kernel_rfl) (by kernel_rfl) (by rfl) (fun _ _ _ h => h) (Or.inl ⟨by rfl, ?_⟩) (by assumption) ?_
      rotate_left
      · (intro W _; go_simp; (with_reducible rfl))
      intro hHeld'
      clear hHeld; have hHeld := hHeld'; clear hHeld'
      try simp only [Act.put, List.getElem_toArray, List.getElem_cons_succ, List.getElem_cons_zero, List.setIfInBounds_toArray, List.set_cons_zero, List.set_cons_succ]
      refine wpAnyL_take0 (i := 4) (v := ?_) rfl (by kernel_rfl) (by kernel_rfl) (by kernel_rfl) (by rfl) (fun _ _ _ h => h) (Or.inl ⟨by rfl, ?_⟩) (by assumption) ?_
      rotate_left
      · (intro W _; go_simp; (with_reducible rfl))
      intro hHeld'
      clear hHeld; have hHeld := hHeld'; clear hHeld'
      try simp only [Act.put, List.getElem_toArray, List.getElem_cons_succ, List.getElem_cons_zero, List.setIfInBounds_toArray, List.set_cons_zero, List.set_cons_succ]
      refine wpAnyL_take0 (i := 5) (v := ?_) rfl (by kernel_rfl) (by kernel_rfl) (by kernel_rfl) (by rfl) (fun _ _ _ h => h) (Or.inl ⟨by rfl, ?_⟩) (by assumption) ?_
      rotate_left
      · (intro W _; go_simp; (with_reducible rfl))
      intro hHeld'
      clear hHeld; have hHeld := hHeld'; clear hHeld'
      try simp only [Act.put, List.getElem_toArray, List.getElem_cons_succ, List.getElem_cons_zero, List.setIfInBounds_toArray, List.set_cons_zero, List.set_cons_succ]
      refine wpAnyL_take0 (i := 6) (v := ?_) rfl (by kernel_rfl) (by kernel_rfl) (by kernel_rfl) (by rfl) (fun _ _ _ h => h) (Or.inl ⟨by rfl, ?_⟩) (by assumption) ?_
      rotate_left
      · (intro W _; go_simp; (with_reducible rfl))
      intro hHeld'
      clear hHeld; have hHeld := hHeld'; clear hHeld'
      try simp only [Act.put, List.getElem_toArray, List.getElem_cons_succ, List.getElem_cons_zero, List.setIfInBounds_toArray, List.set_cons_zero, List.set_cons_succ]
      refine wpAnyL_ready (rs := [7]) (by kernel_rfl) (by simp) ?_
      refine AllReadyL.cons rfl (fun K hK => ?_) AllReadyL.nil
      go_simp
      (with_reducible refine (hcl.out _ _ (rS.out.o1.mono (Nat.zero_le _))).mono ?_)
      rintro e w3 ⟨v', rfl, hO, hb2⟩
      replace rS := hid (rS.out.callOwn hb2 hO)
      clear hb2 hO
      go_simp
      refine hK.out _ _ (HeldL.cons (fun h => absurd h (by decide +kernel)) HeldL.nil) (fun hHeld' => ?_)
      clear hK K hHeld; have hHeld := hHeld'; clear hHeld'
      try simp only [Act.put, List.getElem_toArray, List.getElem_cons_succ, List.getElem_cons_zero, List.setIfInBounds_toArray, List.set_cons_zero, List.set_cons_succ]
      refine wpAnyL_take0 (i := 8) (v := ?_) rfl (by kernel_rfl) (by kernel_rfl) (by kernel_rfl) (by rfl) (fun _ _ _ h => h) (Or.inl ⟨by rfl, ?_⟩) (by assumption) ?_
      rotate_left
      · (intro W _; go_simp; (with_reducible rfl))
      intro hHeld'
      clear hHeld; have hHeld := hHeld'; clear hHeld'
      try simp only [Act.put, List.getElem_toArray, List.getElem_cons_succ, List.getElem_cons_zero, List.setIfInBounds_toArray, List.set_cons_zero, List.set_cons_succ]
      refine wpAnyL_take0 (i := 9) (v := ?_) rfl (by kernel_rfl) (by kernel_rfl) (by kernel_rfl) (by rfl) (fun _ _ _ h => h) (Or.inl ⟨by rfl, ?_⟩) (by assumption) ?_
      rotate_left
      · (intro W _; go_simp; (with_reducible rfl))
      intro hHeld'
      clear hHeld; have hHeld := hHeld'; clear hHeld'
      try simp only [Act.put, List.getElem_toArray, List.getElem_cons_succ, List.getElem_cons_zero, List.setIfInBounds_toArray, List.set_cons_zero, List.set_cons_succ]
      refine wpAnyL_take0 (i := 10) (v := ?_) rfl (by kernel_rfl) (by kernel_rfl) (by kernel_rfl) (by rfl) (fun _ _ _ h => h) (Or.inl ⟨by rfl, ?_⟩) (by assumption) ?_
      rotate_left
      · (intro W _; go_simp; (with_reducible rfl))
      intro hHeld'
      clear hHeld; have hHeld := hHeld'; clear hHeld'
      try simp only [Act.put, List.getElem_toArray, List.getElem_cons_succ, List.getElem_cons_zero, List.setIfInBounds_toArray, List.set_cons_zero, List.set_cons_succ]
      refine wpAnyL_take0 (i := 11) (v := ?_) rfl (by kernel_rfl) (by kernel_rfl) (by kernel_rfl) (by rfl) (fun _ _ _ h => h) (Or.inl ⟨by rfl, ?_⟩) (by assumption) ?_
      rotate_left
      · (intro W _; go_simp; (with_reducible rfl))
      intro hHeld'
      clear hHeld; have hHeld := hHeld'; clear hHeld'
      try simp only [Act.put, List.getElem_toArray, List.getElem_cons_succ, List.getElem_cons_zero, List.setIfInBounds_toArray, List.set_cons_zero, List.set_cons_succ]
      refine wpAnyL_take0 (i := 12) (v := ?_) rfl (by kernel_rfl) (by kernel_rfl) (by kernel_rfl) (by rfl) (fun _ _ _ h => h) (Or.inl ⟨by rfl, ?_⟩) (by assumption) ?_
      rotate_left
      · (intro W _; go_simp; (with_reducible rfl))
      intro hHeld'
      clear hHeld; have hHeld := hHeld'; clear hHeld'
      try simp only [Act.put, List.getElem_toArray, List.getElem_cons_succ, List.getElem_cons_zero, List.setIfInBounds_toArray, List.set_cons_zero, List.set_cons_succ]
      refine wpAnyL_done (by kernel_rfl) ?_ _
      replace rS := hid rS.out.f1
      go_wp2_with (first
        | ((with_reducible refine gate (N := 38) rfl ?_); refine St.app 120 5 (.int .u8 0) 1 Try.underlying120 info_u8 rfl (by omega) rfl _ _ rfl _ _ rfl rS.out _ rfl rfl j hlk.out (by omega) ?_; intro gn cn w4 rS'; replace rS := hid rS'; clear rS'))
      rw [← wb_snoc, ← hin.out] at rS
      replace rS := hid rS.out.f2.drop
      go_roundw
      case rel => exact ⟨j + 1, by omega, by go_num, by rw [hsn.out]; exact rS.out⟩
      case measure => simp [intOf]; omega
    · obtain rfl : j = N := by omega
      have dc : decide ((j : Int) < (j : Int)) = false := decide_eq_false (by omega)
      have hconv := rS.out.o0.conv
      go_wp2
      go_ret2
      exact ⟨_, rfl, rS.out.o1, rS.out.bel⟩
end Go.Proofs.Ythempofohidlnaa

/- ImageOf and SectionOf: the reference's side. -/
namespace Go.Proofs.Ythempofohidlnaa
open Go.RowKit
set_option linter.unusedVariables false
set_option linter.unusedSimpArgs false
-- @LONG

set_option maxHeartbeats 2000000 in
set_option maxRecDepth 4000 in
theorem specImg_any (w : World) (m : Mach) (hkm : m.Ok) (b0 : Nat) (v : Value) (g : List Int) (hg : Own w b0 2 v (ints g)) (hl : g.length < 2000000) (ws : ByteArray) (hws : ws.size < 1000000000000) :
    Calls Try.prog 31 #[.agg (mcells m), v, .string ws] w fun e w' => e = .returned (.tuple #[.string (imgAns m g ws).1, .int .i64 (imgAns m g ws).2]) ∧ Below w.heap.size w w' := by
  have hS := hid ((St.arg w hg).newMB m 34)
  have hbo := hid (fun W (hr : Own W 0 2 v (ints g)) => l02Both_any W m hkm 0 v g hr hl ws hws)
  rcases gw_cases m g ws with h | ⟨l, s, gd, hgw, hw⟩ | ⟨l, s, gd, hgw, hw⟩
  · have hbad : ¬ IsGw m g := by
      rcases h with h | h
      · exact fun k => h k.1
      · exact h
    rw [imgAns_1 hbad]
    rw [codB_n hbad] at hbo
    clear h hbad
    replace hkm := hid hkm; replace hg := hid hg
    go_enter Try.func31, Try.ntmps31
    go_wp2_with (first
      | ((with_reducible refine gate (N := 11) rfl ?_); refine load_mach rfl _ rfl w.heap.size rfl m hS.out.m0 ?_)
      | (go_at_call 78; (with_reducible refine (hbo.out _ hS.out.o1).mono ?_); rintro e w1 ⟨rfl, hb⟩; replace hS := hid (hS.out.call hb); clear hbo; clear hb))
    go_ret2
    exact ⟨rfl, hS.out.bel⟩
  · rw [imgAns_w gd hw]
    rw [codB_w gd hw] at hbo
    clear hgw hw; replace gd := hid gd
    replace hkm := hid hkm; replace hg := hid hg
    go_enter Try.func31, Try.ntmps31
    go_wp2_with (first
      | ((with_reducible refine gate (N := 11) rfl ?_); refine load_mach rfl _ rfl w.heap.size rfl m hS.out.m0 ?_)
      | (go_at_call 78; (with_reducible refine (hbo.out _ hS.out.o1).mono ?_); rintro e w1 ⟨rfl, hb⟩; replace hS := hid (hS.out.call hb); clear hbo; clear hb))
    go_ret2
    exact ⟨rfl, hS.out.bel⟩
  · rw [imgAns_0 gd hgw hw]
    rw [codB_0 gd hgw hw] at hbo
    obtain ⟨hwe, hwl, hw40⟩ := lets_wstr ws hw
    obtain ⟨hgl, hgn⟩ := hgw.parts gd
    have hiv := hid (fun W => l01Inverse_any W m l s gd hkm)
    have hac := hid (fun W (hO : Own W 0 2 v (ints g)) => (by have h := l02Act_any W m l s gd 0 v g hO hgn (by omega) (lets ws) hwl (by omega); rw [← hwe] at h; exact h : Calls Try.prog 79 #[.agg (mcells m), .agg (mcells (inv m l s)), v, .string ws] W fun e w' => ∃ v', e = .returned (.tuple #[.string (wstr (imgW m l s g (lets ws))), v']) ∧ Own w' W.heap.size 2 v' (ints (secW m l s g (lets ws))) ∧ Below W.heap.size W w'))
    replace hkm := hid hkm; replace hg := hid hg; replace hgw := hid hgw; replace gd := hid gd; replace hwe := hid hwe
    generalize wstr (imgW m l s g (lets ws)) = ans at *
    generalize secW m l s g (lets ws) = se at *
    generalize inv m l s = I at *
    go_enter Try.func31, Try.ntmps31
    go_upto_region 4 with (first
      | ((with_reducible refine gate (N := 11) rfl ?_); refine load_mach rfl _ rfl w.heap.size rfl m hS.out.m0 ?_)
      | (go_at_call 78; (with_reducible refine (hbo.out _ hS.out.o1).mono ?_); rintro e w1 ⟨rfl, hb⟩; replace hS := hid (hS.out.call hb); clear hbo; clear hb))
    replace hS := hid hS.out.drew
    refine wp_region_heldL (L := [(5, (fun w' : World => MB w' 34 w.heap.size m))]) (by kernel_rfl) (HeldL.cons (fun _ => hS.out.m0) HeldL.nil) (fun hHeld => ?_)
    generalize w1.drew = wa at *
    refine wpAnyL_takeP (i := 0) 5 [] (v := (.agg (mcells m))) (fun w' : World => MB w' 34 w.heap.size m) rfl (by kernel_rfl) (by kernel_rfl) (by kernel_rfl) (by rfl) (by kernel_rfl) (by simp) (fun _ _ _ h => h) (Or.inl ⟨by rfl, ?_⟩) (by assumption) ?_
    · (intro W hW; exact exec_load _ rfl rfl (load_run hW))
    intro hHeld'
    clear hHeld; have hHeld := hHeld'; clear hHeld'
    try simp only [Act.put, List.getElem_toArray, List.getElem_cons_succ, List.getElem_cons_zero, List.setIfInBounds_toArray, List.set_cons_zero, List.set_cons_succ]
    refine wpAnyL_takeP (i := 1) 5 [2] (v := (.agg (mcells m))) (fun w' : World => MB w' 34 w.heap.size m) rfl (by kernel_rfl) (by kernel_rfl) (by kernel_rfl) (by rfl) (by kernel_rfl) (by simp) (fun _ _ _ h => h) (Or.inl ⟨by rfl, ?_⟩) (by assumption) ?_
    · (intro W hW; exact exec_load _ rfl rfl (load_run hW))
    intro hHeld'
    clear hHeld; have hHeld := hHeld'; clear hHeld'
    try simp only [Act.put, List.getElem_toArray, List.getElem_cons_succ, List.getElem_cons_zero, List.setIfInBounds_toArray, List.set_cons_zero, List.set_cons_succ]
    refine wpAnyL_take0 (i := 3) (v := ?_) rfl (by kernel_rfl) (by kernel_rfl) (by kernel_rfl) (by rfl) (fun _ _ _ h => h) (Or.inl ⟨by rfl, ?_⟩) (by assumption) ?_
    rotate_left
    · (intro W _; go_simp; (with_reducible rfl))
    intro hHeld'
    clear hHeld; have hHeld := hHeld'; clear hHeld'
    try simp only [Act.put, List.getElem_toArray, List.getElem_cons_succ, List.getElem_cons_zero, List.setIfInBounds_toArray, List.set_cons_zero, List.set_cons_succ]
    refine wpAnyL_take0 (i := 4) (v := ?_) rfl (by kernel_rfl) (by kernel_rfl) (by kernel_rfl) (by rfl) (fun _ _ _ h => h) (Or.inl ⟨by rfl, ?_⟩) (by assumption) ?_
    rotate_left
    · (intro W _; go_simp; (with_reducible rfl))
    intro hHeld'
    clear hHeld; have hHeld := hHeld'; clear hHeld'
    try simp only [Act.put, List.getElem_toArray, List.getElem_cons_succ, List.getElem_cons_zero, List.setIfInBounds_toArray, List.set_cons_zero, List.set_cons_succ]
    refine wpAnyL_ready (rs := [2]) (by kernel_rfl) (by simp) ?_
    refine AllReadyL.cons rfl (fun K hK => ?_) AllReadyL.nil
    go_simp
    (with_reducible refine (hiv.out _).mono ?_)
    rintro e w3 ⟨rfl, hb⟩
    replace hS := hid (hS.out.call hb)
    clear hb
    go_simp
    refine hK.out _ _ (HeldL.cons (fun _ => hS.out.m0) HeldL.nil) (fun hHeld' => ?_)
    clear hK K hHeld; have hHeld := hHeld'; clear hHeld'
    try simp only [Act.put, List.getElem_toArray, List.getElem_cons_succ, List.getElem_cons_zero, List.setIfInBounds_toArray, List.set_cons_zero, List.set_cons_succ]
    refine wpAnyL_ready (rs := [5]) (by kernel_rfl) (by simp) ?_
    refine AllReadyL.cons rfl (fun K hK => ?_) AllReadyL.nil
    go_simp
    (with_reducible refine (hac.out _ hS.out.o1).mono ?_)
    rintro e w4 ⟨v', rfl, hO, hb⟩
    replace hS := hid (hS.out.callOwn hb hO)
    clear hb hO
    go_simp
    refine hK.out _ _ (HeldL.cons (fun h => absurd h (by decide +kernel)) HeldL.nil) (fun hHeld' => ?_)
    clear hK K hHeld; have hHeld := hHeld'; clear hHeld'
    try simp only [Act.put, List.getElem_toArray, List.getElem_cons_succ, List.getElem_cons_zero, List.setIfInBounds_toArray, List.set_cons_zero, List.set_cons_succ]
    refine wpAnyL_take0 (i := 6) (v := ?_) rfl (by kernel_rfl) (by kernel_rfl) (by kernel_rfl) (by rfl) (fun _ _ _ h => h) (Or.inl ⟨by rfl, ?_⟩) (by assumption) ?_
    rotate_left
    · (intro W _; go_simp; (with_reducible rfl))
    intro hHeld'
    clear hHeld; have hHeld := hHeld'; clear hHeld'
    try simp only [Act.put, List.getElem_toArray, List.getElem_cons_succ, List.getElem_cons_zero, List.setIfInBounds_toArray, List.set_cons_zero, List.set_cons_succ]
    refine wpAnyL_take0 (i := 7) (v := ?_) rfl (by kernel_rfl) (by kernel_rfl) (by kernel_rfl) (by rfl) (fun _ _ _ h => h) (Or.inl ⟨by rfl, ?_⟩) (by assumption) ?_
    rotate_left
    · (intro W _; go_simp; (with_reducible rfl))
    intro hHeld'
    clear hHeld; have hHeld := hHeld'; clear hHeld'
    try simp only [Act.put, List.getElem_toArray, List.getElem_cons_succ, List.getElem_cons_zero, List.setIfInBounds_toArray, List.set_cons_zero, List.set_cons_succ]
    refine wpAnyL_take0 (i := 8) (v := ?_) rfl (by kernel_rfl) (by kernel_rfl) (by kernel_rfl) (by rfl) (fun _ _ _ h => h) (Or.inl ⟨by rfl, ?_⟩) (by assumption) ?_
    rotate_left
    · (intro W _; go_simp; (with_reducible rfl))
    intro hHeld'
    clear hHeld; have hHeld := hHeld'; clear hHeld'
    try simp only [Act.put, List.getElem_toArray, List.getElem_cons_succ, List.getElem_cons_zero, List.setIfInBounds_toArray, List.set_cons_zero, List.set_cons_succ]
    refine wpAnyL_take0 (i := 9) (v := ?_) rfl (by kernel_rfl) (by kernel_rfl) (by kernel_rfl) (by rfl) (fun _ _ _ h => h) (Or.inl ⟨by rfl, ?_⟩) (by assumption) ?_
    rotate_left
    · (intro W _; go_simp; (with_reducible rfl))
    intro hHeld'
    clear hHeld; have hHeld := hHeld'; clear hHeld'
    try simp only [Act.put, List.getElem_toArray, List.getElem_cons_succ, List.getElem_cons_zero, List.setIfInBounds_toArray, List.set_cons_zero, List.set_cons_succ]
    refine wpAnyL_take0 (i := 10) (v := ?_) rfl (by kernel_rfl) (by kernel_rfl) (by kernel_rfl) (by rfl) (fun _ _ _ h => h) (Or.inl ⟨by rfl, ?_⟩) (by assumption) ?_
    rotate_left
    · (intro W _; go_simp; (with_reducible rfl))
    intro hHeld'
    clear hHeld; have hHeld := hHeld'; clear hHeld'
    try simp only [Act.put, List.getElem_toArray, List.getElem_cons_succ, List.getElem_cons_zero, List.setIfInBounds_toArray, List.set_cons_zero, List.set_cons_succ]
    refine wpAnyL_done (by kernel_rfl) ?_ _
    go_wp2
    go_ret2
    exact ⟨rfl, hS.out.bel⟩
set_option maxHeartbeats 2000000 in
set_option maxRecDepth 4000 in
theorem specSec_any (w : World) (m : Mach) (hkm : m.Ok) (b0 : Nat) (v : Value) (g : List Int) (hg : Own w b0 2 v (ints g)) (hl : g.length < 2000000) (ws : ByteArray) (hws : ws.size < 1000000000000) :
    Calls Try.prog 33 #[.agg (mcells m), v, .string ws] w fun e w' => ∃ v', e = .returned (.tuple #[v', .int .i64 (secAns m g ws).2]) ∧ Own w' w.heap.size 2 v' (ints (secAns m g ws).1) ∧ Below w.heap.size w w' := by
  have hS := hid ((St.arg w hg).newMB m 34)
  have hbo := hid (fun W (hr : Own W 0 2 v (ints g)) => l02Both_any W m hkm 0 v g hr hl ws hws)
  rcases gw_cases m g ws with h | ⟨l, s, gd, hgw, hw⟩ | ⟨l, s, gd, hgw, hw⟩
  · have hbad : ¬ IsGw m g := by
      rcases h with h | h
      · exact fun k => h k.1
      · exact h
    rw [secAns_1 hbad]
    rw [codB_n hbad] at hbo
    clear h hbad
    replace hkm := hid hkm; replace hg := hid hg
    go_enter Try.func33, Try.ntmps33
    go_wp2_with (first
      | ((with_reducible refine gate (N := 11) rfl ?_); refine load_mach rfl _ rfl w.heap.size rfl m hS.out.m0 ?_)
      | (go_at_call 78; (with_reducible refine (hbo.out _ hS.out.o1).mono ?_); rintro e w1 ⟨rfl, hb⟩; replace hS := hid (hS.out.call hb); clear hbo; clear hb))
    go_ret2
    exact ⟨_, rfl, Own.nil _ _ _, hS.out.bel⟩
  · rw [secAns_w gd hw]
    rw [codB_w gd hw] at hbo
    clear hgw hw; replace gd := hid gd
    replace hkm := hid hkm; replace hg := hid hg
    go_enter Try.func33, Try.ntmps33
    go_wp2_with (first
      | ((with_reducible refine gate (N := 11) rfl ?_); refine load_mach rfl _ rfl w.heap.size rfl m hS.out.m0 ?_)
      | (go_at_call 78; (with_reducible refine (hbo.out _ hS.out.o1).mono ?_); rintro e w1 ⟨rfl, hb⟩; replace hS := hid (hS.out.call hb); clear hbo; clear hb))
    go_ret2
    exact ⟨_, rfl, Own.nil _ _ _, hS.out.bel⟩
  · rw [secAns_0 gd hgw hw]
    rw [codB_0 gd hgw hw] at hbo
    obtain ⟨hwe, hwl, hw40⟩ := lets_wstr ws hw
    obtain ⟨hgl, hgn⟩ := hgw.parts gd
    have hiv := hid (fun W => l01Inverse_any W m l s gd hkm)
    have hac := hid (fun W (hO : Own W 0 2 v (ints g)) => (by have h := l02Act_any W m l s gd 0 v g hO hgn (by omega) (lets ws) hwl (by omega); rw [← hwe] at h; exact h : Calls Try.prog 79 #[.agg (mcells m), .agg (mcells (inv m l s)), v, .string ws] W fun e w' => ∃ v', e = .returned (.tuple #[.string (wstr (imgW m l s g (lets ws))), v']) ∧ Own w' W.heap.size 2 v' (ints (secW m l s g (lets ws))) ∧ Below W.heap.size W w'))
    replace hkm := hid hkm; replace hg := hid hg; replace hgw := hid hgw; replace gd := hid gd; replace hwe := hid hwe
    generalize wstr (imgW m l s g (lets ws)) = ans at *
    generalize secW m l s g (lets ws) = se at *
    generalize inv m l s = I at *
    go_enter Try.func33, Try.ntmps33
    go_upto_region 4 with (first
      | ((with_reducible refine gate (N := 11) rfl ?_); refine load_mach rfl _ rfl w.heap.size rfl m hS.out.m0 ?_)
      | (go_at_call 78; (with_reducible refine (hbo.out _ hS.out.o1).mono ?_); rintro e w1 ⟨rfl, hb⟩; replace hS := hid (hS.out.call hb); clear hbo; clear hb))
    replace hS := hid hS.out.drew
    refine wp_region_heldL (L := [(5, (fun w' : World => MB w' 34 w.heap.size m))]) (by kernel_rfl) (HeldL.cons (fun _ => hS.out.m0) HeldL.nil) (fun hHeld => ?_)
    generalize w1.drew = wa at *
    refine wpAnyL_takeP (i := 0) 5 [] (v := (.agg (mcells m))) (fun w' : World => MB w' 34 w.heap.size m) rfl (by kernel_rfl) (by kernel_rfl) (by kernel_rfl) (by rfl) (by kernel_rfl) (by simp) (fun _ _ _ h => h) (Or.inl ⟨by rfl, ?_⟩) (by assumption) ?_
    · (intro W hW; exact exec_load _ rfl rfl (load_run hW))
    intro hHeld'
    clear hHeld; have hHeld := hHeld'; clear hHeld'
    try simp only [Act.put, List.getElem_toArray, List.getElem_cons_succ, List.getElem_cons_zero, List.setIfInBounds_toArray, List.set_cons_zero, List.set_cons_succ]
    refine wpAnyL_takeP (i := 1) 5 [2] (v := (.agg (mcells m))) (fun w' : World => MB w' 34 w.heap.size m) rfl (by kernel_rfl) (by kernel_rfl) (by kernel_rfl) (by rfl) (by kernel_rfl) (by simp) (fun _ _ _ h => h) (Or.inl ⟨by rfl, ?_⟩) (by assumption) ?_
    · (intro W hW; exact exec_load _ rfl rfl (load_run hW))
    intro hHeld'
    clear hHeld; have hHeld := hHeld'; clear hHeld'
    try simp only [Act.put, List.getElem_toArray, List.getElem_cons_succ, List.getElem_cons_zero, List.setIfInBounds_toArray, List.set_cons_zero, List.set_cons_succ]
    refine wpAnyL_take0 (i := 3) (v := ?_) rfl (by kernel_rfl) (by kernel_rfl) (by kernel_rfl) (by rfl) (fun _ _ _ h => h) (Or.inl ⟨by rfl, ?_⟩) (by assumption) ?_
    rotate_left
    · (intro W _; go_simp; (with_reducible rfl))
    intro hHeld'
    clear hHeld; have hHeld := hHeld'; clear hHeld'
    try simp only [Act.put, List.getElem_toArray, List.getElem_cons_succ, List.getElem_cons_zero, List.setIfInBounds_toArray, List.set_cons_zero, List.set_cons_succ]
    refine wpAnyL_take0 (i := 4) (v := ?_) rfl (by kernel_rfl) (by kernel_rfl) (by kernel_rfl) (by rfl) (fun _ _ _ h => h) (Or.inl ⟨by rfl, ?_⟩) (by assumption) ?_
    rotate_left
    · (intro W _; go_simp; (with_reducible rfl))
    intro hHeld'
    clear hHeld; have hHeld := hHeld'; clear hHeld'
    try simp only [Act.put, List.getElem_toArray, List.getElem_cons_succ, List.getElem_cons_zero, List.setIfInBounds_toArray, List.set_cons_zero, List.set_cons_succ]
    refine wpAnyL_ready (rs := [2]) (by kernel_rfl) (by simp) ?_
    refine AllReadyL.cons rfl (fun K hK => ?_) AllReadyL.nil
    go_simp
    (with_reducible refine (hiv.out _).mono ?_)
    rintro e w3 ⟨rfl, hb⟩
    replace hS := hid (hS.out.call hb)
    clear hb
    go_simp
    refine hK.out _ _ (HeldL.cons (fun _ => hS.out.m0) HeldL.nil) (fun hHeld' => ?_)
    clear hK K hHeld; have hHeld := hHeld'; clear hHeld'
    try simp only [Act.put, List.getElem_toArray, List.getElem_cons_succ, List.getElem_cons_zero, List.setIfInBounds_toArray, List.set_cons_zero, List.set_cons_succ]
    refine wpAnyL_ready (rs := [5]) (by kernel_rfl) (by simp) ?_
    refine AllReadyL.cons rfl (fun K hK => ?_) AllReadyL.nil
    go_simp
    (with_reducible refine (hac.out _ hS.out.o1).mono ?_)
    rintro e w4 ⟨v', rfl, hO, hb⟩
    replace hS := hid (hS.out.callOwn hb hO)
    clear hb hO
    go_simp
    refine hK.out _ _ (HeldL.cons (fun h => absurd h (by decide +kernel)) HeldL.nil) (fun hHeld' => ?_)
    clear hK K hHeld; have hHeld := hHeld'; clear hHeld'
    try simp only [Act.put, List.getElem_toArray, List.getElem_cons_succ, List.getElem_cons_zero, List.setIfInBounds_toArray, List.set_cons_zero, List.set_cons_succ]
    refine wpAnyL_take0 (i := 6) (v := ?_) rfl (by kernel_rfl) (by kernel_rfl) (by kernel_rfl) (by rfl) (fun _ _ _ h => h) (Or.inl ⟨by rfl, ?_⟩) (by assumption) ?_
    rotate_left
    · (intro W _; go_simp; (with_reducible rfl))
    intro hHeld'
    clear hHeld; have hHeld := hHeld'; clear hHeld'
    try simp only [Act.put, List.getElem_toArray, List.getElem_cons_succ, List.getElem_cons_zero, List.setIfInBounds_toArray, List.set_cons_zero, List.set_cons_succ]
    refine wpAnyL_take0 (i := 7) (v := ?_) rfl (by kernel_rfl) (by kernel_rfl) (by kernel_rfl) (by rfl) (fun _ _ _ h => h) (Or.inl ⟨by rfl, ?_⟩) (by assumption) ?_
    rotate_left
    · (intro W _; go_simp; (with_reducible rfl))
    intro hHeld'
    clear hHeld; have hHeld := hHeld'; clear hHeld'
    try simp only [Act.put, List.getElem_toArray, List.getElem_cons_succ, List.getElem_cons_zero, List.setIfInBounds_toArray, List.set_cons_zero, List.set_cons_succ]
    refine wpAnyL_take0 (i := 8) (v := ?_) rfl (by kernel_rfl) (by kernel_rfl) (by kernel_rfl) (by rfl) (fun _ _ _ h => h) (Or.inl ⟨by rfl, ?_⟩) (by assumption) ?_
    rotate_left
    · (intro W _; go_simp; (with_reducible rfl))
    intro hHeld'
    clear hHeld; have hHeld := hHeld'; clear hHeld'
    try simp only [Act.put, List.getElem_toArray, List.getElem_cons_succ, List.getElem_cons_zero, List.setIfInBounds_toArray, List.set_cons_zero, List.set_cons_succ]
    refine wpAnyL_take0 (i := 9) (v := ?_) rfl (by kernel_rfl) (by kernel_rfl) (by kernel_rfl) (by rfl) (fun _ _ _ h => h) (Or.inl ⟨by rfl, ?_⟩) (by assumption) ?_
    rotate_left
    · (intro W _; go_simp; (with_reducible rfl))
    intro hHeld'
    clear hHeld; have hHeld := hHeld'; clear hHeld'
    try simp only [Act.put, List.getElem_toArray, List.getElem_cons_succ, List.getElem_cons_zero, List.setIfInBounds_toArray, List.set_cons_zero, List.set_cons_succ]
    refine wpAnyL_take0 (i := 10) (v := ?_) rfl (by kernel_rfl) (by kernel_rfl) (by kernel_rfl) (by rfl) (fun _ _ _ h => h) (Or.inl ⟨by rfl, ?_⟩) (by assumption) ?_
    rotate_left
    · (intro W _; go_simp; (with_reducible rfl))
    intro hHeld'
    clear hHeld; have hHeld := hHeld'; clear hHeld'
    try simp only [Act.put, List.getElem_toArray, List.getElem_cons_succ, List.getElem_cons_zero, List.setIfInBounds_toArray, List.set_cons_zero, List.set_cons_succ]
    refine wpAnyL_done (by kernel_rfl) ?_ _
    go_wp2
    go_ret2
    exact ⟨_, rfl, hS.out.o0, hS.out.bel⟩
end Go.Proofs.Ythempofohidlnaa

/- SectionOf: the law. -/
namespace Go.Proofs.Ythempofohidlnaa
open Go.RowKit
set_option linter.unusedVariables false
set_option linter.unusedSimpArgs false

theorem secAns_len (m : Mach) (g : List Int) (ws : ByteArray) : (secAns m g ws).1.length ≤ 40 := by
  unfold secAns
  split
  · rename_i h
    obtain ⟨l, s, gd⟩ := h.1.1.good
    rw [secW_length]; exact (h.1.parts gd).1
  · exact Nat.zero_le _
set_option maxHeartbeats 8000000 in
set_option maxRecDepth 100000 in
theorem sectionOf_law (w : World) (m : Mach) (hkm : m.Ok) (v : Value) (l : List Int) (hl : ArgI w v l) (ws : ByteArray) (hws : ws.size ≤ maxLen) :
    Calls Try.prog 9 #[.agg (mcells m), v, .string ws] w fun e w' => e = .returned (.bool true) ∧ Below w.heap.size w w' := by
  have hS := hid ((St.start w).newMB m 32)
  have hl' := hid hl
  obtain ⟨A, c, rfl, _⟩ := hl
  replace hws := hid hws
  by_cases h1 : l.length ≤ 1048576
  · have d1 : decide ((1048576 : Int) < (l.length : Int)) = false := decide_eq_false (by omega)
    by_cases h2 : ws.size ≤ 1048576
    · have d2 : decide ((1048576 : Int) < (ws.size : Int)) = false := decide_eq_false (by omega)
      have hti := hid (fun W (hW : Below w.heap.size w W) => toInt64S_any W _ l (hl'.out.below hW) (by omega))
      have hs := hid (fun W b vq (hO : Own W b 2 vq (ints l)) => specSec_any W m hkm b vq l hO (by omega) ws (by omega))
      have hp := hid (fun W b vq (hO : Own W b 2 vq (ints l)) => implSec_any W m hkm b vq l hO (by omega) ws (by omega))
      have heq := hid (fun W b1 b2 v1 v2 (hO1 : Own W b1 2 v1 (ints l)) (hO2 : Own W b2 2 v2 (ints l)) => eqInt64SL_any W b1 b2 v1 v2 l hO1 hO2 (by omega))
      have hlen := secAns_len m l ws
      have hcc : ((secAns m l ws).2 != (secAns m l ws).2) = false := by simp
      generalize (secAns m l ws).1 = r at *
      generalize (secAns m l ws).2 = cd at *
      have heq2 := hid (fun W b1 b2 v1 v2 (hO1 : Own W b1 2 v1 (ints r)) (hO2 : Own W b2 2 v2 (ints r)) => eqInt64SL_any W b1 b2 v1 v2 r hO1 hO2 (by omega))
      have hm1 := hid (fun L W vq (hS : St w.heap.size w (Asn.own w.heap.size 2 vq (ints l) :: L) W) => markS1 w.heap.size w L W vq (ints l) l.length (ints_length l) hS (by omega))
      have hm2 := hid (fun L W vq (hS : St w.heap.size w (Asn.own w.heap.size 2 vq (ints r) :: L) W) => markS1 w.heap.size w L W vq (ints r) r.length (ints_length r) hS (by omega))
      have hhe := hid (fun W b vq (hO : Own W b 2 vq (marks 1 r.length)) => held1L W b vq r.length hO (by omega))
      have z1 : decide ((l.length : Int) + 1 < 0) = false := decide_eq_false (by omega)
      have z2 : decide ((r.length : Int) + 1 < 0) = false := decide_eq_false (by omega)
      have z3 : ((r.length : Int) + 1 != (r.length : Int) + 1) = false := by simp
      replace hkm := hid hkm
      replace hlen := hid hlen
      generalize r.length = nr at *
      generalize l.length = n at *
      go_enter Try.func9, Try.ntmps9
      go_wp2_with (first
        | ((with_reducible refine gate (N := 24) rfl ?_); refine load_lmach rfl _ rfl w.heap.size rfl m hS.out.m0 ?_)
        | ((with_reducible refine gate (N := 35) rfl ?_); refine load_lmach rfl _ rfl w.heap.size rfl m hS.out.m3 ?_)
        | ((with_reducible refine gate (N := 84) rfl ?_); refine load_lmach rfl _ rfl w.heap.size rfl m hS.out.m5 ?_)
        | (go_at_call 22; (with_reducible refine (toMachine_any m hkm.out _).mono ?_); rintro e w1 ⟨rfl, hb⟩; replace hS := hid (hS.out.call hb); clear hb)
        | (go_at_call 16; (with_reducible refine (hti.out _ hS.out.bel).mono ?_); rintro e w2 ⟨vq, rfl, hO, hb⟩; replace hS := hid (hS.out.callOwn hb hO); clear hb hO)
        | (go_at_call 33; (with_reducible refine (hs.out _ _ _ hS.out.o0).mono ?_); rintro e w3 ⟨v7, rfl, hO, hb⟩; replace hS := hid (hS.out.callOwn hb hO); clear hb hO)
        | (go_at_call 34; (with_reducible refine (hp.out _ _ _ hS.out.o0).mono ?_); rintro e w4 ⟨v8, rfl, hO, hb⟩; replace hS := hid (hS.out.callOwn hb hO); clear hb hO)
        | (go_at_call 18; (first
            | (with_reducible refine (heq2.out _ _ _ _ _ hS.out.o0 hS.out.o2).mono ?_)
            | (with_reducible refine (heq2.out _ _ _ _ _ hS.out.o2 hS.out.o3).mono ?_)
            | (with_reducible refine (heq2.out _ _ _ _ _ hS.out.o0 hS.out.o5).mono ?_)
            | (with_reducible refine (heq.out _ _ _ _ _ hS.out.o2 hS.out.o0).mono ?_)); rintro e w5 ⟨rfl, hb⟩; replace hS := hid (hS.out.call hb); clear hb)
        | (go_at_call 19; (first
            | (with_reducible refine (hm1.out _ _ _ hS.out.f2).mono ?_)
            | (with_reducible refine (hm2.out _ _ _ hS.out.f2).mono ?_)); rintro e w5 ⟨rfl, hS'⟩; replace hS := hid hS'; clear hS')
        | (go_at_call 20; (first
            | (with_reducible refine (hhe.out _ _ _ hS.out.o0).mono ?_)
            | (with_reducible refine (hhe.out _ _ _ hS.out.o2).mono ?_)); rintro e w5 ⟨rfl, rfl⟩))
      go_ret
      exact ⟨rfl, hS.out.bel⟩
    · have d2 : decide ((1048576 : Int) < (ws.size : Int)) = true := decide_eq_true (by omega)
      generalize l.length = n at *
      go_enter Try.func9, Try.ntmps9
      go_wp2
      go_ret
      exact ⟨rfl, hS.out.bel⟩
  · have d1 : decide ((1048576 : Int) < (l.length : Int)) = true := decide_eq_true (by omega)
    generalize l.length = n at *
    go_enter Try.func9, Try.ntmps9
    go_wp2
    go_ret
    exact ⟨rfl, hS.out.bel⟩
end Go.Proofs.Ythempofohidlnaa
