/- What the proof of WayTo leans on, part 15 of 15. -/
import Derived.Test.YthempofohidlnaaZWayToN
/- DistancesFrom: what the reference answers. -/
namespace Go.Proofs.Ythempofohidlnaa
open Go.RowKit
set_option linter.unusedVariables false
set_option linter.unusedSimpArgs false
-- @LONG

open Classical in
/-- The code of a place: a level and words of it. -/
noncomputable def plc (m : Mach) (n : Int) (ks : List Int) : Int := if levelI m n = 0 then (if ∀ x ∈ ks, inLv m n x then 0 else 2) else levelI m n
set_option maxHeartbeats 4000000 in
set_option maxRecDepth 100000 in
theorem l05Place_any (w : World) (m : Mach) (hk : m.Ok) (n : Int) (b0 : Nat) (v : Value) (ks : List Int) (hv : Own w b0 2 v (ints ks)) (hks : ks.length ≤ 2) :
    Calls Try.prog 83 #[.agg (mcells m), .int .i64 n, v] w fun e w' => e = .returned (.int .i64 (plc m n ks)) ∧ Below w.heap.size w w' := by
  have hS := hid ((St.arg w hv).newMB m 34)
  have hcode := hid (fun W => l05Code_any W m hk n)
  have hil := ints_length ks
  obtain ⟨A, c, rfl, _, hA⟩ := hv.form
  rw [hil] at hS hv ⊢
  by_cases h0 : levelI m n = 0
  · obtain ⟨l, s, n, gd, rfl, hn5, hnl, hpw⟩ := levelI_good h0
    rw [h0] at hcode
    have l2 := gd.l2
    have l3 := gd.l3
    have gL := hid gd.L
    have hpo := hid (fun W => l01Power_any l n (by omega) (by omega) (by omega) W)
    have hp0 : (∀ x ∈ ks, inLv m n x) → plc m n ks = 0 := fun h => by unfold plc; rw [if_pos h0, if_pos h]
    have hp2 : (¬ ∀ x ∈ ks, inLv m n x) → plc m n ks = 2 := fun h => by unfold plc; rw [if_pos h0, if_neg h]
    have hiv := hid (fun x => (show inLv m n x ↔ (0 ≤ x ∧ x ≤ ((pw l n : Nat) : Int) - 1) from by unfold inLv; rw [gd.L]; simp only [Int.toNat_natCast]; omega))
    have hin := hid (fun x W => l01In_any x 0 (((pw l n : Nat) : Int) - 1) (decide (0 ≤ x ∧ x ≤ ((pw l n : Nat) : Int) - 1)) rfl W)
    generalize plc m n ks = R at *
    replace hp0 := hid hp0; replace hp2 := hid hp2
    replace hk := hid hk; replace gd := hid gd
    clear h0
    generalize hM : pw l n = M at *
    have ew : IntKind.i64.wrap ((M : Int) - 1) = (M : Int) - 1 := IntWalk.i64_in _ (by omega)
    go_enter Try.func83, Try.ntmps83
    go_upto_region 2 with (first
      | ((with_reducible refine gate (N := 9) rfl ?_); refine load_mach rfl _ rfl w.heap.size rfl m hS.out.m0 ?_)
      | (go_at_call 90; (with_reducible refine (hcode.out _).mono ?_); rintro e w1 ⟨rfl, hb⟩; replace hS := hid (hS.out.call hb); clear hb hcode))
    go_wp2
    go_loopw [8] (fun i wr => ∃ j : Nat, j ≤ ks.length ∧ i = .int .i64 j ∧ (∀ i x, i < j → ks[i]? = some x → inLv m n x) ∧ St w.heap.size w [Asn.mb 34 w.heap.size m, Asn.own 0 2 (.slice A ks.length c) (ints ks)] wr) (fun i _ => ks.length - (intOf i).toNat)
    case atStart => exact ⟨0, Nat.zero_le _, rfl, fun i x h => absurd h (by omega), hS.out⟩
    case round =>
      clear hS
      obtain ⟨j, hj, rfl, hall, rS⟩ := hrel
      replace hall := hid hall
      have cL := rS.m0.cL
      rw [gL.out] at cL
      by_cases hlt : j < ks.length
      · obtain ⟨x, hx⟩ : ∃ x, ks[j]? = some x := ⟨_, List.getElem?_eq_getElem hlt⟩
        obtain ⟨ga, rfl⟩ : ∃ ga, A = some ⟨ga, 0, none⟩ := by
          rcases hA with ⟨_, h1, _⟩ | ⟨g, h1, _⟩
          · have h2 : ks.length = 0 := by rw [← hil, h1]; rfl
            omega
          · exact ⟨g, h1⟩
        have co := rS.o1.cellAt j (.int .i64 x) (by simp [ints, hx])
        have hvx := hid (hiv.out x)
        replace hx := hid hx
        replace rS := hid rS
        replace hA := hid hA
        by_cases hr : 0 ≤ x ∧ x ≤ (M : Int) - 1
        · have hin2 := hid (fun W => by have h := hin.out x W; rw [decide_eq_true hr] at h; exact h)
          have hall2 := hid (fun i y (hi : i < j + 1) (hy : ks[i]? = some y) => (show inLv m n y from by
            by_cases e : i < j
            · exact hall.out i y e hy
            · obtain rfl : i = j := by omega
              rw [hx.out] at hy; injection hy with hy; subst hy
              exact hvx.out.2 hr))
          clear hr hvx
          go_upto_region 5 with (fail)
          go_quiet (first
            | (go_at_call 49; exact quiet_same (hpo.out _))
            | (go_at_call 58; exact quiet_same (hin2.out _)))
          go_wp2
          go_roundw
          case rel => exact ⟨j + 1, by omega, by go_num, hall2.out, rS.out.drewN _⟩
          case measure => simp [intOf]; omega
        · have hin2 := hid (fun W => by have h := hin.out x W; rw [decide_eq_false hr] at h; exact h)
          have hR := hid (hp2.out fun h => hr (hvx.out.1 (h x (List.mem_of_getElem? hx.out))))
          clear hr hvx
          go_upto_region 5 with (fail)
          go_quiet (first
            | (go_at_call 49; exact quiet_same (hpo.out _))
            | (go_at_call 58; exact quiet_same (hin2.out _)))
          go_wp2
          go_ret
          exact ⟨by rw [hR.out]; rfl, (rS.out.drewN _).bel⟩
      · have hR := hid (hp0.out fun x hx => by
          obtain ⟨i, hi, rfl⟩ := List.getElem_of_mem hx
          exact hall.out i _ (by omega) (List.getElem?_eq_getElem hi))
        obtain rfl : ks.length = j := by omega
        replace rS := hid rS
        replace hA := hid hA
        go_wp2
        go_ret
        exact ⟨by rw [hR.out]; rfl, rS.out.bel⟩
  · have hpl := hid (show plc m n ks = levelI m n from if_neg h0)
    rw [hpl.out]
    have dn : ((levelI m n) == 0) = false := by simpa using h0
    generalize levelI m n = cd at *
    replace hk := hid hk; replace hA := hid hA
    clear h0
    go_enter Try.func83, Try.ntmps83
    go_upto_region 2 with (first
      | ((with_reducible refine gate (N := 9) rfl ?_); refine load_mach rfl _ rfl w.heap.size rfl m hS.out.m0 ?_)
      | (go_at_call 90; (with_reducible refine (hcode.out _).mono ?_); rintro e w1 ⟨rfl, hb⟩; replace hS := hid (hS.out.call hb); clear hb hcode))
    go_wp2
    go_loopw [8] (fun i wr => i = .int .i64 0 ∧ St w.heap.size w [Asn.mb 34 w.heap.size m, Asn.own 0 2 (.slice A ks.length c) (ints ks)] wr) (fun _ _ => 0)
    case atStart => exact ⟨rfl, hS.out⟩
    case round =>
      clear hS
      obtain ⟨rfl, rS⟩ := hrel
      replace rS := hid rS
      by_cases hlt : 0 < ks.length
      · have d0 : decide ((0 : Int) < (ks.length : Int)) = true := decide_eq_true (by omega)
        go_wp2
        go_ret
        exact ⟨rfl, rS.out.bel⟩
      · have d0 : decide ((0 : Int) < (ks.length : Int)) = false := decide_eq_false (by omega)
        go_wp2
        go_ret
        exact ⟨rfl, rS.out.bel⟩
set_option maxRecDepth 100000 in
theorem field_tree3 (W : World) (A1 A2 A3 A4 : Option Addr) (n1 c1 n2 c2 n3 c3 n4 c4 : Nat) : (Instr.field 102 (.agg #[.slice A1 n1 c1, .slice A2 n2 c2, .slice A3 n3 c3, .slice A4 n4 c4]) 3).run Try.prog W = .ok (.slice A4 n4 c4) W := by
  first | rfl | kernel_rfl
set_option maxHeartbeats 4000000 in
set_option maxRecDepth 100000 in
theorem specDis_any (w : World) (m : Mach) (hk : m.Ok) (n k : Int) :
    Calls Try.prog 37 #[.agg (mcells m), .int .i64 n, .int .i64 k] w fun e w' => ∃ v, e = .returned (.tuple #[v, .int .i64 (disAns m n k).2]) ∧ Own w' w.heap.size 2 v (ints (disAns m n k).1) ∧ Below w.heap.size w w' := by
  have hS := hid (show St w.heap.size w [Asn.own w.heap.size 2 (.slice (some ⟨w.heap.size + 1, 0, none⟩) 1 1) (ints [k]), Asn.mb 34 w.heap.size m] ((w.alloc (.cells (mcells m) 34)).alloc (.cells #[.int .i64 k] 2)) from by
    have h := ((St.start w).newMB m 34).newOwn [.int .i64 k] 2 (by simp)
    rw [heap_alloc_size] at h
    exact h)
  have hpl := hid (fun W b v (hO : Own W b 2 v (ints [k])) => l05Place_any W m hk n b v [k] hO (by simp))
  have hM1 := hid ((St.start w).newMB m 34)
  have hcode : plc m n [k] = (disAns m n k).2 := by
    unfold plc disAns
    by_cases h0 : levelI m n = 0
    · rw [if_pos h0, if_pos h0]
      by_cases h1 : inLv m n k
      · rw [if_pos (by simpa using h1), if_pos h1]
      · rw [if_neg (by simpa using h1), if_neg h1]
    · rw [if_neg h0, if_neg h0]
  rw [hcode] at hpl
  clear hcode
  by_cases h0 : levelI m n = 0 ∧ inLv m n k
  · obtain ⟨h0, hkk⟩ := h0
    obtain ⟨l, s, n, gd, rfl, hn5, hnl, hpw⟩ := levelI_good h0
    obtain ⟨k, rfl⟩ := Int.eq_ofNat_of_zero_le hkk.1
    have hk' : k < pw l n := by have := hkk.2; rw [gd.L] at this; simp only [Int.toNat_natCast] at this; omega
    rw [disAns_0 gd h0 hk'] at hpl ⊢
    have htb := hid (fun W => l05Tables_any W m l s gd hk n (by omega) (by omega))
    have hgr := hid (fun W b v (hM : Mat W b v (tabA m l n s ++ tabA (inv m l s) l n s)) => grow_any W m l s gd b v _ hM (by rw [List.length_append, tabA_length, tabA_length]; omega) (pw l n) k hpw hk' (lvT m l s n) (fun p hp => lvT_M p hp) (fun j fr hj hf => lvT_lt gd j fr hj hf))
    replace hk := hid hk; replace gd := hid gd
    clear hkk h0
    generalize treeT (lvT m l s n) s (pw l n) k = t at *
    have hft := fun W (A1 A2 A3 A4 : Option Addr) (n1 c1 n2 c2 n3 c3 n4 c4 : Nat) => field_tree3 W A1 A2 A3 A4 n1 c1 n2 c2 n3 c3 n4 c4
    go_enter Try.func37, Try.ntmps37
    go_upto_region 4 with (first
      | ((with_reducible refine gate (N := 9) rfl ?_); refine load_mach rfl _ rfl w.heap.size rfl m hM1.out.m0 ?_)
      | (go_at_call 83; (with_reducible refine (hpl.out _ _ _ hS.out.o0).mono ?_); rintro e w1 ⟨rfl, hb⟩; replace hS := hid (hS.out.call hb).drop; clear hb hpl))
    replace hS := hid hS.out.drew
    refine wp_region_heldL (L := [(5, (fun w' : World => MB w' 34 w.heap.size m))]) (by kernel_rfl) (HeldL.cons (fun _ => hS.out.m0) HeldL.nil) (fun hHeld => ?_)
    generalize w1.drew = wa at *
    refine wpAnyL_takeP (i := 0) 5 [] (v := (.agg (mcells m))) (fun w' : World => MB w' 34 w.heap.size m) rfl (by kernel_rfl) (by kernel_rfl) (by kernel_rfl) (by rfl) (by kernel_rfl) (by simp) (fun _ _ _ h => h) (Or.inl ⟨by rfl, ?_⟩) (by assumption) ?_
    · (intro W hW; exact exec_load _ rfl rfl (load_run hW))
    intro hHeld'
    clear hHeld; have hHeld := hHeld'; clear hHeld'
    try simp only [Act.put, List.getElem_toArray, List.getElem_cons_succ, List.getElem_cons_zero, List.setIfInBounds_toArray, List.set_cons_zero, List.set_cons_succ]
    refine wpAnyL_takeP (i := 1) 5 [3] (v := (.agg (mcells m))) (fun w' : World => MB w' 34 w.heap.size m) rfl (by kernel_rfl) (by kernel_rfl) (by kernel_rfl) (by rfl) (by kernel_rfl) (by simp) (fun _ _ _ h => h) (Or.inl ⟨by rfl, ?_⟩) (by assumption) ?_
    · (intro W hW; exact exec_load _ rfl rfl (load_run hW))
    intro hHeld'
    clear hHeld; have hHeld := hHeld'; clear hHeld'
    try simp only [Act.put, List.getElem_toArray, List.getElem_cons_succ, List.getElem_cons_zero, List.setIfInBounds_toArray, List.set_cons_zero, List.set_cons_succ]
    refine wpAnyL_take0 (i := 2) (v := ?_) rfl (by kernel_rfl) (by kernel_rfl) (by kernel_rfl) (by rfl) (fun _ _ _ h => h) (Or.inl ⟨by rfl, ?_⟩) (by assumption) ?_
    rotate_left
    · (intro W _; go_simp; (with_reducible rfl))
    intro hHeld'
    clear hHeld; have hHeld := hHeld'; clear hHeld'
    try simp only [Act.put, List.getElem_toArray, List.getElem_cons_succ, List.getElem_cons_zero, List.setIfInBounds_toArray, List.set_cons_zero, List.set_cons_succ]
    refine wpAnyL_take0 (i := 4) (v := ?_) rfl (by kernel_rfl) (by kernel_rfl) (by kernel_rfl) (by rfl) (fun _ _ _ h => h) (Or.inl ⟨by rfl, ?_⟩) (by assumption) ?_
    rotate_left
    · (intro W _; go_simp; (with_reducible rfl))
    intro hHeld'
    clear hHeld; have hHeld := hHeld'; clear hHeld'
    try simp only [Act.put, List.getElem_toArray, List.getElem_cons_succ, List.getElem_cons_zero, List.setIfInBounds_toArray, List.set_cons_zero, List.set_cons_succ]
    refine wpAnyL_ready (rs := [3]) (by kernel_rfl) (by simp) ?_
    refine AllReadyL.cons rfl (fun K hK => ?_) AllReadyL.nil
    go_simp
    (with_reducible refine (htb.out _).mono ?_)
    rintro e w3 ⟨v, rfl, hM, hb⟩
    replace hS := hid (hS.out.call hb)
    clear hb
    go_simp
    refine hK.out _ _ (HeldL.cons (fun _ => hS.out.m0) HeldL.nil) (fun hHeld' => ?_)
    clear hK K hHeld; have hHeld := hHeld'; clear hHeld'
    try simp only [Act.put, List.getElem_toArray, List.getElem_cons_succ, List.getElem_cons_zero, List.setIfInBounds_toArray, List.set_cons_zero, List.set_cons_succ]
    refine wpAnyL_ready (rs := [5]) (by kernel_rfl) (by simp) ?_
    refine AllReadyL.cons rfl (fun K hK => ?_) AllReadyL.nil
    go_simp
    (with_reducible refine (hgr.out _ _ _ hM).mono ?_)
    rintro e w4 ⟨g1, c1, g2, g3, g4, X, rfl, hlk, hT⟩
    have hle := hid hS.out.le
    replace hS := hid (hS.out.outer hT)
    have hO := hid hT.o3
    clear hT hlk hM
    go_simp
    refine hK.out _ _ (HeldL.cons (fun h => absurd h (by decide +kernel)) HeldL.nil) (fun hHeld' => ?_)
    clear hK K hHeld; have hHeld := hHeld'; clear hHeld'
    try simp only [Act.put, List.getElem_toArray, List.getElem_cons_succ, List.getElem_cons_zero, List.setIfInBounds_toArray, List.set_cons_zero, List.set_cons_succ]
    refine wpAnyL_take0 (i := 6) (v := ?_) rfl (by kernel_rfl) (by kernel_rfl) (by kernel_rfl) (by rfl) (fun _ _ _ h => h) (Or.inl ⟨by rfl, ?_⟩) (by assumption) ?_
    rotate_left
    · (intro W _; go_simp; (with_reducible rfl))
    intro hHeld'
    clear hHeld; have hHeld := hHeld'; clear hHeld'
    try simp only [Act.put, List.getElem_toArray, List.getElem_cons_succ, List.getElem_cons_zero, List.setIfInBounds_toArray, List.set_cons_zero, List.set_cons_succ]
    refine wpAnyL_take0 (i := 7) (v := ?_) rfl (by kernel_rfl) (by kernel_rfl) (by kernel_rfl) (by rfl) (fun _ _ _ h => h) (Or.inl ⟨by rfl, ?_⟩) (by assumption) ?_
    rotate_left
    · (intro W _; go_simp; (with_reducible rfl))
    intro hHeld'
    clear hHeld; have hHeld := hHeld'; clear hHeld'
    try simp only [Act.put, List.getElem_toArray, List.getElem_cons_succ, List.getElem_cons_zero, List.setIfInBounds_toArray, List.set_cons_zero, List.set_cons_succ]
    refine wpAnyL_take0 (i := 8) (v := ?_) rfl (by kernel_rfl) (by kernel_rfl) (by kernel_rfl) (by rfl) (fun _ _ _ h => h) (Or.inl ⟨by rfl, ?_⟩) (by assumption) ?_
    rotate_left
    · (intro W _; go_simp; (with_reducible rfl))
    intro hHeld'
    clear hHeld; have hHeld := hHeld'; clear hHeld'
    try simp only [Act.put, List.getElem_toArray, List.getElem_cons_succ, List.getElem_cons_zero, List.setIfInBounds_toArray, List.set_cons_zero, List.set_cons_succ]
    refine wpAnyL_done (by kernel_rfl) ?_ _
    go_wp2
    go_ret2
    exact ⟨_, rfl, hO.out.mono hle.out, hS.out.bel⟩
  · obtain ⟨c, hc, hd⟩ : ∃ c, c ≠ 0 ∧ disAns m n k = ([], c) := by
      by_cases h1 : levelI m n = 0
      · exact ⟨2, by decide, disAns_2 h1 fun h => h0 ⟨h1, h⟩⟩
      · exact ⟨_, h1, disAns_c h1⟩
    rw [hd] at hpl ⊢
    have dn : (c != 0) = true := by simpa using hc
    replace hk := hid hk
    clear h0 hd
    go_enter Try.func37, Try.ntmps37
    go_wp2_with (first
      | ((with_reducible refine gate (N := 9) rfl ?_); refine load_mach rfl _ rfl w.heap.size rfl m hM1.out.m0 ?_)
      | (go_at_call 83; (with_reducible refine (hpl.out _ _ _ hS.out.o0).mono ?_); rintro e w1 ⟨rfl, hb⟩; replace hS := hid (hS.out.call hb).drop; clear hb hpl))
    go_ret2
    exact ⟨_, rfl, Own.nil _ _ _, hS.out.bel⟩
end Go.Proofs.Ythempofohidlnaa

/- WayTo: what the reference answers. -/
namespace Go.Proofs.Ythempofohidlnaa
open Go.RowKit
set_option linter.unusedVariables false
set_option linter.unusedSimpArgs false
-- @LONG

set_option maxHeartbeats 8000000 in
set_option maxRecDepth 100000 in
theorem specWay_any (w : World) (m : Mach) (hk : m.Ok) (n k l : Int) :
    Calls Try.prog 41 #[.agg (mcells m), .int .i64 n, .int .i64 k, .int .i64 l] w fun e w' => ∃ v, e = .returned (.tuple #[v, .int .i64 (wayAns m n k l).2]) ∧ Own w' w.heap.size 2 v (ints (wayAns m n k l).1) ∧ Below w.heap.size w w' := by
  have hS := hid (show St w.heap.size w [Asn.own w.heap.size 2 (.slice (some ⟨w.heap.size + 1, 0, none⟩) 2 2) (ints [k, l]), Asn.mb 34 w.heap.size m] ((w.alloc (.cells (mcells m) 34)).alloc (.cells #[.int .i64 k, .int .i64 l] 2)) from by
    have h := ((St.start w).newMB m 34).newOwn [.int .i64 k, .int .i64 l] 2 (by simp)
    rw [heap_alloc_size] at h
    exact h)
  have hpl := hid (fun W b v (hO : Own W b 2 v (ints [k, l])) => l05Place_any W m hk n b v [k, l] hO (by simp))
  have hM1 := hid ((St.start w).newMB m 34)
  by_cases h0 : levelI m n = 0 ∧ inLv m n k ∧ inLv m n l
  · obtain ⟨h0, hkk⟩ := h0
    have hpc : plc m n [k, l] = 0 := by unfold plc; rw [if_pos h0, if_pos (by simpa using hkk)]
    rw [hpc] at hpl
    obtain ⟨d, s, n, gd, rfl, hn5, hnl, hpw⟩ := levelI_good h0
    have hiv : ∀ x, inLv m n x ↔ (0 ≤ x ∧ x < ((pw d n : Nat) : Int)) := fun x => by unfold inLv; rw [gd.L]; simp only [Int.toNat_natCast]
    obtain ⟨k, rfl⟩ := Int.eq_ofNat_of_zero_le hkk.1.1
    obtain ⟨l, rfl⟩ := Int.eq_ofNat_of_zero_le hkk.2.1
    have hk' : k < pw d n := by have := ((hiv _).1 hkk.1).2; omega
    have hl' : l < pw d n := by have := ((hiv _).1 hkk.2).2; omega
    rw [wayAns_0 gd h0 hk' hl']
    have htb := hid (fun W => l05Tables_any W m d s gd hk n (by omega) (by omega))
    have hgr := hid (fun W b v (hM : Mat W b v (tabA m d n s ++ tabA (inv m d s) d n s)) => grow_any W m d s gd b v _ hM (by rw [List.length_append, tabA_length, tabA_length]; omega) (pw d n) k hpw hk' (lvT m d s n) (fun p hp => lvT_M p hp) (fun j fr hj hf => lvT_lt gd j fr hj hf))
    have ok : TrOk (pw d n) (treeT (lvT m d s n) s (pw d n) k) := growT_ok hk' (fun j fr hj hf => lvT_lt gd j fr hj hf) _
    replace hk := hid hk; replace gd := hid gd
    clear hkk h0 hiv hpc
    generalize treeT (lvT m d s n) s (pw d n) k = t at *
    have e1 : t.far[l]? = some (t.far.getD l 0) := by rw [List.getD_eq_getElem?_getD, List.getElem?_eq_getElem (by rw [ok.fl]; exact hl')]; rfl
    have e3 : t.ways[l]? = some (t.ways.getD l []) := by rw [List.getD_eq_getElem?_getD, List.getElem?_eq_getElem (by rw [ok.wl]; exact hl')]; rfl
    have hlq := hid (fun (h : ¬ t.far.getD l 0 < 0) => (show l ∈ t.q from by
      rcases ok.fb l _ e1 with h2 | h2
      · omega
      · exact h2.1))
    generalize t.far.getD l 0 = ft at *
    generalize t.ways.getD l [] = u at *
    generalize hM : pw d n = M at *
    clear hM
    have l0 : (0 : Int) ≤ (l : Int) := Int.natCast_nonneg _
    have l1 : (l : Int) < (M : Int) := by omega
    have hfar := hid (show (ints t.far)[l]? = some (.int .i64 ft) by simp only [ints, List.getElem?_map, e1]; rfl)
    replace e1 := hid e1; replace e3 := hid e3; replace ok := hid ok
    by_cases hneg : ft < 0
    · rw [if_pos hneg]
      clear hlq
      go_enter Try.func41, Try.ntmps41
      go_upto_region 4 with (first
        | ((with_reducible refine gate (N := 12) rfl ?_); refine load_mach rfl _ rfl w.heap.size rfl m hM1.out.m0 ?_)
        | (go_at_call 83; (with_reducible refine (hpl.out _ _ _ hS.out.o0).mono ?_); rintro e w1 ⟨rfl, hb⟩; replace hS := hid (hS.out.call hb).drop; clear hb hpl))
      replace hS := hid hS.out.drew
      refine wp_region_heldL (L := [(7, (fun w' : World => MB w' 34 w.heap.size m))]) (by kernel_rfl) (HeldL.cons (fun _ => hS.out.m0) HeldL.nil) (fun hHeld => ?_)
      generalize w1.drew = wa at *
      refine wpAnyL_takeP (i := 0) 7 [] (v := (.agg (mcells m))) (fun w' : World => MB w' 34 w.heap.size m) rfl (by kernel_rfl) (by kernel_rfl) (by kernel_rfl) (by rfl) (by kernel_rfl) (by simp) (fun _ _ _ h => h) (Or.inl ⟨by rfl, ?_⟩) (by assumption) ?_
      · (intro W hW; exact exec_load _ rfl rfl (load_run hW))
      intro hHeld'
      clear hHeld; have hHeld := hHeld'; clear hHeld'
      try simp only [Act.put, List.getElem_toArray, List.getElem_cons_succ, List.getElem_cons_zero, List.setIfInBounds_toArray, List.set_cons_zero, List.set_cons_succ]
      refine wpAnyL_takeP (i := 1) 7 [] (v := (.agg (mcells m))) (fun w' : World => MB w' 34 w.heap.size m) rfl (by kernel_rfl) (by kernel_rfl) (by kernel_rfl) (by rfl) (by kernel_rfl) (by simp) (fun _ _ _ h => h) (Or.inl ⟨by rfl, ?_⟩) (by assumption) ?_
      · (intro W hW; exact exec_load _ rfl rfl (load_run hW))
      intro hHeld'
      clear hHeld; have hHeld := hHeld'; clear hHeld'
      try simp only [Act.put, List.getElem_toArray, List.getElem_cons_succ, List.getElem_cons_zero, List.setIfInBounds_toArray, List.set_cons_zero, List.set_cons_succ]
      refine wpAnyL_take0 (i := 2) (v := ?_) rfl (by kernel_rfl) (by kernel_rfl) (by kernel_rfl) (by rfl) (fun _ _ _ h => h) (Or.inl ⟨by rfl, ?_⟩) (by assumption) ?_
      rotate_left
      · (intro W _; go_simp; (with_reducible rfl))
      intro hHeld'
      clear hHeld; have hHeld := hHeld'; clear hHeld'
      try simp only [Act.put, List.getElem_toArray, List.getElem_cons_succ, List.getElem_cons_zero, List.setIfInBounds_toArray, List.set_cons_zero, List.set_cons_succ]
      refine wpAnyL_take0 (i := 4) (v := ?_) rfl (by kernel_rfl) (by kernel_rfl) (by kernel_rfl) (by rfl) (fun _ _ _ h => h) (Or.inl ⟨by rfl, ?_⟩) (by assumption) ?_
      rotate_left
      · (intro W _; go_simp; (with_reducible rfl))
      intro hHeld'
      clear hHeld; have hHeld := hHeld'; clear hHeld'
      try simp only [Act.put, List.getElem_toArray, List.getElem_cons_succ, List.getElem_cons_zero, List.setIfInBounds_toArray, List.set_cons_zero, List.set_cons_succ]
      refine wpAnyL_ready (rs := [3, 6]) (by kernel_rfl) (by simp) ?_
      refine AllReadyL.cons rfl (fun K hK => ?_) ?_
      · skip
        go_simp
        (with_reducible refine (htb.out _).mono ?_)
        rintro e w3 ⟨v, rfl, hM, hb⟩
        replace hS := hid (hS.out.call hb)
        clear hb
        go_simp
        refine hK.out _ _ (HeldL.cons (fun _ => hS.out.m0) HeldL.nil) (fun hHeld' => ?_)
        clear hK K hHeld; have hHeld := hHeld'; clear hHeld'
        try simp only [Act.put, List.getElem_toArray, List.getElem_cons_succ, List.getElem_cons_zero, List.setIfInBounds_toArray, List.set_cons_zero, List.set_cons_succ]
        refine wpAnyL_ready (rs := [5, 6]) (by kernel_rfl) (by simp) ?_
        refine AllReadyL.cons rfl (fun K hK => ?_) ?_
        · skip
          go_simp
          (with_reducible refine (hgr.out _ _ _ hM).mono ?_)
          rintro e w4 ⟨g1, c1, g2, g3, g4, X, rfl, hlk, hT⟩
          replace hS := hid (hS.out.join hT (foot_own4 hT.star))
          replace hlk := hid hlk
          clear hT hM
          go_simp
          refine hK.out _ _ (HeldL.cons (fun _ => hS.out.m4) HeldL.nil) (fun hHeld' => ?_)
          clear hK K hHeld; have hHeld := hHeld'; clear hHeld'
          try simp only [Act.put, List.getElem_toArray, List.getElem_cons_succ, List.getElem_cons_zero, List.setIfInBounds_toArray, List.set_cons_zero, List.set_cons_succ]
          refine wpAnyL_ready (rs := [6]) (by kernel_rfl) (by simp) ?_
          refine AllReadyL.cons rfl (fun K hK => ?_) AllReadyL.nil
          go_simp
          have hF := hS.out.le
          replace hS := hid (hS.out.newBlk #[.slice none 0 0, .slice none 0 0, .slice none 0 0, .slice none 0 0] 102)
          generalize w4.heap.size = gF at *
          generalize w4.alloc (.cells #[.slice none 0 0, .slice none 0 0, .slice none 0 0, .slice none 0 0] 102) = W2 at *
          replace hF := hid hF
          refine hK.out _ _ (HeldL.cons (fun _ => hS.out.m5) HeldL.nil) (fun hHeld' => ?_)
          clear hK K hHeld; have hHeld := hHeld'; clear hHeld'
          try simp only [Act.put, List.getElem_toArray, List.getElem_cons_succ, List.getElem_cons_zero, List.setIfInBounds_toArray, List.set_cons_zero, List.set_cons_succ]
          refine wpAnyL_ready (rs := [7]) (by kernel_rfl) (by simp) ?_
          refine AllReadyL.cons rfl (fun K hK => ?_) AllReadyL.nil
          refine step_store_row rfl _ _ _ rfl gF #[.slice (some ⟨g1, 0, none⟩) t.q.length c1, .slice (some ⟨g2, 0, none⟩) M M, .slice (some ⟨g3, 0, none⟩) M M, .slice (some ⟨g4, 0, none⟩) M M] rfl rfl _ _ hS.out.k0 sz_tree4 rfl (by simp [Value.oneCell']) ?_
          replace hS := hid (hS.out.setRow hF.out #[.slice (some ⟨g1, 0, none⟩) t.q.length c1, .slice (some ⟨g2, 0, none⟩) M M, .slice (some ⟨g3, 0, none⟩) M M, .slice (some ⟨g4, 0, none⟩) M M])
          generalize World.setRow W2 gF #[.slice (some ⟨g1, 0, none⟩) t.q.length c1, .slice (some ⟨g2, 0, none⟩) M M, .slice (some ⟨g3, 0, none⟩) M M, .slice (some ⟨g4, 0, none⟩) M M] = wx at *
          refine hK.out _ _ (HeldL.cons (fun h => absurd h (by decide +kernel)) HeldL.nil) (fun hHeld' => ?_)
          clear hK K hHeld; have hHeld := hHeld'; clear hHeld'
          try simp only [Act.put, List.getElem_toArray, List.getElem_cons_succ, List.getElem_cons_zero, List.setIfInBounds_toArray, List.set_cons_zero, List.set_cons_succ]
          refine wpAnyL_done (by kernel_rfl) ?_ _
          have q3 := (show wx.cell? ⟨gF, 3, none⟩ = some (Value.slice (some ⟨g4, 0, none⟩) M M) from cell_of_row _ _ 3 _ _ _ hS.out.k0)
          have q4 := hS.out.o4.cellAt l _ hfar.out
          go_wp2
          go_ret2
          exact ⟨_, rfl, Own.nil _ _ _, hS.out.bel⟩
        refine AllReadyL.cons rfl (fun K hK => ?_) AllReadyL.nil
        have hMa := hM.alloc (.cells #[.slice none 0 0, .slice none 0 0, .slice none 0 0, .slice none 0 0] 102)
        go_simp
        have hF := hS.out.le
        replace hS := hid (hS.out.newBlk #[.slice none 0 0, .slice none 0 0, .slice none 0 0, .slice none 0 0] 102)
        generalize w3.heap.size = gF at *
        generalize w3.alloc (.cells #[.slice none 0 0, .slice none 0 0, .slice none 0 0, .slice none 0 0] 102) = W2 at *
        replace hF := hid hF
        refine hK.out _ _ (HeldL.cons (fun _ => hS.out.m1) HeldL.nil) (fun hHeld' => ?_)
        clear hK K hHeld; have hHeld := hHeld'; clear hHeld'
        try simp only [Act.put, List.getElem_toArray, List.getElem_cons_succ, List.getElem_cons_zero, List.setIfInBounds_toArray, List.set_cons_zero, List.set_cons_succ]
        refine wpAnyL_ready (rs := [5]) (by kernel_rfl) (by simp) ?_
        refine AllReadyL.cons rfl (fun K hK => ?_) AllReadyL.nil
        replace hM := hMa
        clear hMa
        go_simp
        (with_reducible refine (hgr.out _ _ _ hM).mono ?_)
        rintro e w4 ⟨g1, c1, g2, g3, g4, X, rfl, hlk, hT⟩
        replace hS := hid (hS.out.join hT (foot_own4 hT.star))
        replace hlk := hid hlk
        clear hT hM
        go_simp
        replace hS := hid hS.out.f4
        refine hK.out _ _ (HeldL.cons (fun _ => hS.out.m5) HeldL.nil) (fun hHeld' => ?_)
        clear hK K hHeld; have hHeld := hHeld'; clear hHeld'
        try simp only [Act.put, List.getElem_toArray, List.getElem_cons_succ, List.getElem_cons_zero, List.setIfInBounds_toArray, List.set_cons_zero, List.set_cons_succ]
        refine wpAnyL_ready (rs := [7]) (by kernel_rfl) (by simp) ?_
        refine AllReadyL.cons rfl (fun K hK => ?_) AllReadyL.nil
        refine step_store_row rfl _ _ _ rfl gF #[.slice (some ⟨g1, 0, none⟩) t.q.length c1, .slice (some ⟨g2, 0, none⟩) M M, .slice (some ⟨g3, 0, none⟩) M M, .slice (some ⟨g4, 0, none⟩) M M] rfl rfl _ _ hS.out.k0 sz_tree4 rfl (by simp [Value.oneCell']) ?_
        replace hS := hid (hS.out.setRow hF.out #[.slice (some ⟨g1, 0, none⟩) t.q.length c1, .slice (some ⟨g2, 0, none⟩) M M, .slice (some ⟨g3, 0, none⟩) M M, .slice (some ⟨g4, 0, none⟩) M M])
        generalize World.setRow w4 gF #[.slice (some ⟨g1, 0, none⟩) t.q.length c1, .slice (some ⟨g2, 0, none⟩) M M, .slice (some ⟨g3, 0, none⟩) M M, .slice (some ⟨g4, 0, none⟩) M M] = wx at *
        refine hK.out _ _ (HeldL.cons (fun h => absurd h (by decide +kernel)) HeldL.nil) (fun hHeld' => ?_)
        clear hK K hHeld; have hHeld := hHeld'; clear hHeld'
        try simp only [Act.put, List.getElem_toArray, List.getElem_cons_succ, List.getElem_cons_zero, List.setIfInBounds_toArray, List.set_cons_zero, List.set_cons_succ]
        refine wpAnyL_done (by kernel_rfl) ?_ _
        have q3 := (show wx.cell? ⟨gF, 3, none⟩ = some (Value.slice (some ⟨g4, 0, none⟩) M M) from cell_of_row _ _ 3 _ _ _ hS.out.k0)
        have q4 := hS.out.o4.cellAt l _ hfar.out
        go_wp2
        go_ret2
        exact ⟨_, rfl, Own.nil _ _ _, hS.out.bel⟩
      refine AllReadyL.cons rfl (fun K hK => ?_) AllReadyL.nil
      go_simp
      have hF := hS.out.le
      replace hS := hid (hS.out.newBlk #[.slice none 0 0, .slice none 0 0, .slice none 0 0, .slice none 0 0] 102)
      generalize wa.heap.size = gF at *
      generalize wa.alloc (.cells #[.slice none 0 0, .slice none 0 0, .slice none 0 0, .slice none 0 0] 102) = W2 at *
      replace hF := hid hF
      refine hK.out _ _ (HeldL.cons (fun _ => hS.out.m1) HeldL.nil) (fun hHeld' => ?_)
      clear hK K hHeld; have hHeld := hHeld'; clear hHeld'
      try simp only [Act.put, List.getElem_toArray, List.getElem_cons_succ, List.getElem_cons_zero, List.setIfInBounds_toArray, List.set_cons_zero, List.set_cons_succ]
      refine wpAnyL_ready (rs := [3]) (by kernel_rfl) (by simp) ?_
      refine AllReadyL.cons rfl (fun K hK => ?_) AllReadyL.nil
      go_simp
      (with_reducible refine (htb.out _).mono ?_)
      rintro e w3 ⟨v, rfl, hM, hb⟩
      replace hS := hid (hS.out.call hb)
      clear hb
      go_simp
      refine hK.out _ _ (HeldL.cons (fun _ => hS.out.m1) HeldL.nil) (fun hHeld' => ?_)
      clear hK K hHeld; have hHeld := hHeld'; clear hHeld'
      try simp only [Act.put, List.getElem_toArray, List.getElem_cons_succ, List.getElem_cons_zero, List.setIfInBounds_toArray, List.set_cons_zero, List.set_cons_succ]
      refine wpAnyL_ready (rs := [5]) (by kernel_rfl) (by simp) ?_
      refine AllReadyL.cons rfl (fun K hK => ?_) AllReadyL.nil
      go_simp
      (with_reducible refine (hgr.out _ _ _ hM).mono ?_)
      rintro e w4 ⟨g1, c1, g2, g3, g4, X, rfl, hlk, hT⟩
      replace hS := hid (hS.out.join hT (foot_own4 hT.star))
      replace hlk := hid hlk
      clear hT hM
      go_simp
      replace hS := hid hS.out.f4
      refine hK.out _ _ (HeldL.cons (fun _ => hS.out.m5) HeldL.nil) (fun hHeld' => ?_)
      clear hK K hHeld; have hHeld := hHeld'; clear hHeld'
      try simp only [Act.put, List.getElem_toArray, List.getElem_cons_succ, List.getElem_cons_zero, List.setIfInBounds_toArray, List.set_cons_zero, List.set_cons_succ]
      refine wpAnyL_ready (rs := [7]) (by kernel_rfl) (by simp) ?_
      refine AllReadyL.cons rfl (fun K hK => ?_) AllReadyL.nil
      refine step_store_row rfl _ _ _ rfl gF #[.slice (some ⟨g1, 0, none⟩) t.q.length c1, .slice (some ⟨g2, 0, none⟩) M M, .slice (some ⟨g3, 0, none⟩) M M, .slice (some ⟨g4, 0, none⟩) M M] rfl rfl _ _ hS.out.k0 sz_tree4 rfl (by simp [Value.oneCell']) ?_
      replace hS := hid (hS.out.setRow hF.out #[.slice (some ⟨g1, 0, none⟩) t.q.length c1, .slice (some ⟨g2, 0, none⟩) M M, .slice (some ⟨g3, 0, none⟩) M M, .slice (some ⟨g4, 0, none⟩) M M])
      generalize World.setRow w4 gF #[.slice (some ⟨g1, 0, none⟩) t.q.length c1, .slice (some ⟨g2, 0, none⟩) M M, .slice (some ⟨g3, 0, none⟩) M M, .slice (some ⟨g4, 0, none⟩) M M] = wx at *
      refine hK.out _ _ (HeldL.cons (fun h => absurd h (by decide +kernel)) HeldL.nil) (fun hHeld' => ?_)
      clear hK K hHeld; have hHeld := hHeld'; clear hHeld'
      try simp only [Act.put, List.getElem_toArray, List.getElem_cons_succ, List.getElem_cons_zero, List.setIfInBounds_toArray, List.set_cons_zero, List.set_cons_succ]
      refine wpAnyL_done (by kernel_rfl) ?_ _
      have q3 := (show wx.cell? ⟨gF, 3, none⟩ = some (Value.slice (some ⟨g4, 0, none⟩) M M) from cell_of_row _ _ 3 _ _ _ hS.out.k0)
      have q4 := hS.out.o4.cellAt l _ hfar.out
      go_wp2
      go_ret2
      exact ⟨_, rfl, Own.nil _ _ _, hS.out.bel⟩
    · rw [if_neg hneg]
      replace hlq := hid (hlq.out hneg)
      go_enter Try.func41, Try.ntmps41
      go_upto_region 4 with (first
        | ((with_reducible refine gate (N := 12) rfl ?_); refine load_mach rfl _ rfl w.heap.size rfl m hM1.out.m0 ?_)
        | (go_at_call 83; (with_reducible refine (hpl.out _ _ _ hS.out.o0).mono ?_); rintro e w1 ⟨rfl, hb⟩; replace hS := hid (hS.out.call hb).drop; clear hb hpl))
      replace hS := hid hS.out.drew
      refine wp_region_heldL (L := [(7, (fun w' : World => MB w' 34 w.heap.size m))]) (by kernel_rfl) (HeldL.cons (fun _ => hS.out.m0) HeldL.nil) (fun hHeld => ?_)
      generalize w1.drew = wa at *
      refine wpAnyL_takeP (i := 0) 7 [] (v := (.agg (mcells m))) (fun w' : World => MB w' 34 w.heap.size m) rfl (by kernel_rfl) (by kernel_rfl) (by kernel_rfl) (by rfl) (by kernel_rfl) (by simp) (fun _ _ _ h => h) (Or.inl ⟨by rfl, ?_⟩) (by assumption) ?_
      · (intro W hW; exact exec_load _ rfl rfl (load_run hW))
      intro hHeld'
      clear hHeld; have hHeld := hHeld'; clear hHeld'
      try simp only [Act.put, List.getElem_toArray, List.getElem_cons_succ, List.getElem_cons_zero, List.setIfInBounds_toArray, List.set_cons_zero, List.set_cons_succ]
      refine wpAnyL_takeP (i := 1) 7 [] (v := (.agg (mcells m))) (fun w' : World => MB w' 34 w.heap.size m) rfl (by kernel_rfl) (by kernel_rfl) (by kernel_rfl) (by rfl) (by kernel_rfl) (by simp) (fun _ _ _ h => h) (Or.inl ⟨by rfl, ?_⟩) (by assumption) ?_
      · (intro W hW; exact exec_load _ rfl rfl (load_run hW))
      intro hHeld'
      clear hHeld; have hHeld := hHeld'; clear hHeld'
      try simp only [Act.put, List.getElem_toArray, List.getElem_cons_succ, List.getElem_cons_zero, List.setIfInBounds_toArray, List.set_cons_zero, List.set_cons_succ]
      refine wpAnyL_take0 (i := 2) (v := ?_) rfl (by kernel_rfl) (by kernel_rfl) (by kernel_rfl) (by rfl) (fun _ _ _ h => h) (Or.inl ⟨by rfl, ?_⟩) (by assumption) ?_
      rotate_left
      · (intro W _; go_simp; (with_reducible rfl))
      intro hHeld'
      clear hHeld; have hHeld := hHeld'; clear hHeld'
      try simp only [Act.put, List.getElem_toArray, List.getElem_cons_succ, List.getElem_cons_zero, List.setIfInBounds_toArray, List.set_cons_zero, List.set_cons_succ]
      refine wpAnyL_take0 (i := 4) (v := ?_) rfl (by kernel_rfl) (by kernel_rfl) (by kernel_rfl) (by rfl) (fun _ _ _ h => h) (Or.inl ⟨by rfl, ?_⟩) (by assumption) ?_
      rotate_left
      · (intro W _; go_simp; (with_reducible rfl))
      intro hHeld'
      clear hHeld; have hHeld := hHeld'; clear hHeld'
      try simp only [Act.put, List.getElem_toArray, List.getElem_cons_succ, List.getElem_cons_zero, List.setIfInBounds_toArray, List.set_cons_zero, List.set_cons_succ]
      refine wpAnyL_ready (rs := [3, 6]) (by kernel_rfl) (by simp) ?_
      refine AllReadyL.cons rfl (fun K hK => ?_) ?_
      · skip
        go_simp
        (with_reducible refine (htb.out _).mono ?_)
        rintro e w3 ⟨v, rfl, hM, hb⟩
        replace hS := hid (hS.out.call hb)
        clear hb
        go_simp
        refine hK.out _ _ (HeldL.cons (fun _ => hS.out.m0) HeldL.nil) (fun hHeld' => ?_)
        clear hK K hHeld; have hHeld := hHeld'; clear hHeld'
        try simp only [Act.put, List.getElem_toArray, List.getElem_cons_succ, List.getElem_cons_zero, List.setIfInBounds_toArray, List.set_cons_zero, List.set_cons_succ]
        refine wpAnyL_ready (rs := [5, 6]) (by kernel_rfl) (by simp) ?_
        refine AllReadyL.cons rfl (fun K hK => ?_) ?_
        · skip
          go_simp
          (with_reducible refine (hgr.out _ _ _ hM).mono ?_)
          rintro e w4 ⟨g1, c1, g2, g3, g4, X, rfl, hlk, hT⟩
          replace hS := hid (hS.out.join hT (foot_own4 hT.star))
          replace hlk := hid hlk
          clear hT hM
          go_simp
          refine hK.out _ _ (HeldL.cons (fun _ => hS.out.m4) HeldL.nil) (fun hHeld' => ?_)
          clear hK K hHeld; have hHeld := hHeld'; clear hHeld'
          try simp only [Act.put, List.getElem_toArray, List.getElem_cons_succ, List.getElem_cons_zero, List.setIfInBounds_toArray, List.set_cons_zero, List.set_cons_succ]
          refine wpAnyL_ready (rs := [6]) (by kernel_rfl) (by simp) ?_
          refine AllReadyL.cons rfl (fun K hK => ?_) AllReadyL.nil
          go_simp
          have hF := hS.out.le
          replace hS := hid (hS.out.newBlk #[.slice none 0 0, .slice none 0 0, .slice none 0 0, .slice none 0 0] 102)
          generalize w4.heap.size = gF at *
          generalize w4.alloc (.cells #[.slice none 0 0, .slice none 0 0, .slice none 0 0, .slice none 0 0] 102) = W2 at *
          replace hF := hid hF
          refine hK.out _ _ (HeldL.cons (fun _ => hS.out.m5) HeldL.nil) (fun hHeld' => ?_)
          clear hK K hHeld; have hHeld := hHeld'; clear hHeld'
          try simp only [Act.put, List.getElem_toArray, List.getElem_cons_succ, List.getElem_cons_zero, List.setIfInBounds_toArray, List.set_cons_zero, List.set_cons_succ]
          refine wpAnyL_ready (rs := [7]) (by kernel_rfl) (by simp) ?_
          refine AllReadyL.cons rfl (fun K hK => ?_) AllReadyL.nil
          refine step_store_row rfl _ _ _ rfl gF #[.slice (some ⟨g1, 0, none⟩) t.q.length c1, .slice (some ⟨g2, 0, none⟩) M M, .slice (some ⟨g3, 0, none⟩) M M, .slice (some ⟨g4, 0, none⟩) M M] rfl rfl _ _ hS.out.k0 sz_tree4 rfl (by simp [Value.oneCell']) ?_
          replace hS := hid (hS.out.setRow hF.out #[.slice (some ⟨g1, 0, none⟩) t.q.length c1, .slice (some ⟨g2, 0, none⟩) M M, .slice (some ⟨g3, 0, none⟩) M M, .slice (some ⟨g4, 0, none⟩) M M])
          generalize World.setRow W2 gF #[.slice (some ⟨g1, 0, none⟩) t.q.length c1, .slice (some ⟨g2, 0, none⟩) M M, .slice (some ⟨g3, 0, none⟩) M M, .slice (some ⟨g4, 0, none⟩) M M] = wx at *
          refine hK.out _ _ (HeldL.cons (fun h => absurd h (by decide +kernel)) HeldL.nil) (fun hHeld' => ?_)
          clear hK K hHeld; have hHeld := hHeld'; clear hHeld'
          try simp only [Act.put, List.getElem_toArray, List.getElem_cons_succ, List.getElem_cons_zero, List.setIfInBounds_toArray, List.set_cons_zero, List.set_cons_succ]
          refine wpAnyL_done (by kernel_rfl) ?_ _
          have q3 := (show wx.cell? ⟨gF, 3, none⟩ = some (Value.slice (some ⟨g4, 0, none⟩) M M) from cell_of_row _ _ 3 _ _ _ hS.out.k0)
          have q4 := hS.out.o4.cellAt l _ hfar.out
          have hwy := hid (way_any wx _ g1 c1 g2 g3 g4 M k hpw t X ok.out hlk.out hS.out.o1 hS.out.o2 hS.out.o3 l hlq.out u e3.out)
          go_wp2_with (first
            | ((with_reducible refine gate (N := 33) rfl ?_); refine wpList_load_row rfl _ _ rfl gF rfl _ _ _ _ hS.out.k0 Try.underlying102 rfl sz_tree4 ?_)
            | (go_at_call 93; (with_reducible refine (hwy.out).mono ?_); rintro e w7 ⟨v9, rfl, hO, hb⟩; (have hle := hid hS.out.le); replace hS := hid (hS.out.call hb); replace hO := hid hO; clear hb))
          go_ret2
          exact ⟨_, rfl, hO.out.mono hle.out, hS.out.bel⟩
        refine AllReadyL.cons rfl (fun K hK => ?_) AllReadyL.nil
        have hMa := hM.alloc (.cells #[.slice none 0 0, .slice none 0 0, .slice none 0 0, .slice none 0 0] 102)
        go_simp
        have hF := hS.out.le
        replace hS := hid (hS.out.newBlk #[.slice none 0 0, .slice none 0 0, .slice none 0 0, .slice none 0 0] 102)
        generalize w3.heap.size = gF at *
        generalize w3.alloc (.cells #[.slice none 0 0, .slice none 0 0, .slice none 0 0, .slice none 0 0] 102) = W2 at *
        replace hF := hid hF
        refine hK.out _ _ (HeldL.cons (fun _ => hS.out.m1) HeldL.nil) (fun hHeld' => ?_)
        clear hK K hHeld; have hHeld := hHeld'; clear hHeld'
        try simp only [Act.put, List.getElem_toArray, List.getElem_cons_succ, List.getElem_cons_zero, List.setIfInBounds_toArray, List.set_cons_zero, List.set_cons_succ]
        refine wpAnyL_ready (rs := [5]) (by kernel_rfl) (by simp) ?_
        refine AllReadyL.cons rfl (fun K hK => ?_) AllReadyL.nil
        replace hM := hMa
        clear hMa
        go_simp
        (with_reducible refine (hgr.out _ _ _ hM).mono ?_)
        rintro e w4 ⟨g1, c1, g2, g3, g4, X, rfl, hlk, hT⟩
        replace hS := hid (hS.out.join hT (foot_own4 hT.star))
        replace hlk := hid hlk
        clear hT hM
        go_simp
        replace hS := hid hS.out.f4
        refine hK.out _ _ (HeldL.cons (fun _ => hS.out.m5) HeldL.nil) (fun hHeld' => ?_)
        clear hK K hHeld; have hHeld := hHeld'; clear hHeld'
        try simp only [Act.put, List.getElem_toArray, List.getElem_cons_succ, List.getElem_cons_zero, List.setIfInBounds_toArray, List.set_cons_zero, List.set_cons_succ]
        refine wpAnyL_ready (rs := [7]) (by kernel_rfl) (by simp) ?_
        refine AllReadyL.cons rfl (fun K hK => ?_) AllReadyL.nil
        refine step_store_row rfl _ _ _ rfl gF #[.slice (some ⟨g1, 0, none⟩) t.q.length c1, .slice (some ⟨g2, 0, none⟩) M M, .slice (some ⟨g3, 0, none⟩) M M, .slice (some ⟨g4, 0, none⟩) M M] rfl rfl _ _ hS.out.k0 sz_tree4 rfl (by simp [Value.oneCell']) ?_
        replace hS := hid (hS.out.setRow hF.out #[.slice (some ⟨g1, 0, none⟩) t.q.length c1, .slice (some ⟨g2, 0, none⟩) M M, .slice (some ⟨g3, 0, none⟩) M M, .slice (some ⟨g4, 0, none⟩) M M])
        generalize World.setRow w4 gF #[.slice (some ⟨g1, 0, none⟩) t.q.length c1, .slice (some ⟨g2, 0, none⟩) M M, .slice (some ⟨g3, 0, none⟩) M M, .slice (some ⟨g4, 0, none⟩) M M] = wx at *
        refine hK.out _ _ (HeldL.cons (fun h => absurd h (by decide +kernel)) HeldL.nil) (fun hHeld' => ?_)
        clear hK K hHeld; have hHeld := hHeld'; clear hHeld'
        try simp only [Act.put, List.getElem_toArray, List.getElem_cons_succ, List.getElem_cons_zero, List.setIfInBounds_toArray, List.set_cons_zero, List.set_cons_succ]
        refine wpAnyL_done (by kernel_rfl) ?_ _
        have q3 := (show wx.cell? ⟨gF, 3, none⟩ = some (Value.slice (some ⟨g4, 0, none⟩) M M) from cell_of_row _ _ 3 _ _ _ hS.out.k0)
        have q4 := hS.out.o4.cellAt l _ hfar.out
        have hwy := hid (way_any wx _ g1 c1 g2 g3 g4 M k hpw t X ok.out hlk.out hS.out.o1 hS.out.o2 hS.out.o3 l hlq.out u e3.out)
        go_wp2_with (first
          | ((with_reducible refine gate (N := 33) rfl ?_); refine wpList_load_row rfl _ _ rfl gF rfl _ _ _ _ hS.out.k0 Try.underlying102 rfl sz_tree4 ?_)
          | (go_at_call 93; (with_reducible refine (hwy.out).mono ?_); rintro e w7 ⟨v9, rfl, hO, hb⟩; (have hle := hid hS.out.le); replace hS := hid (hS.out.call hb); replace hO := hid hO; clear hb))
        go_ret2
        exact ⟨_, rfl, hO.out.mono hle.out, hS.out.bel⟩
      refine AllReadyL.cons rfl (fun K hK => ?_) AllReadyL.nil
      go_simp
      have hF := hS.out.le
      replace hS := hid (hS.out.newBlk #[.slice none 0 0, .slice none 0 0, .slice none 0 0, .slice none 0 0] 102)
      generalize wa.heap.size = gF at *
      generalize wa.alloc (.cells #[.slice none 0 0, .slice none 0 0, .slice none 0 0, .slice none 0 0] 102) = W2 at *
      replace hF := hid hF
      refine hK.out _ _ (HeldL.cons (fun _ => hS.out.m1) HeldL.nil) (fun hHeld' => ?_)
      clear hK K hHeld; have hHeld := hHeld'; clear hHeld'
      try simp only [Act.put, List.getElem_toArray, List.getElem_cons_succ, List.getElem_cons_zero, List.setIfInBounds_toArray, List.set_cons_zero, List.set_cons_succ]
      refine wpAnyL_ready (rs := [3]) (by kernel_rfl) (by simp) ?_
      refine AllReadyL.cons rfl (fun K hK => ?_) AllReadyL.nil
      go_simp
      (with_reducible refine (htb.out _).mono ?_)
      rintro e w3 ⟨v, rfl, hM, hb⟩
      replace hS := hid (hS.out.call hb)
      clear hb
      go_simp
      refine hK.out _ _ (HeldL.cons (fun _ => hS.out.m1) HeldL.nil) (fun hHeld' => ?_)
      clear hK K hHeld; have hHeld := hHeld'; clear hHeld'
      try simp only [Act.put, List.getElem_toArray, List.getElem_cons_succ, List.getElem_cons_zero, List.setIfInBounds_toArray, List.set_cons_zero, List.set_cons_succ]
      refine wpAnyL_ready (rs := [5]) (by kernel_rfl) (by simp) ?_
      refine AllReadyL.cons rfl (fun K hK => ?_) AllReadyL.nil
      go_simp
      (with_reducible refine (hgr.out _ _ _ hM).mono ?_)
      rintro e w4 ⟨g1, c1, g2, g3, g4, X, rfl, hlk, hT⟩
      replace hS := hid (hS.out.join hT (foot_own4 hT.star))
      replace hlk := hid hlk
      clear hT hM
      go_simp
      replace hS := hid hS.out.f4
      refine hK.out _ _ (HeldL.cons (fun _ => hS.out.m5) HeldL.nil) (fun hHeld' => ?_)
      clear hK K hHeld; have hHeld := hHeld'; clear hHeld'
      try simp only [Act.put, List.getElem_toArray, List.getElem_cons_succ, List.getElem_cons_zero, List.setIfInBounds_toArray, List.set_cons_zero, List.set_cons_succ]
      refine wpAnyL_ready (rs := [7]) (by kernel_rfl) (by simp) ?_
      refine AllReadyL.cons rfl (fun K hK => ?_) AllReadyL.nil
      refine step_store_row rfl _ _ _ rfl gF #[.slice (some ⟨g1, 0, none⟩) t.q.length c1, .slice (some ⟨g2, 0, none⟩) M M, .slice (some ⟨g3, 0, none⟩) M M, .slice (some ⟨g4, 0, none⟩) M M] rfl rfl _ _ hS.out.k0 sz_tree4 rfl (by simp [Value.oneCell']) ?_
      replace hS := hid (hS.out.setRow hF.out #[.slice (some ⟨g1, 0, none⟩) t.q.length c1, .slice (some ⟨g2, 0, none⟩) M M, .slice (some ⟨g3, 0, none⟩) M M, .slice (some ⟨g4, 0, none⟩) M M])
      generalize World.setRow w4 gF #[.slice (some ⟨g1, 0, none⟩) t.q.length c1, .slice (some ⟨g2, 0, none⟩) M M, .slice (some ⟨g3, 0, none⟩) M M, .slice (some ⟨g4, 0, none⟩) M M] = wx at *
      refine hK.out _ _ (HeldL.cons (fun h => absurd h (by decide +kernel)) HeldL.nil) (fun hHeld' => ?_)
      clear hK K hHeld; have hHeld := hHeld'; clear hHeld'
      try simp only [Act.put, List.getElem_toArray, List.getElem_cons_succ, List.getElem_cons_zero, List.setIfInBounds_toArray, List.set_cons_zero, List.set_cons_succ]
      refine wpAnyL_done (by kernel_rfl) ?_ _
      have q3 := (show wx.cell? ⟨gF, 3, none⟩ = some (Value.slice (some ⟨g4, 0, none⟩) M M) from cell_of_row _ _ 3 _ _ _ hS.out.k0)
      have q4 := hS.out.o4.cellAt l _ hfar.out
      have hwy := hid (way_any wx _ g1 c1 g2 g3 g4 M k hpw t X ok.out hlk.out hS.out.o1 hS.out.o2 hS.out.o3 l hlq.out u e3.out)
      go_wp2_with (first
        | ((with_reducible refine gate (N := 33) rfl ?_); refine wpList_load_row rfl _ _ rfl gF rfl _ _ _ _ hS.out.k0 Try.underlying102 rfl sz_tree4 ?_)
        | (go_at_call 93; (with_reducible refine (hwy.out).mono ?_); rintro e w7 ⟨v9, rfl, hO, hb⟩; (have hle := hid hS.out.le); replace hS := hid (hS.out.call hb); replace hO := hid hO; clear hb))
      go_ret2
      exact ⟨_, rfl, hO.out.mono hle.out, hS.out.bel⟩
  · obtain ⟨c, hc, hd, hpc⟩ : ∃ c, c ≠ 0 ∧ wayAns m n k l = ([], c) ∧ plc m n [k, l] = c := by
      by_cases h1 : levelI m n = 0
      · exact ⟨2, by decide, wayAns_2 h1 fun h => h0 ⟨h1, h⟩, by unfold plc; rw [if_pos h1, if_neg (by intro h; exact h0 ⟨h1, by simpa using h⟩)]⟩
      · exact ⟨_, h1, wayAns_c h1, by unfold plc; rw [if_neg h1]⟩
    rw [hpc] at hpl
    rw [hd]
    have dn : (c != 0) = true := by simpa using hc
    replace hk := hid hk
    clear h0 hd hpc
    go_enter Try.func41, Try.ntmps41
    go_wp2_with (first
      | ((with_reducible refine gate (N := 12) rfl ?_); refine load_mach rfl _ rfl w.heap.size rfl m hM1.out.m0 ?_)
      | (go_at_call 83; (with_reducible refine (hpl.out _ _ _ hS.out.o0).mono ?_); rintro e w1 ⟨rfl, hb⟩; replace hS := hid (hS.out.call hb).drop; clear hb hpl))
    go_ret2
    exact ⟨_, rfl, Own.nil _ _ _, hS.out.bel⟩
end Go.Proofs.Ythempofohidlnaa

/- WayTo: the law. -/
namespace Go.Proofs.Ythempofohidlnaa
open Go.RowKit
set_option linter.unusedVariables false
set_option linter.unusedSimpArgs false

theorem wayAns_len (m : Mach) (n k l : Int) : (wayAns m n k l).1.length ≤ 243 := by
  by_cases h : levelI m n = 0
  · by_cases hk : inLv m n k ∧ inLv m n l
    · obtain ⟨d, s, n, gd, rfl, hn5, hnl, hpw⟩ := levelI_good h
      obtain ⟨k, rfl⟩ := Int.eq_ofNat_of_zero_le hk.1.1
      obtain ⟨l, rfl⟩ := Int.eq_ofNat_of_zero_le hk.2.1
      have hk' : k < pw d n := by have := hk.1.2; rw [gd.L] at this; simp only [Int.toNat_natCast] at this; omega
      have hl' : l < pw d n := by have := hk.2.2; rw [gd.L] at this; simp only [Int.toNat_natCast] at this; omega
      rw [wayAns_0 gd h hk' hl']
      have ok : TrOk (pw d n) (treeT (lvT m d s n) s (pw d n) k) := growT_ok hk' (fun j fr hj hf => lvT_lt gd j fr hj hf) _
      split
      · exact Nat.zero_le _
      · have e3 : (treeT (lvT m d s n) s (pw d n) k).ways[l]? = some ((treeT (lvT m d s n) s (pw d n) k).ways.getD l []) := by rw [List.getD_eq_getElem?_getD, List.getElem?_eq_getElem (by rw [ok.wl]; exact hl')]; rfl
        have h1 := ok.wb l _ e3
        have h2 := ok.ql
        show ((treeT (lvT m d s n) s (pw d n) k).ways.getD l []).length ≤ 243
        omega
    · rw [wayAns_2 h hk]; exact Nat.zero_le _
  · rw [wayAns_c h]; exact Nat.zero_le _
set_option maxHeartbeats 8000000 in
set_option maxRecDepth 100000 in
theorem wayTo_law (w : World) (m : Mach) (hkm : m.Ok) (x1 : Int) (x2 : Int) (x3 : Int) :
    Calls Try.prog 13 #[.agg (mcells m), .int .i64 x1, .int .i64 x2, .int .i64 x3] w fun e w' => e = .returned (.bool true) ∧ Below w.heap.size w w' := by
  have hS := hid ((St.start w).newMB m 32)
  have hs := hid (fun W => specWay_any W m hkm x1 x2 x3)
  have hp := hid (fun W => implWay_any W m hkm x1 x2 x3)
  have hlen := wayAns_len m x1 x2 x3
  have hcc : ((wayAns m x1 x2 x3).2 != (wayAns m x1 x2 x3).2) = false := by simp
  generalize (wayAns m x1 x2 x3).1 = r at *
  generalize (wayAns m x1 x2 x3).2 = cd at *
  have heq2 := hid (fun W b1 b2 v1 v2 (hO1 : Own W b1 2 v1 (ints r)) (hO2 : Own W b2 2 v2 (ints r)) => eqInt64SL_any W b1 b2 v1 v2 r hO1 hO2 (by omega))
  have hm2 := hid (fun L W vq (hS : St w.heap.size w (Asn.own w.heap.size 2 vq (ints r) :: L) W) => markS1 w.heap.size w L W vq (ints r) r.length (ints_length r) hS (by omega))
  have hhe := hid (fun W b vq (hO : Own W b 2 vq (marks 1 r.length)) => held1L W b vq r.length hO (by omega))
  have z2 : decide ((r.length : Int) + 1 < 0) = false := decide_eq_false (by omega)
  have z3 : ((r.length : Int) + 1 != (r.length : Int) + 1) = false := by simp
  replace hkm := hid hkm
  replace hlen := hid hlen
  generalize r.length = nr at *
  go_enter Try.func13, Try.ntmps13
  go_wp2_with (first
    | ((with_reducible refine gate (N := 18) rfl ?_); refine load_lmach rfl _ rfl w.heap.size rfl m hS.out.m0 ?_)
    | ((with_reducible refine gate (N := 27) rfl ?_); refine load_lmach rfl _ rfl w.heap.size rfl m hS.out.m1 ?_)
    | ((with_reducible refine gate (N := 56) rfl ?_); refine load_lmach rfl _ rfl w.heap.size rfl m hS.out.m2 ?_)
    | (go_at_call 22; (with_reducible refine (toMachine_any m hkm.out _).mono ?_); rintro e w1 ⟨rfl, hb⟩; replace hS := hid (hS.out.call hb); clear hb)
    | (go_at_call 41; (with_reducible refine (hs.out _).mono ?_); rintro e w3 ⟨v7, rfl, hO, hb⟩; replace hS := hid (hS.out.callOwn hb hO); clear hb hO)
    | (go_at_call 42; (with_reducible refine (hp.out _).mono ?_); rintro e w4 ⟨v8, rfl, hO, hb⟩; replace hS := hid (hS.out.callOwn hb hO); clear hb hO)
    | (go_at_call 18; (first
        | (with_reducible refine (heq2.out _ _ _ _ _ hS.out.o0 hS.out.o1).mono ?_)
        | (with_reducible refine (heq2.out _ _ _ _ _ hS.out.o0 hS.out.o2).mono ?_)); rintro e w5 ⟨rfl, hb⟩; replace hS := hid (hS.out.call hb); clear hb)
    | (go_at_call 19; (with_reducible refine (hm2.out _ _ _ hS.out).mono ?_); rintro e w5 ⟨rfl, hS'⟩; replace hS := hid hS'; clear hS')
    | (go_at_call 20; (first
        | (with_reducible refine (hhe.out _ _ _ hS.out.o0).mono ?_)
        | (with_reducible refine (hhe.out _ _ _ hS.out.o1).mono ?_)); rintro e w5 ⟨rfl, rfl⟩))
  go_ret
  exact ⟨rfl, hS.out.bel⟩
end Go.Proofs.Ythempofohidlnaa
