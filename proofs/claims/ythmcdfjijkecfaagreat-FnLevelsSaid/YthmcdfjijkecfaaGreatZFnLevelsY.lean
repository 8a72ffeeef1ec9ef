/- What the proof of FnLevels leans on, part 25 of 28. -/
import Derived.Test.YthmcdfjijkecfaaGreatZFnLevelsX
/- DistancesFrom: what the reference answers. -/
namespace Go.Proofs.YthmcdfjijkecfaaGreat
open Go.RowKit
set_option linter.unusedVariables false
set_option linter.unusedSimpArgs false
-- @LONG

open Classical in
/-- The code of a place: a level and words of it. -/
noncomputable def plc (m : Mach) (n : Int) (ks : List Int) : Int := if levelI m n = 0 then (if ∀ x ∈ ks, inLv m n x then 0 else 2) else levelI m n
set_option maxHeartbeats 4000000 in
set_option maxRecDepth 100000 in
theorem l05Place_any (w : World) (m : Mach) (hk : m.Ok) (n : Int) (b0 : Nat) (v : Value) (ks : List Int) (hv : Own w b0 2 v (ints ks)) (hks : ks.length ≤ 2) :
    Calls Tryz.prog 112 #[.agg (mcells m), .int .i64 n, v] w fun e w' => e = .returned (.int .i64 (plc m n ks)) ∧ Below w.heap.size w w' := by
  have hS := hid ((St.arg w hv).newMB m 27)
  have hcode := hid (fun W => l05Code_any W m hk n)
  have hil := ints_length ks
  obtain ⟨A, c, rfl, _, hA⟩ := hv.form
  rw [hil] at hS hv ⊢
  by_cases h0 : levelI m n = 0
  · obtain ⟨l, s, n, gd, rfl, hn5, hnl, hpw⟩ := levelI_good h0
    rw [h0] at hcode
    have l2 := gd.l2
    have l3 := gd.l3
    have gL := hid gd.L
    have hpo := hid (fun W => l01Power_any l n (by omega) (by omega) (by omega) W)
    have hp0 : (∀ x ∈ ks, inLv m n x) → plc m n ks = 0 := fun h => by unfold plc; rw [if_pos h0, if_pos h]
    have hp2 : (¬ ∀ x ∈ ks, inLv m n x) → plc m n ks = 2 := fun h => by unfold plc; rw [if_pos h0, if_neg h]
    have hiv := hid (fun x => (show inLv m n x ↔ (0 ≤ x ∧ x ≤ ((pw l n : Nat) : Int) - 1) from by unfold inLv; rw [gd.L]; simp only [Int.toNat_natCast]; omega))
    have hin := hid (fun x W => l01In_any x 0 (((pw l n : Nat) : Int) - 1) (decide (0 ≤ x ∧ x ≤ ((pw l n : Nat) : Int) - 1)) rfl W)
    generalize plc m n ks = R at *
    replace hp0 := hid hp0; replace hp2 := hid hp2
    replace hk := hid hk; replace gd := hid gd
    clear h0
    generalize hM : pw l n = M at *
    have ew : IntKind.i64.wrap ((M : Int) - 1) = (M : Int) - 1 := IntWalk.i64_in _ (by omega)
    go_enter Tryz.func112, Tryz.ntmps112
    go_upto_region 2 with (first
      | ((with_reducible refine gate (N := 9) rfl ?_); refine load_mach rfl _ rfl w.heap.size rfl m hS.out.m0 ?_)
      | (go_at_call 119; (with_reducible refine (hcode.out _).mono ?_); rintro e w1 ⟨rfl, hb⟩; replace hS := hid (hS.out.call hb); clear hb hcode))
    go_wp2
    go_loopw [8] (fun i wr => ∃ j : Nat, j ≤ ks.length ∧ i = .int .i64 j ∧ (∀ i x, i < j → ks[i]? = some x → inLv m n x) ∧ St w.heap.size w [Asn.mb 27 w.heap.size m, Asn.own 0 2 (.slice A ks.length c) (ints ks)] wr) (fun i _ => ks.length - (intOf i).toNat)
    case atStart => exact ⟨0, Nat.zero_le _, rfl, fun i x h => absurd h (by omega), hS.out⟩
    case round =>
      clear hS
      obtain ⟨j, hj, rfl, hall, rS⟩ := hrel
      replace hall := hid hall
      have cL := rS.m0.cL
      rw [gL.out] at cL
      by_cases hlt : j < ks.length
      · obtain ⟨x, hx⟩ : ∃ x, ks[j]? = some x := ⟨_, List.getElem?_eq_getElem hlt⟩
        obtain ⟨ga, rfl⟩ : ∃ ga, A = some ⟨ga, 0, none⟩ := by
          rcases hA with ⟨_, h1, _⟩ | ⟨g, h1, _⟩
          · have h2 : ks.length = 0 := by rw [← hil, h1]; rfl
            omega
          · exact ⟨g, h1⟩
        have co := rS.o1.cellAt j (.int .i64 x) (by simp [ints, hx])
        have hvx := hid (hiv.out x)
        replace hx := hid hx
        replace rS := hid rS
        replace hA := hid hA
        by_cases hr : 0 ≤ x ∧ x ≤ (M : Int) - 1
        · have hin2 := hid (fun W => by have h := hin.out x W; rw [decide_eq_true hr] at h; exact h)
          have hall2 := hid (fun i y (hi : i < j + 1) (hy : ks[i]? = some y) => (show inLv m n y from by
            by_cases e : i < j
            · exact hall.out i y e hy
            · obtain rfl : i = j := by omega
              rw [hx.out] at hy; injection hy with hy; subst hy
              exact hvx.out.2 hr))
          clear hr hvx
          go_upto_region 5 with (fail)
          go_quiet (first
            | (go_at_call 120; exact quiet_same (hpo.out _))
            | (go_at_call 142; exact quiet_same (hin2.out _)))
          go_wp2
          go_roundw
          case rel => exact ⟨j + 1, by omega, by go_num, hall2.out, rS.out.drewN _⟩
          case measure => simp [intOf]; omega
        · have hin2 := hid (fun W => by have h := hin.out x W; rw [decide_eq_false hr] at h; exact h)
          have hR := hid (hp2.out fun h => hr (hvx.out.1 (h x (List.mem_of_getElem? hx.out))))
          clear hr hvx
          go_upto_region 5 with (fail)
          go_quiet (first
            | (go_at_call 120; exact quiet_same (hpo.out _))
            | (go_at_call 142; exact quiet_same (hin2.out _)))
          go_wp2
          go_ret
          exact ⟨by rw [hR.out]; rfl, (rS.out.drewN _).bel⟩
      · have hR := hid (hp0.out fun x hx => by
          obtain ⟨i, hi, rfl⟩ := List.getElem_of_mem hx
          exact hall.out i _ (by omega) (List.getElem?_eq_getElem hi))
        obtain rfl : ks.length = j := by omega
        replace rS := hid rS
        replace hA := hid hA
        go_wp2
        go_ret
        exact ⟨by rw [hR.out]; rfl, rS.out.bel⟩
  · have hpl := hid (show plc m n ks = levelI m n from if_neg h0)
    rw [hpl.out]
    have dn : ((levelI m n) == 0) = false := by simpa using h0
    generalize levelI m n = cd at *
    replace hk := hid hk; replace hA := hid hA
    clear h0
    go_enter Tryz.func112, Tryz.ntmps112
    go_upto_region 2 with (first
      | ((with_reducible refine gate (N := 9) rfl ?_); refine load_mach rfl _ rfl w.heap.size rfl m hS.out.m0 ?_)
      | (go_at_call 119; (with_reducible refine (hcode.out _).mono ?_); rintro e w1 ⟨rfl, hb⟩; replace hS := hid (hS.out.call hb); clear hb hcode))
    go_wp2
    go_loopw [8] (fun i wr => i = .int .i64 0 ∧ St w.heap.size w [Asn.mb 27 w.heap.size m, Asn.own 0 2 (.slice A ks.length c) (ints ks)] wr) (fun _ _ => 0)
    case atStart => exact ⟨rfl, hS.out⟩
    case round =>
      clear hS
      obtain ⟨rfl, rS⟩ := hrel
      replace rS := hid rS
      by_cases hlt : 0 < ks.length
      · have d0 : decide ((0 : Int) < (ks.length : Int)) = true := decide_eq_true (by omega)
        go_wp2
        go_ret
        exact ⟨rfl, rS.out.bel⟩
      · have d0 : decide ((0 : Int) < (ks.length : Int)) = false := decide_eq_false (by omega)
        go_wp2
        go_ret
        exact ⟨rfl, rS.out.bel⟩
set_option maxRecDepth 100000 in
theorem field_tree3 (W : World) (A1 A2 A3 A4 : Option Addr) (n1 c1 n2 c2 n3 c3 n4 c4 : Nat) : (Instr.field 134 (.agg #[.slice A1 n1 c1, .slice A2 n2 c2, .slice A3 n3 c3, .slice A4 n4 c4]) 3).run Tryz.prog W = .ok (.slice A4 n4 c4) W := by
  first | rfl | kernel_rfl
set_option maxHeartbeats 4000000 in
set_option maxRecDepth 100000 in
theorem specDis_any (w : World) (m : Mach) (hk : m.Ok) (n k : Int) :
    Calls Tryz.prog 21 #[.agg (mcells m), .int .i64 n, .int .i64 k] w fun e w' => ∃ v, e = .returned (.tuple #[v, .int .i64 (disAns m n k).2]) ∧ Own w' w.heap.size 2 v (ints (disAns m n k).1) ∧ Below w.heap.size w w' := by
  have hS := hid (show St w.heap.size w [Asn.own w.heap.size 2 (.slice (some ⟨w.heap.size + 1, 0, none⟩) 1 1) (ints [k]), Asn.mb 27 w.heap.size m] ((w.alloc (.cells (mcells m) 27)).alloc (.cells #[.int .i64 k] 2)) from by
    have h := ((St.start w).newMB m 27).newOwn [.int .i64 k] 2 (by simp)
    rw [heap_alloc_size] at h
    exact h)
  have hpl := hid (fun W b v (hO : Own W b 2 v (ints [k])) => l05Place_any W m hk n b v [k] hO (by simp))
  have hM1 := hid ((St.start w).newMB m 27)
  have hcode : plc m n [k] = (disAns m n k).2 := by
    unfold plc disAns
    by_cases h0 : levelI m n = 0
    · rw [if_pos h0, if_pos h0]
      by_cases h1 : inLv m n k
      · rw [if_pos (by simpa using h1), if_pos h1]
      · rw [if_neg (by simpa using h1), if_neg h1]
    · rw [if_neg h0, if_neg h0]
  rw [hcode] at hpl
  clear hcode
  by_cases h0 : levelI m n = 0 ∧ inLv m n k
  · obtain ⟨h0, hkk⟩ := h0
    obtain ⟨l, s, n, gd, rfl, hn5, hnl, hpw⟩ := levelI_good h0
    obtain ⟨k, rfl⟩ := Int.eq_ofNat_of_zero_le hkk.1
    have hk' : k < pw l n := by have := hkk.2; rw [gd.L] at this; simp only [Int.toNat_natCast] at this; omega
    rw [disAns_0 gd h0 hk'] at hpl ⊢
    have htb := hid (fun W => l05Tables_any W m l s gd hk n (by omega) (by omega))
    have hgr := hid (fun W b v (hM : Mat W b v (tabA m l n s ++ tabA (inv m l s) l n s)) => grow_any W m l s gd b v _ hM (by rw [List.length_append, tabA_length, tabA_length]; omega) (pw l n) k hpw hk' (lvT m l s n) (fun p hp => lvT_M p hp) (fun j fr hj hf => lvT_lt gd j fr hj hf))
    replace hk := hid hk; replace gd := hid gd
    clear hkk h0
    generalize treeT (lvT m l s n) s (pw l n) k = t at *
    have hft := fun W (A1 A2 A3 A4 : Option Addr) (n1 c1 n2 c2 n3 c3 n4 c4 : Nat) => field_tree3 W A1 A2 A3 A4 n1 c1 n2 c2 n3 c3 n4 c4
    go_enter Tryz.func21, Tryz.ntmps21
    go_upto_region 4 with (first
      | ((with_reducible refine gate (N := 9) rfl ?_); refine load_mach rfl _ rfl w.heap.size rfl m hM1.out.m0 ?_)
      | (go_at_call 112; (with_reducible refine (hpl.out _ _ _ hS.out.o0).mono ?_); rintro e w1 ⟨rfl, hb⟩; replace hS := hid (hS.out.call hb).drop; clear hb hpl))
    replace hS := hid hS.out.drew
    refine wp_region_heldL (L := [(5, (fun w' : World => MB w' 27 w.heap.size m))]) (by kernel_rfl) (HeldL.cons (fun _ => hS.out.m0) HeldL.nil) (fun hHeld => ?_)
    generalize w1.drew = wa at *
    refine wpAnyL_takeP (i := 0) 5 [] (v := (.agg (mcells m))) (fun w' : World => MB w' 27 w.heap.size m) rfl (by kernel_rfl) (by kernel_rfl) (by kernel_rfl) (by rfl) (by kernel_rfl) (by simp) (fun _ _ _ h => h) (Or.inl ⟨by rfl, ?_⟩) (by assumption) ?_
    · (intro W hW; exact exec_load _ rfl rfl (load_run hW))
    intro hHeld'
    clear hHeld; have hHeld := hHeld'; clear hHeld'
    try simp only [Act.put, List.getElem_toArray, List.getElem_cons_succ, List.getElem_cons_zero, List.setIfInBounds_toArray, List.set_cons_zero, List.set_cons_succ]
    refine wpAnyL_takeP (i := 1) 5 [3] (v := (.agg (mcells m))) (fun w' : World => MB w' 27 w.heap.size m) rfl (by kernel_rfl) (by kernel_rfl) (by kernel_rfl) (by rfl) (by kernel_rfl) (by simp) (fun _ _ _ h => h) (Or.inl ⟨by rfl, ?_⟩) (by assumption) ?_
    · (intro W hW; exact exec_load _ rfl rfl (load_run hW))
    intro hHeld'
    clear hHeld; have hHeld := hHeld'; clear hHeld'
    try simp only [Act.put, List.getElem_toArray, List.getElem_cons_succ, List.getElem_cons_zero, List.setIfInBounds_toArray, List.set_cons_zero, List.set_cons_succ]
    refine wpAnyL_take0 (i := 2) (v := ?_) rfl (by kernel_rfl) (by kernel_rfl) (by kernel_rfl) (by rfl) (fun _ _ _ h => h) (Or.inl ⟨by rfl, ?_⟩) (by assumption) ?_
    rotate_left
    · (intro W _; go_simp; (with_reducible rfl))
    intro hHeld'
    clear hHeld; have hHeld := hHeld'; clear hHeld'
    try simp only [Act.put, List.getElem_toArray, List.getElem_cons_succ, List.getElem_cons_zero, List.setIfInBounds_toArray, List.set_cons_zero, List.set_cons_succ]
    refine wpAnyL_take0 (i := 4) (v := ?_) rfl (by kernel_rfl) (by kernel_rfl) (by kernel_rfl) (by rfl) (fun _ _ _ h => h) (Or.inl ⟨by rfl, ?_⟩) (by assumption) ?_
    rotate_left
    · (intro W _; go_simp; (with_reducible rfl))
    intro hHeld'
    clear hHeld; have hHeld := hHeld'; clear hHeld'
    try simp only [Act.put, List.getElem_toArray, List.getElem_cons_succ, List.getElem_cons_zero, List.setIfInBounds_toArray, List.set_cons_zero, List.set_cons_succ]
    refine wpAnyL_ready (rs := [3]) (by kernel_rfl) (by simp) ?_
    refine AllReadyL.cons rfl (fun K hK => ?_) AllReadyL.nil
    go_simp
    (with_reducible refine (htb.out _).mono ?_)
    rintro e w3 ⟨v, rfl, hM, hb⟩
    replace hS := hid (hS.out.call hb)
    clear hb
    go_simp
    refine hK.out _ _ (HeldL.cons (fun _ => hS.out.m0) HeldL.nil) (fun hHeld' => ?_)
    clear hK K hHeld; have hHeld := hHeld'; clear hHeld'
    try simp only [Act.put, List.getElem_toArray, List.getElem_cons_succ, List.getElem_cons_zero, List.setIfInBounds_toArray, List.set_cons_zero, List.set_cons_succ]
    refine wpAnyL_ready (rs := [5]) (by kernel_rfl) (by simp) ?_
    refine AllReadyL.cons rfl (fun K hK => ?_) AllReadyL.nil
    go_simp
    (with_reducible refine (hgr.out _ _ _ hM).mono ?_)
    rintro e w4 ⟨g1, c1, g2, g3, g4, X, rfl, hlk, hT⟩
    have hle := hid hS.out.le
    replace hS := hid (hS.out.outer hT)
    have hO := hid hT.o3
    clear hT hlk hM
    go_simp
    refine hK.out _ _ (HeldL.cons (fun h => absurd h (by decide +kernel)) HeldL.nil) (fun hHeld' => ?_)
    clear hK K hHeld; have hHeld := hHeld'; clear hHeld'
    try simp only [Act.put, List.getElem_toArray, List.getElem_cons_succ, List.getElem_cons_zero, List.setIfInBounds_toArray, List.set_cons_zero, List.set_cons_succ]
    refine wpAnyL_take0 (i := 6) (v := ?_) rfl (by kernel_rfl) (by kernel_rfl) (by kernel_rfl) (by rfl) (fun _ _ _ h => h) (Or.inl ⟨by rfl, ?_⟩) (by assumption) ?_
    rotate_left
    · (intro W _; go_simp; (with_reducible rfl))
    intro hHeld'
    clear hHeld; have hHeld := hHeld'; clear hHeld'
    try simp only [Act.put, List.getElem_toArray, List.getElem_cons_succ, List.getElem_cons_zero, List.setIfInBounds_toArray, List.set_cons_zero, List.set_cons_succ]
    refine wpAnyL_take0 (i := 7) (v := ?_) rfl (by kernel_rfl) (by kernel_rfl) (by kernel_rfl) (by rfl) (fun _ _ _ h => h) (Or.inl ⟨by rfl, ?_⟩) (by assumption) ?_
    rotate_left
    · (intro W _; go_simp; (with_reducible rfl))
    intro hHeld'
    clear hHeld; have hHeld := hHeld'; clear hHeld'
    try simp only [Act.put, List.getElem_toArray, List.getElem_cons_succ, List.getElem_cons_zero, List.setIfInBounds_toArray, List.set_cons_zero, List.set_cons_succ]
    refine wpAnyL_take0 (i := 8) (v := ?_) rfl (by kernel_rfl) (by kernel_rfl) (by kernel_rfl) (by rfl) (fun _ _ _ h => h) (Or.inl ⟨by rfl, ?_⟩) (by assumption) ?_
    rotate_left
    · (intro W _; go_simp; (with_reducible rfl))
    intro hHeld'
    clear hHeld; have hHeld := hHeld'; clear hHeld'
    try simp only [Act.put, List.getElem_toArray, List.getElem_cons_succ, List.getElem_cons_zero, List.setIfInBounds_toArray, List.set_cons_zero, List.set_cons_succ]
    refine wpAnyL_done (by kernel_rfl) ?_ _
    go_wp2
    go_ret2
    exact ⟨_, rfl, hO.out.mono hle.out, hS.out.bel⟩
  · obtain ⟨c, hc, hd⟩ : ∃ c, c ≠ 0 ∧ disAns m n k = ([], c) := by
      by_cases h1 : levelI m n = 0
      · exact ⟨2, by decide, disAns_2 h1 fun h => h0 ⟨h1, h⟩⟩
      · exact ⟨_, h1, disAns_c h1⟩
    rw [hd] at hpl ⊢
    have dn : (c != 0) = true := by simpa using hc
    replace hk := hid hk
    clear h0 hd
    go_enter Tryz.func21, Tryz.ntmps21
    go_wp2_with (first
      | ((with_reducible refine gate (N := 9) rfl ?_); refine load_mach rfl _ rfl w.heap.size rfl m hM1.out.m0 ?_)
      | (go_at_call 112; (with_reducible refine (hpl.out _ _ _ hS.out.o0).mono ?_); rintro e w1 ⟨rfl, hb⟩; replace hS := hid (hS.out.call hb).drop; clear hb hpl))
    go_ret2
    exact ⟨_, rfl, Own.nil _ _ _, hS.out.bel⟩
end Go.Proofs.YthmcdfjijkecfaaGreat

/- DiameterOf: what the reference answers. -/
namespace Go.Proofs.YthmcdfjijkecfaaGreat
open Go.RowKit
set_option linter.unusedVariables false
set_option linter.unusedSimpArgs false
-- @LONG

set_option maxRecDepth 100000 in
theorem field_tree3' (W : World) (A1 A2 A3 A4 : Option Addr) (n1 c1 n2 c2 n3 c3 n4 c4 : Nat) : (Instr.field 134 (.agg #[.slice A1 n1 c1, .slice A2 n2 c2, .slice A3 n3 c3, .slice A4 n4 c4]) 3).run Tryz.prog W = .ok (.slice A4 n4 c4) W := by
  first | rfl | kernel_rfl
set_option maxHeartbeats 8000000 in
set_option maxRecDepth 100000 in
theorem specDia_any (w : World) (m : Mach) (hk : m.Ok) (n : Int) :
    Calls Tryz.prog 31 #[.agg (mcells m), .int .i64 n] w fun e w' => e = .returned (.tuple #[.int .i64 (diaAns m n).1, .int .i64 (diaAns m n).2]) ∧ Below w.heap.size w w' := by
  have hS := hid ((St.start w).newMB m 27)
  have hcode := hid (fun W => l05Code_any W m hk n)
  by_cases h0 : levelI m n = 0
  · obtain ⟨d, s, n, gd, rfl, hn5, hnl, hpw⟩ := levelI_good h0
    rw [h0] at hcode
    have htb := hid (fun W => l05Tables_any W m d s gd hk n (by omega) (by omega))
    have hgr := hid (fun k (hk' : k < pw d n) W b v (hM : Mat W b v (tabA m d n s ++ tabA (inv m d s) d n s)) => grow_any W m d s gd b v _ hM (by rw [List.length_append, tabA_length, tabA_length]; omega) (pw d n) k hpw hk' (lvT m d s n) (fun p hp => lvT_M p hp) (fun j fr hj hf => lvT_lt gd j fr hj hf))
    have hr0 := hid (show ∃ row, (tabA m d n s ++ tabA (inv m d s) d n s)[0]? = some row ∧ row.length = pw d n from by
      obtain ⟨row, h1, h2, _⟩ := lvT_M (m := m) (l := d) (s := s) (n := n) 0 (by have := gd.s1; omega)
      exact ⟨row, h1, h2⟩)
    have hft := fun W (A1 A2 A3 A4 : Option Addr) (n1 c1 n2 c2 n3 c3 n4 c4 : Nat) => field_tree3' W A1 A2 A3 A4 n1 c1 n2 c2 n3 c3 n4 c4
    rw [diaAns_0 gd h0]
    have hfe := hid (fun k => (show (treeT (lvT m d s n) s (pw d n) k).far = farL m d s n k from rfl))
    have hpos := pw_pos d (by have := gd.l2; omega) n
    obtain ⟨R, hR⟩ : ∃ R : Int × Int, R = diaR (diaL (farL m d s n) (pw d n)) := ⟨_, rfl⟩
    have hRn := hid (fun k (hk' : k < pw d n) (hm : -1 ∈ farL m d s n k) => (show R = (0, 5) by rw [hR, diaL_bad hk' hm]; rfl))
    have hRs := hid (fun o (h : diaL (farL m d s n) (pw d n) = some o) => (show R = (o, 0) by rw [hR, h]; rfl))
    have hstep := hid (fun k o (h : diaL (farL m d s n) k = some o) (hn : ¬ -1 ∈ farL m d s n k) => diaL_step h hn)
    have hcas := hid (fun k (hk' : k < pw d n) x (hx : x ∈ farL m d s n k) => (farL_ok (m := m) gd hk').far_cases hx)
    have hlen := hid (fun k (hk' : k < pw d n) => (show (farL m d s n k).length = pw d n from (farL_ok (m := m) gd hk').fl))
    have hMl := hid (show (tabA m d n s ++ tabA (inv m d s) d n s).length = 2 * s by rw [List.length_append, tabA_length, tabA_length]; omega)
    have s1 := gd.s1
    have s16 := gd.s16
    rw [← hR]
    clear hR
    replace hk := hid hk; replace gd := hid gd
    clear h0
    generalize farL m d s n = F at *
    generalize tabA m d n s ++ tabA (inv m d s) d n s = TM at *
    generalize hM : pw d n = M at *
    replace hM := hid hM
    go_enter Tryz.func31, Tryz.ntmps31
    go_upto_region 5 with (first
      | ((with_reducible refine gate (N := 12) rfl ?_); refine load_mach rfl _ rfl w.heap.size rfl m hS.out.m0 ?_)
      | ((with_reducible refine gate (N := 18) rfl ?_); refine load_mach rfl _ rfl w.heap.size rfl m hS.out.m0 ?_)
      | (go_at_call 119; (with_reducible refine (hcode.out _).mono ?_); rintro e w1 ⟨rfl, hb⟩; replace hS := hid (hS.out.call hb); clear hb hcode)
      | (go_at_call 114; (with_reducible refine (htb.out _).mono ?_); rintro e w2 ⟨v, rfl, hTM, hb⟩; replace hS := hid (hS.out.call hb); replace hTM := hid hTM; clear hb htb))
    obtain ⟨gT, cT, rfl, _, _⟩ := hTM.out.blk (fun e => by have h1 := hMl.out; rw [e] at h1; simp at h1; omega)
    rw [hMl.out]
    rw [hMl.out] at hTM
    obtain ⟨row0, hrow0, hrl0⟩ := hr0.out
    have hrow := hid (fun W (hW : Below w2.heap.size w2 W) => (hTM.out.below hW).row 0 row0 hrow0)
    go_wp2
    go_loopw [8, 9] (fun o i wr => ∃ (k : Nat) (x : Int), k ≤ M ∧ i = .int .i64 k ∧ o = .int .i64 x ∧ Hid (diaL F k = some x) ∧ St w2.heap.size w2 [] wr) (fun _ i _ => M - (intOf i).toNat)
    case atStart => exact ⟨0, 0, Nat.zero_le _, rfl, rfl, rfl, St.start _⟩
    case round =>
      obtain ⟨k, x, hkM, rfl, rfl, hd, rS⟩ := hrel
      obtain ⟨r0, hr0c, hr0o⟩ := hrow.out _ rS.bel
      obtain ⟨Ar, cr, rfl, _, _⟩ := hr0o.form
      rw [ints_length, hrl0] at hr0c
      have hTr := hid (hTM.out.below rS.bel)
      have hSm := hid (hS.out.outer rS)
      clear hr0o
      replace rS := hid rS
      have z0 : (0 : Int) < ((2 * s : Nat) : Int) := by omega
      by_cases hlt : k < M
      · have dk : decide ((k : Int) < (M : Int)) = true := decide_eq_true (by omega)
        have hgk := hid (hgr.out k hlt _ _ _ hTr.out)
        have hf := hid (hfe.out k)
        have hl := hid (hlen.out k hlt)
        have hcx := hid (hcas.out k hlt)
        have hst := hid (hstep.out k x hd.out)
        have hbad := hid (hRn.out k hlt)
        generalize treeT (lvT m d s n) s M k = t at *
        go_upto_region 9 with (first
          | ((with_reducible refine gate (N := 29) rfl ?_); refine load_mach rfl _ rfl w.heap.size rfl m hSm.out.m0 ?_)
          | (go_at_call 113; (with_reducible refine (hgk.out).mono ?_); rintro e w4 ⟨g1, c1, g2, g3, g4, X, rfl, hlk, hT⟩; (have hO := hT.o3); rw [hf.out] at hO; replace hO := hid hO; replace rS := hid (rS.out.outer hT); clear hT hlk hgk))
        generalize F k = fk at *
        go_wp2
        go_loopw [8, 11] (fun o i wi => ∃ j : Nat, j ≤ M ∧ i = .int .i64 j ∧ o = .int .i64 ((fk.take j).foldl max x) ∧ Hid (∀ i y, i < j → fk[i]? = some y → y ≠ -1) ∧ Hid (w4 = wi)) (fun _ i _ => M - (intOf i).toNat)
        case atStart => exact ⟨0, Nat.zero_le _, rfl, rfl, fun i y h => absurd h (by omega), rfl⟩
        case round =>
          obtain ⟨j, hj, rfl, rfl, hall, hww⟩ := hrel
          obtain rfl := hww.out
          by_cases hlj : j < M
          · have dj : decide ((j : Int) < (M : Int)) = true := decide_eq_true (by omega)
            obtain ⟨y, hy⟩ : ∃ y, fk[j]? = some y := ⟨_, List.getElem?_eq_getElem (by rw [hl.out]; exact hlj)⟩
            have cy := hO.out.cellAt j (.int .i64 y) (by simp [ints, hy])
            have hyc := hcx.out y (List.mem_of_getElem? hy)
            have j0 : (0 : Int) ≤ (j : Int) := Int.natCast_nonneg _
            have j1 : (j : Int) < (M : Int) := by omega
            by_cases hn : y = -1
            · have hRR := hid (hbad.out (hn ▸ List.mem_of_getElem? hy))
              have dn : decide (y < 0) = true := decide_eq_true (by omega)
              clear hy
              go_wp2
              go_ret2
              exact ⟨by rw [hRR.out]; rfl, hS.out.bel.trans (rS.out.bel.mono hS.out.le)⟩
            · have dn : decide (y < 0) = false := decide_eq_false (by omega)
              have hstp := hid (show (fk.take (j + 1)).foldl max x = max ((fk.take j).foldl max x) y by rw [List.take_add_one, hy]; simp)
              have hall2 := hid (fun i z (hi : i < j + 1) (hz : fk[i]? = some z) => (show z ≠ -1 from by
                by_cases e : i < j
                · exact hall.out i z e hz
                · obtain rfl : i = j := by omega
                  rw [hy] at hz; injection hz with hz; subst hz
                  exact hn))
              clear hy
              generalize (fk.take j).foldl max x = mx at *
              go_wp2
              go_roundw
              case rel => exact ⟨j + 1, by omega, by go_num, i64_eq (by rw [hstp.out]; exact if_max _ _), hall2, hid trivial⟩
              case measure => simp [intOf]; omega
          · obtain rfl : M = j := by omega
            have dj : decide ((M : Int) < (M : Int)) = false := decide_eq_false (by omega)
            have hnm : ¬ -1 ∈ fk := fun h => by
              obtain ⟨i, hi, he⟩ := List.getElem_of_mem h
              exact hall.out i _ (by rw [hl.out] at hi; exact hi) (List.getElem?_eq_getElem hi) he
            have hst2 := hid (hst.out hnm)
            have htk := hid (show fk.take M = fk from by rw [← hl.out]; exact List.take_length)
            rw [htk.out]
            clear hnm
            go_wp2
            go_roundw
            case rel => exact ⟨k + 1, _, by omega, by go_num, rfl, hst2, rS.out⟩
            case measure => simp [intOf]; omega
      · obtain rfl : k = M := by omega
        have hRR := hid (hRs.out x hd.out)
        have dk : decide ((k : Int) < (k : Int)) = false := decide_eq_false (by omega)
        go_wp2
        go_ret2
        exact ⟨by rw [hRR.out]; rfl, hS.out.bel.trans (rS.out.bel.mono hS.out.le)⟩
  · rw [diaAns_c h0]
    have dn : ((levelI m n) != 0) = true := by simpa using h0
    generalize levelI m n = cd at *
    replace hk := hid hk
    clear h0
    go_enter Tryz.func31, Tryz.ntmps31
    go_wp2_with (first
      | ((with_reducible refine gate (N := 12) rfl ?_); refine load_mach rfl _ rfl w.heap.size rfl m hS.out.m0 ?_)
      | (go_at_call 119; (with_reducible refine (hcode.out _).mono ?_); rintro e w1 ⟨rfl, hb⟩; replace hS := hid (hS.out.call hb); clear hb hcode))
    go_ret2
    exact ⟨rfl, hS.out.bel⟩
end Go.Proofs.YthmcdfjijkecfaaGreat
