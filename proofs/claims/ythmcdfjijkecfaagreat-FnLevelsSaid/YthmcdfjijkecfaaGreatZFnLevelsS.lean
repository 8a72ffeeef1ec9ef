/- What the proof of FnLevels leans on, part 19 of 19. -/
import Derived.Test.YthmcdfjijkecfaaGreatZFnLevelsR
import Derived.DeepKeys
import Derived.Laws.StructEq
import Derived.Deep.CutBlock
/- DistancesFrom: what the reference answers. -/
namespace Go.Proofs.YthmcdfjijkecfaaGreat
open Go.RowKit
set_option linter.unusedVariables false
set_option linter.unusedSimpArgs false
-- @LONG

open Classical in
/-- The code of a place: a level and words of it. -/
noncomputable def plc (m : Mach) (n : Int) (ks : List Int) : Int := if levelI m n = 0 then (if ∀ x ∈ ks, inLv m n x then 0 else 2) else levelI m n
set_option maxHeartbeats 4000000 in
set_option maxRecDepth 100000 in
theorem l05Place_any (w : World) (m : Mach) (hk : m.Ok) (n : Int) (b0 : Nat) (v : Value) (ks : List Int) (hv : Own w b0 2 v (ints ks)) (hks : ks.length ≤ 2) :
    Calls Tryz.prog 112 #[.agg (mcells m), .int .i64 n, v] w fun e w' => e = .returned (.int .i64 (plc m n ks)) ∧ Below w.heap.size w w' := by
  have hS := hid ((St.arg w hv).newMB m 27)
  have hcode := hid (fun W => l05Code_any W m hk n)
  have hil := ints_length ks
  obtain ⟨A, c, rfl, _, hA⟩ := hv.form
  rw [hil] at hS hv ⊢
  by_cases h0 : levelI m n = 0
  · obtain ⟨l, s, n, gd, rfl, hn5, hnl, hpw⟩ := levelI_good h0
    rw [h0] at hcode
    have l2 := gd.l2
    have l3 := gd.l3
    have gL := hid gd.L
    have hpo := hid (fun W => l01Power_any l n (by omega) (by omega) (by omega) W)
    have hp0 : (∀ x ∈ ks, inLv m n x) → plc m n ks = 0 := fun h => by unfold plc; rw [if_pos h0, if_pos h]
    have hp2 : (¬ ∀ x ∈ ks, inLv m n x) → plc m n ks = 2 := fun h => by unfold plc; rw [if_pos h0, if_neg h]
    have hiv := hid (fun x => (show inLv m n x ↔ (0 ≤ x ∧ x ≤ ((pw l n : Nat) : Int) - 1) from by unfold inLv; rw [gd.L]; simp only [Int.toNat_natCast]; omega))
    have hin := hid (fun x W => l01In_any x 0 (((pw l n : Nat) : Int) - 1) (decide (0 ≤ x ∧ x ≤ ((pw l n : Nat) : Int) - 1)) rfl W)
    generalize plc m n ks = R at *
    replace hp0 := hid hp0; replace hp2 := hid hp2
    replace hk := hid hk; replace gd := hid gd
    clear h0
    generalize hM : pw l n = M at *
    have ew : IntKind.i64.wrap ((M : Int) - 1) = (M : Int) - 1 := IntWalk.i64_in _ (by omega)
    go_enter Tryz.func112, Tryz.ntmps112
    go_upto_region 2 with (first
      | ((with_reducible refine gate (N := 9) rfl ?_); refine load_mach rfl _ rfl w.heap.size rfl m hS.out.m0 ?_)
      | (go_at_call 119; (with_reducible refine (hcode.out _).mono ?_); rintro e w1 ⟨rfl, hb⟩; replace hS := hid (hS.out.call hb); clear hb hcode))
    go_wp2
    go_loopw [8] (fun i wr => ∃ j : Nat, j ≤ ks.length ∧ i = .int .i64 j ∧ (∀ i x, i < j → ks[i]? = some x → inLv m n x) ∧ St w.heap.size w [Asn.mb 27 w.heap.size m, Asn.own 0 2 (.slice A ks.length c) (ints ks)] wr) (fun i _ => ks.length - (intOf i).toNat)
    case atStart => exact ⟨0, Nat.zero_le _, rfl, fun i x h => absurd h (by omega), hS.out⟩
    case round =>
      clear hS
      obtain ⟨j, hj, rfl, hall, rS⟩ := hrel
      replace hall := hid hall
      have cL := rS.m0.cL
      rw [gL.out] at cL
      by_cases hlt : j < ks.length
      · obtain ⟨x, hx⟩ : ∃ x, ks[j]? = some x := ⟨_, List.getElem?_eq_getElem hlt⟩
        obtain ⟨ga, rfl⟩ : ∃ ga, A = some ⟨ga, 0, none⟩ := by
          rcases hA with ⟨_, h1, _⟩ | ⟨g, h1, _⟩
          · have h2 : ks.length = 0 := by rw [← hil, h1]; rfl
            omega
          · exact ⟨g, h1⟩
        have co := rS.o1.cellAt j (.int .i64 x) (by simp [ints, hx])
        have hvx := hid (hiv.out x)
        replace hx := hid hx
        replace rS := hid rS
        replace hA := hid hA
        by_cases hr : 0 ≤ x ∧ x ≤ (M : Int) - 1
        · have hin2 := hid (fun W => by have h := hin.out x W; rw [decide_eq_true hr] at h; exact h)
          have hall2 := hid (fun i y (hi : i < j + 1) (hy : ks[i]? = some y) => (show inLv m n y from by
            by_cases e : i < j
            · exact hall.out i y e hy
            · obtain rfl : i = j := by omega
              rw [hx.out] at hy; injection hy with hy; subst hy
              exact hvx.out.2 hr))
          clear hr hvx
          go_upto_region 5 with (fail)
          go_quiet (first
            | (go_at_call 120; exact quiet_same (hpo.out _))
            | (go_at_call 142; exact quiet_same (hin2.out _)))
          go_wp2
          go_roundw
          case rel => exact ⟨j + 1, by omega, by go_num, hall2.out, rS.out.drewN _⟩
          case measure => simp [intOf]; omega
        · have hin2 := hid (fun W => by have h := hin.out x W; rw [decide_eq_false hr] at h; exact h)
          have hR := hid (hp2.out fun h => hr (hvx.out.1 (h x (List.mem_of_getElem? hx.out))))
          clear hr hvx
          go_upto_region 5 with (fail)
          go_quiet (first
            | (go_at_call 120; exact quiet_same (hpo.out _))
            | (go_at_call 142; exact quiet_same (hin2.out _)))
          go_wp2
          go_ret
          exact ⟨by rw [hR.out]; rfl, (rS.out.drewN _).bel⟩
      · have hR := hid (hp0.out fun x hx => by
          obtain ⟨i, hi, rfl⟩ := List.getElem_of_mem hx
          exact hall.out i _ (by omega) (List.getElem?_eq_getElem hi))
        obtain rfl : ks.length = j := by omega
        replace rS := hid rS
        replace hA := hid hA
        go_wp2
        go_ret
        exact ⟨by rw [hR.out]; rfl, rS.out.bel⟩
  · have hpl := hid (show plc m n ks = levelI m n from if_neg h0)
    rw [hpl.out]
    have dn : ((levelI m n) == 0) = false := by simpa using h0
    generalize levelI m n = cd at *
    replace hk := hid hk; replace hA := hid hA
    clear h0
    go_enter Tryz.func112, Tryz.ntmps112
    go_upto_region 2 with (first
      | ((with_reducible refine gate (N := 9) rfl ?_); refine load_mach rfl _ rfl w.heap.size rfl m hS.out.m0 ?_)
      | (go_at_call 119; (with_reducible refine (hcode.out _).mono ?_); rintro e w1 ⟨rfl, hb⟩; replace hS := hid (hS.out.call hb); clear hb hcode))
    go_wp2
    go_loopw [8] (fun i wr => i = .int .i64 0 ∧ St w.heap.size w [Asn.mb 27 w.heap.size m, Asn.own 0 2 (.slice A ks.length c) (ints ks)] wr) (fun _ _ => 0)
    case atStart => exact ⟨rfl, hS.out⟩
    case round =>
      clear hS
      obtain ⟨rfl, rS⟩ := hrel
      replace rS := hid rS
      by_cases hlt : 0 < ks.length
      · have d0 : decide ((0 : Int) < (ks.length : Int)) = true := decide_eq_true (by omega)
        go_wp2
        go_ret
        exact ⟨rfl, rS.out.bel⟩
      · have d0 : decide ((0 : Int) < (ks.length : Int)) = false := decide_eq_false (by omega)
        go_wp2
        go_ret
        exact ⟨rfl, rS.out.bel⟩
set_option maxRecDepth 100000 in
theorem field_tree3 (W : World) (A1 A2 A3 A4 : Option Addr) (n1 c1 n2 c2 n3 c3 n4 c4 : Nat) : (Instr.field 134 (.agg #[.slice A1 n1 c1, .slice A2 n2 c2, .slice A3 n3 c3, .slice A4 n4 c4]) 3).run Tryz.prog W = .ok (.slice A4 n4 c4) W := by
  first | rfl | kernel_rfl
set_option maxHeartbeats 4000000 in
set_option maxRecDepth 100000 in
theorem specDis_any (w : World) (m : Mach) (hk : m.Ok) (n k : Int) :
    Calls Tryz.prog 21 #[.agg (mcells m), .int .i64 n, .int .i64 k] w fun e w' => ∃ v, e = .returned (.tuple #[v, .int .i64 (disAns m n k).2]) ∧ Own w' w.heap.size 2 v (ints (disAns m n k).1) ∧ Below w.heap.size w w' := by
  have hS := hid (show St w.heap.size w [Asn.own w.heap.size 2 (.slice (some ⟨w.heap.size + 1, 0, none⟩) 1 1) (ints [k]), Asn.mb 27 w.heap.size m] ((w.alloc (.cells (mcells m) 27)).alloc (.cells #[.int .i64 k] 2)) from by
    have h := ((St.start w).newMB m 27).newOwn [.int .i64 k] 2 (by simp)
    rw [heap_alloc_size] at h
    exact h)
  have hpl := hid (fun W b v (hO : Own W b 2 v (ints [k])) => l05Place_any W m hk n b v [k] hO (by simp))
  have hM1 := hid ((St.start w).newMB m 27)
  have hcode : plc m n [k] = (disAns m n k).2 := by
    unfold plc disAns
    by_cases h0 : levelI m n = 0
    · rw [if_pos h0, if_pos h0]
      by_cases h1 : inLv m n k
      · rw [if_pos (by simpa using h1), if_pos h1]
      · rw [if_neg (by simpa using h1), if_neg h1]
    · rw [if_neg h0, if_neg h0]
  rw [hcode] at hpl
  clear hcode
  by_cases h0 : levelI m n = 0 ∧ inLv m n k
  · obtain ⟨h0, hkk⟩ := h0
    obtain ⟨l, s, n, gd, rfl, hn5, hnl, hpw⟩ := levelI_good h0
    obtain ⟨k, rfl⟩ := Int.eq_ofNat_of_zero_le hkk.1
    have hk' : k < pw l n := by have := hkk.2; rw [gd.L] at this; simp only [Int.toNat_natCast] at this; omega
    rw [disAns_0 gd h0 hk'] at hpl ⊢
    have htb := hid (fun W => l05Tables_any W m l s gd hk n (by omega) (by omega))
    have hgr := hid (fun W b v (hM : Mat W b v (tabA m l n s ++ tabA (inv m l s) l n s)) => grow_any W m l s gd b v _ hM (by rw [List.length_append, tabA_length, tabA_length]; omega) (pw l n) k hpw hk' (lvT m l s n) (fun p hp => lvT_M p hp) (fun j fr hj hf => lvT_lt gd j fr hj hf))
    replace hk := hid hk; replace gd := hid gd
    clear hkk h0
    generalize treeT (lvT m l s n) s (pw l n) k = t at *
    have hft := fun W (A1 A2 A3 A4 : Option Addr) (n1 c1 n2 c2 n3 c3 n4 c4 : Nat) => field_tree3 W A1 A2 A3 A4 n1 c1 n2 c2 n3 c3 n4 c4
    go_enter Tryz.func21, Tryz.ntmps21
    go_upto_region 4 with (first
      | ((with_reducible refine gate (N := 9) rfl ?_); refine load_mach rfl _ rfl w.heap.size rfl m hM1.out.m0 ?_)
      | (go_at_call 112; (with_reducible refine (hpl.out _ _ _ hS.out.o0).mono ?_); rintro e w1 ⟨rfl, hb⟩; replace hS := hid (hS.out.call hb).drop; clear hb hpl))
    replace hS := hid hS.out.drew
    refine wp_region_heldL (L := [(5, (fun w' : World => MB w' 27 w.heap.size m))]) (by kernel_rfl) (HeldL.cons (fun _ => hS.out.m0) HeldL.nil) (fun hHeld => ?_)
    generalize w1.drew = wa at *
    refine wpAnyL_takeP (i := 0) 5 [] (v := (.agg (mcells m))) (fun w' : World => MB w' 27 w.heap.size m) rfl (by kernel_rfl) (by kernel_rfl) (by kernel_rfl) (by rfl) (by kernel_rfl) (by simp) (fun _ _ _ h => h) (Or.inl ⟨by rfl, ?_⟩) (by assumption) ?_
    · (intro W hW; exact exec_load _ rfl rfl (load_run hW))
    intro hHeld'
    clear hHeld; have hHeld := hHeld'; clear hHeld'
    try simp only [Act.put, List.getElem_toArray, List.getElem_cons_succ, List.getElem_cons_zero, List.setIfInBounds_toArray, List.set_cons_zero, List.set_cons_succ]
    refine wpAnyL_takeP (i := 1) 5 [3] (v := (.agg (mcells m))) (fun w' : World => MB w' 27 w.heap.size m) rfl (by kernel_rfl) (by kernel_rfl) (by kernel_rfl) (by rfl) (by kernel_rfl) (by simp) (fun _ _ _ h => h) (Or.inl ⟨by rfl, ?_⟩) (by assumption) ?_
    · (intro W hW; exact exec_load _ rfl rfl (load_run hW))
    intro hHeld'
    clear hHeld; have hHeld := hHeld'; clear hHeld'
    try simp only [Act.put, List.getElem_toArray, List.getElem_cons_succ, List.getElem_cons_zero, List.setIfInBounds_toArray, List.set_cons_zero, List.set_cons_succ]
    refine wpAnyL_take0 (i := 2) (v := ?_) rfl (by kernel_rfl) (by kernel_rfl) (by kernel_rfl) (by rfl) (fun _ _ _ h => h) (Or.inl ⟨by rfl, ?_⟩) (by assumption) ?_
    rotate_left
    · (intro W _; go_simp; (with_reducible rfl))
    intro hHeld'
    clear hHeld; have hHeld := hHeld'; clear hHeld'
    try simp only [Act.put, List.getElem_toArray, List.getElem_cons_succ, List.getElem_cons_zero, List.setIfInBounds_toArray, List.set_cons_zero, List.set_cons_succ]
    refine wpAnyL_take0 (i := 4) (v := ?_) rfl (by kernel_rfl) (by kernel_rfl) (by kernel_rfl) (by rfl) (fun _ _ _ h => h) (Or.inl ⟨by rfl, ?_⟩) (by assumption) ?_
    rotate_left
    · (intro W _; go_simp; (with_reducible rfl))
    intro hHeld'
    clear hHeld; have hHeld := hHeld'; clear hHeld'
    try simp only [Act.put, List.getElem_toArray, List.getElem_cons_succ, List.getElem_cons_zero, List.setIfInBounds_toArray, List.set_cons_zero, List.set_cons_succ]
    refine wpAnyL_ready (rs := [3]) (by kernel_rfl) (by simp) ?_
    refine AllReadyL.cons rfl (fun K hK => ?_) AllReadyL.nil
    go_simp
    (with_reducible refine (htb.out _).mono ?_)
    rintro e w3 ⟨v, rfl, hM, hb⟩
    replace hS := hid (hS.out.call hb)
    clear hb
    go_simp
    refine hK.out _ _ (HeldL.cons (fun _ => hS.out.m0) HeldL.nil) (fun hHeld' => ?_)
    clear hK K hHeld; have hHeld := hHeld'; clear hHeld'
    try simp only [Act.put, List.getElem_toArray, List.getElem_cons_succ, List.getElem_cons_zero, List.setIfInBounds_toArray, List.set_cons_zero, List.set_cons_succ]
    refine wpAnyL_ready (rs := [5]) (by kernel_rfl) (by simp) ?_
    refine AllReadyL.cons rfl (fun K hK => ?_) AllReadyL.nil
    go_simp
    (with_reducible refine (hgr.out _ _ _ hM).mono ?_)
    rintro e w4 ⟨g1, c1, g2, g3, g4, X, rfl, hlk, hT⟩
    have hle := hid hS.out.le
    replace hS := hid (hS.out.outer hT)
    have hO := hid hT.o3
    clear hT hlk hM
    go_simp
    refine hK.out _ _ (HeldL.cons (fun h => absurd h (by decide +kernel)) HeldL.nil) (fun hHeld' => ?_)
    clear hK K hHeld; have hHeld := hHeld'; clear hHeld'
    try simp only [Act.put, List.getElem_toArray, List.getElem_cons_succ, List.getElem_cons_zero, List.setIfInBounds_toArray, List.set_cons_zero, List.set_cons_succ]
    refine wpAnyL_take0 (i := 6) (v := ?_) rfl (by kernel_rfl) (by kernel_rfl) (by kernel_rfl) (by rfl) (fun _ _ _ h => h) (Or.inl ⟨by rfl, ?_⟩) (by assumption) ?_
    rotate_left
    · (intro W _; go_simp; (with_reducible rfl))
    intro hHeld'
    clear hHeld; have hHeld := hHeld'; clear hHeld'
    try simp only [Act.put, List.getElem_toArray, List.getElem_cons_succ, List.getElem_cons_zero, List.setIfInBounds_toArray, List.set_cons_zero, List.set_cons_succ]
    refine wpAnyL_take0 (i := 7) (v := ?_) rfl (by kernel_rfl) (by kernel_rfl) (by kernel_rfl) (by rfl) (fun _ _ _ h => h) (Or.inl ⟨by rfl, ?_⟩) (by assumption) ?_
    rotate_left
    · (intro W _; go_simp; (with_reducible rfl))
    intro hHeld'
    clear hHeld; have hHeld := hHeld'; clear hHeld'
    try simp only [Act.put, List.getElem_toArray, List.getElem_cons_succ, List.getElem_cons_zero, List.setIfInBounds_toArray, List.set_cons_zero, List.set_cons_succ]
    refine wpAnyL_take0 (i := 8) (v := ?_) rfl (by kernel_rfl) (by kernel_rfl) (by kernel_rfl) (by rfl) (fun _ _ _ h => h) (Or.inl ⟨by rfl, ?_⟩) (by assumption) ?_
    rotate_left
    · (intro W _; go_simp; (with_reducible rfl))
    intro hHeld'
    clear hHeld; have hHeld := hHeld'; clear hHeld'
    try simp only [Act.put, List.getElem_toArray, List.getElem_cons_succ, List.getElem_cons_zero, List.setIfInBounds_toArray, List.set_cons_zero, List.set_cons_succ]
    refine wpAnyL_done (by kernel_rfl) ?_ _
    go_wp2
    go_ret2
    exact ⟨_, rfl, hO.out.mono hle.out, hS.out.bel⟩
  · obtain ⟨c, hc, hd⟩ : ∃ c, c ≠ 0 ∧ disAns m n k = ([], c) := by
      by_cases h1 : levelI m n = 0
      · exact ⟨2, by decide, disAns_2 h1 fun h => h0 ⟨h1, h⟩⟩
      · exact ⟨_, h1, disAns_c h1⟩
    rw [hd] at hpl ⊢
    have dn : (c != 0) = true := by simpa using hc
    replace hk := hid hk
    clear h0 hd
    go_enter Tryz.func21, Tryz.ntmps21
    go_wp2_with (first
      | ((with_reducible refine gate (N := 9) rfl ?_); refine load_mach rfl _ rfl w.heap.size rfl m hM1.out.m0 ?_)
      | (go_at_call 112; (with_reducible refine (hpl.out _ _ _ hS.out.o0).mono ?_); rintro e w1 ⟨rfl, hb⟩; replace hS := hid (hS.out.call hb).drop; clear hb hpl))
    go_ret2
    exact ⟨_, rfl, Own.nil _ _ _, hS.out.bel⟩
end Go.Proofs.YthmcdfjijkecfaaGreat

/- DiameterOf: what the reference answers. -/
namespace Go.Proofs.YthmcdfjijkecfaaGreat
open Go.RowKit
set_option linter.unusedVariables false
set_option linter.unusedSimpArgs false
-- @LONG

set_option maxRecDepth 100000 in
theorem field_tree3' (W : World) (A1 A2 A3 A4 : Option Addr) (n1 c1 n2 c2 n3 c3 n4 c4 : Nat) : (Instr.field 134 (.agg #[.slice A1 n1 c1, .slice A2 n2 c2, .slice A3 n3 c3, .slice A4 n4 c4]) 3).run Tryz.prog W = .ok (.slice A4 n4 c4) W := by
  first | rfl | kernel_rfl
set_option maxHeartbeats 8000000 in
set_option maxRecDepth 100000 in
theorem specDia_any (w : World) (m : Mach) (hk : m.Ok) (n : Int) :
    Calls Tryz.prog 31 #[.agg (mcells m), .int .i64 n] w fun e w' => e = .returned (.tuple #[.int .i64 (diaAns m n).1, .int .i64 (diaAns m n).2]) ∧ Below w.heap.size w w' := by
  have hS := hid ((St.start w).newMB m 27)
  have hcode := hid (fun W => l05Code_any W m hk n)
  by_cases h0 : levelI m n = 0
  · obtain ⟨d, s, n, gd, rfl, hn5, hnl, hpw⟩ := levelI_good h0
    rw [h0] at hcode
    have htb := hid (fun W => l05Tables_any W m d s gd hk n (by omega) (by omega))
    have hgr := hid (fun k (hk' : k < pw d n) W b v (hM : Mat W b v (tabA m d n s ++ tabA (inv m d s) d n s)) => grow_any W m d s gd b v _ hM (by rw [List.length_append, tabA_length, tabA_length]; omega) (pw d n) k hpw hk' (lvT m d s n) (fun p hp => lvT_M p hp) (fun j fr hj hf => lvT_lt gd j fr hj hf))
    have hr0 := hid (show ∃ row, (tabA m d n s ++ tabA (inv m d s) d n s)[0]? = some row ∧ row.length = pw d n from by
      obtain ⟨row, h1, h2, _⟩ := lvT_M (m := m) (l := d) (s := s) (n := n) 0 (by have := gd.s1; omega)
      exact ⟨row, h1, h2⟩)
    have hft := fun W (A1 A2 A3 A4 : Option Addr) (n1 c1 n2 c2 n3 c3 n4 c4 : Nat) => field_tree3' W A1 A2 A3 A4 n1 c1 n2 c2 n3 c3 n4 c4
    rw [diaAns_0 gd h0]
    have hfe := hid (fun k => (show (treeT (lvT m d s n) s (pw d n) k).far = farL m d s n k from rfl))
    have hpos := pw_pos d (by have := gd.l2; omega) n
    obtain ⟨R, hR⟩ : ∃ R : Int × Int, R = diaR (diaL (farL m d s n) (pw d n)) := ⟨_, rfl⟩
    have hRn := hid (fun k (hk' : k < pw d n) (hm : -1 ∈ farL m d s n k) => (show R = (0, 5) by rw [hR, diaL_bad hk' hm]; rfl))
    have hRs := hid (fun o (h : diaL (farL m d s n) (pw d n) = some o) => (show R = (o, 0) by rw [hR, h]; rfl))
    have hstep := hid (fun k o (h : diaL (farL m d s n) k = some o) (hn : ¬ -1 ∈ farL m d s n k) => diaL_step h hn)
    have hcas := hid (fun k (hk' : k < pw d n) x (hx : x ∈ farL m d s n k) => (farL_ok (m := m) gd hk').far_cases hx)
    have hlen := hid (fun k (hk' : k < pw d n) => (show (farL m d s n k).length = pw d n from (farL_ok (m := m) gd hk').fl))
    have hMl := hid (show (tabA m d n s ++ tabA (inv m d s) d n s).length = 2 * s by rw [List.length_append, tabA_length, tabA_length]; omega)
    have s1 := gd.s1
    have s16 := gd.s16
    rw [← hR]
    clear hR
    replace hk := hid hk; replace gd := hid gd
    clear h0
    generalize farL m d s n = F at *
    generalize tabA m d n s ++ tabA (inv m d s) d n s = TM at *
    generalize hM : pw d n = M at *
    replace hM := hid hM
    go_enter Tryz.func31, Tryz.ntmps31
    go_upto_region 5 with (first
      | ((with_reducible refine gate (N := 12) rfl ?_); refine load_mach rfl _ rfl w.heap.size rfl m hS.out.m0 ?_)
      | ((with_reducible refine gate (N := 18) rfl ?_); refine load_mach rfl _ rfl w.heap.size rfl m hS.out.m0 ?_)
      | (go_at_call 119; (with_reducible refine (hcode.out _).mono ?_); rintro e w1 ⟨rfl, hb⟩; replace hS := hid (hS.out.call hb); clear hb hcode)
      | (go_at_call 114; (with_reducible refine (htb.out _).mono ?_); rintro e w2 ⟨v, rfl, hTM, hb⟩; replace hS := hid (hS.out.call hb); replace hTM := hid hTM; clear hb htb))
    obtain ⟨gT, cT, rfl, _, _⟩ := hTM.out.blk (fun e => by have h1 := hMl.out; rw [e] at h1; simp at h1; omega)
    rw [hMl.out]
    rw [hMl.out] at hTM
    obtain ⟨row0, hrow0, hrl0⟩ := hr0.out
    have hrow := hid (fun W (hW : Below w2.heap.size w2 W) => (hTM.out.below hW).row 0 row0 hrow0)
    go_wp2
    go_loopw [8, 9] (fun o i wr => ∃ (k : Nat) (x : Int), k ≤ M ∧ i = .int .i64 k ∧ o = .int .i64 x ∧ Hid (diaL F k = some x) ∧ St w2.heap.size w2 [] wr) (fun _ i _ => M - (intOf i).toNat)
    case atStart => exact ⟨0, 0, Nat.zero_le _, rfl, rfl, rfl, St.start _⟩
    case round =>
      obtain ⟨k, x, hkM, rfl, rfl, hd, rS⟩ := hrel
      obtain ⟨r0, hr0c, hr0o⟩ := hrow.out _ rS.bel
      obtain ⟨Ar, cr, rfl, _, _⟩ := hr0o.form
      rw [ints_length, hrl0] at hr0c
      have hTr := hid (hTM.out.below rS.bel)
      have hSm := hid (hS.out.outer rS)
      clear hr0o
      replace rS := hid rS
      have z0 : (0 : Int) < ((2 * s : Nat) : Int) := by omega
      by_cases hlt : k < M
      · have dk : decide ((k : Int) < (M : Int)) = true := decide_eq_true (by omega)
        have hgk := hid (hgr.out k hlt _ _ _ hTr.out)
        have hf := hid (hfe.out k)
        have hl := hid (hlen.out k hlt)
        have hcx := hid (hcas.out k hlt)
        have hst := hid (hstep.out k x hd.out)
        have hbad := hid (hRn.out k hlt)
        generalize treeT (lvT m d s n) s M k = t at *
        go_upto_region 9 with (first
          | ((with_reducible refine gate (N := 29) rfl ?_); refine load_mach rfl _ rfl w.heap.size rfl m hSm.out.m0 ?_)
          | (go_at_call 113; (with_reducible refine (hgk.out).mono ?_); rintro e w4 ⟨g1, c1, g2, g3, g4, X, rfl, hlk, hT⟩; (have hO := hT.o3); rw [hf.out] at hO; replace hO := hid hO; replace rS := hid (rS.out.outer hT); clear hT hlk hgk))
        generalize F k = fk at *
        go_wp2
        go_loopw [8, 11] (fun o i wi => ∃ j : Nat, j ≤ M ∧ i = .int .i64 j ∧ o = .int .i64 ((fk.take j).foldl max x) ∧ Hid (∀ i y, i < j → fk[i]? = some y → y ≠ -1) ∧ Hid (w4 = wi)) (fun _ i _ => M - (intOf i).toNat)
        case atStart => exact ⟨0, Nat.zero_le _, rfl, rfl, fun i y h => absurd h (by omega), rfl⟩
        case round =>
          obtain ⟨j, hj, rfl, rfl, hall, hww⟩ := hrel
          obtain rfl := hww.out
          by_cases hlj : j < M
          · have dj : decide ((j : Int) < (M : Int)) = true := decide_eq_true (by omega)
            obtain ⟨y, hy⟩ : ∃ y, fk[j]? = some y := ⟨_, List.getElem?_eq_getElem (by rw [hl.out]; exact hlj)⟩
            have cy := hO.out.cellAt j (.int .i64 y) (by simp [ints, hy])
            have hyc := hcx.out y (List.mem_of_getElem? hy)
            have j0 : (0 : Int) ≤ (j : Int) := Int.natCast_nonneg _
            have j1 : (j : Int) < (M : Int) := by omega
            by_cases hn : y = -1
            · have hRR := hid (hbad.out (hn ▸ List.mem_of_getElem? hy))
              have dn : decide (y < 0) = true := decide_eq_true (by omega)
              clear hy
              go_wp2
              go_ret2
              exact ⟨by rw [hRR.out]; rfl, hS.out.bel.trans (rS.out.bel.mono hS.out.le)⟩
            · have dn : decide (y < 0) = false := decide_eq_false (by omega)
              have hstp := hid (show (fk.take (j + 1)).foldl max x = max ((fk.take j).foldl max x) y by rw [List.take_add_one, hy]; simp)
              have hall2 := hid (fun i z (hi : i < j + 1) (hz : fk[i]? = some z) => (show z ≠ -1 from by
                by_cases e : i < j
                · exact hall.out i z e hz
                · obtain rfl : i = j := by omega
                  rw [hy] at hz; injection hz with hz; subst hz
                  exact hn))
              clear hy
              generalize (fk.take j).foldl max x = mx at *
              go_wp2
              go_roundw
              case rel => exact ⟨j + 1, by omega, by go_num, i64_eq (by rw [hstp.out]; exact if_max _ _), hall2, hid trivial⟩
              case measure => simp [intOf]; omega
          · obtain rfl : M = j := by omega
            have dj : decide ((M : Int) < (M : Int)) = false := decide_eq_false (by omega)
            have hnm : ¬ -1 ∈ fk := fun h => by
              obtain ⟨i, hi, he⟩ := List.getElem_of_mem h
              exact hall.out i _ (by rw [hl.out] at hi; exact hi) (List.getElem?_eq_getElem hi) he
            have hst2 := hid (hst.out hnm)
            have htk := hid (show fk.take M = fk from by rw [← hl.out]; exact List.take_length)
            rw [htk.out]
            clear hnm
            go_wp2
            go_roundw
            case rel => exact ⟨k + 1, _, by omega, by go_num, rfl, hst2, rS.out⟩
            case measure => simp [intOf]; omega
      · obtain rfl : k = M := by omega
        have hRR := hid (hRs.out x hd.out)
        have dk : decide ((k : Int) < (k : Int)) = false := decide_eq_false (by omega)
        go_wp2
        go_ret2
        exact ⟨by rw [hRR.out]; rfl, hS.out.bel.trans (rS.out.bel.mono hS.out.le)⟩
  · rw [diaAns_c h0]
    have dn : ((levelI m n) != 0) = true := by simpa using h0
    generalize levelI m n = cd at *
    replace hk := hid hk
    clear h0
    go_enter Tryz.func31, Tryz.ntmps31
    go_wp2_with (first
      | ((with_reducible refine gate (N := 12) rfl ?_); refine load_mach rfl _ rfl w.heap.size rfl m hS.out.m0 ?_)
      | (go_at_call 119; (with_reducible refine (hcode.out _).mono ?_); rintro e w1 ⟨rfl, hb⟩; replace hS := hid (hS.out.call hb); clear hb hcode))
    go_ret2
    exact ⟨rfl, hS.out.bel⟩
end Go.Proofs.YthmcdfjijkecfaaGreat

/- Lists of edges: three numbers an element; compared, marked and held. -/
namespace Go.Proofs.YthmcdfjijkecfaaGreat
open Go.RowKit
set_option linter.unusedVariables false
set_option linter.unusedSimpArgs false

def c3 (a b c : Int) : List Value := [.int .i64 a, .int .i64 b, .int .i64 c]
theorem c3_one (a b c : Int) : ∀ u ∈ c3 a b c, u.oneCell' = true := by intro u hu; simp [c3] at hu; rcases hu with rfl | rfl | rfl <;> rfl
/-- The edges of the first k words, and q of the next one. -/
def edL (F : Nat → Nat → Nat) (s k q : Nat) : List (Nat × Nat × Nat) := ((List.range k).flatMap fun i => (List.range s).map fun p => (i, p, F p i)) ++ (List.range q).map fun p => (k, p, F p k)
def ecs (E : List (Nat × Nat × Nat)) : List Value := E.flatMap fun e => c3 e.1 e.2.1 e.2.2
theorem edL_snoc (F : Nat → Nat → Nat) (s k q : Nat) : edL F s k (q + 1) = edL F s k q ++ [(k, q, F q k)] := by simp [edL, List.range_succ]
theorem edL_row (F : Nat → Nat → Nat) (s k : Nat) : edL F s k s = edL F s (k + 1) 0 := by simp [edL, List.range_succ]
theorem edL_length (F : Nat → Nat → Nat) (s k q : Nat) : (edL F s k q).length = k * s + q := by
  have h : ∀ k, ((List.range k).flatMap fun i => (List.range s).map fun p => (i, p, F p i)).length = k * s := by
    intro k
    induction k with
    | zero => simp
    | succ k ih => rw [List.range_succ, List.flatMap_append, List.length_append, ih, Nat.succ_mul]; simp
  simp [edL, h k]
theorem ecs_snoc (E : List (Nat × Nat × Nat)) (a b c : Nat) : ecs (E ++ [(a, b, c)]) = ecs E ++ c3 a b c := by simp [ecs]
theorem ecs_length (E : List (Nat × Nat × Nat)) : (ecs E).length = E.length * 3 := by
  induction E with
  | nil => rfl
  | cons e E ih => simp [ecs, c3] at ih ⊢; rw [ih]; omega
theorem ecs_get (E : List (Nat × Nat × Nat)) (i : Nat) (e : Nat × Nat × Nat) (h : E[i]? = some e) : ∀ j, j < 3 → (ecs E)[i * 3 + j]? = (c3 e.1 e.2.1 e.2.2)[j]? := by
  induction E generalizing i with
  | nil => simp at h
  | cons x E ih =>
    intro j hj
    have hc : ecs (x :: E) = c3 x.1 x.2.1 x.2.2 ++ ecs E := by simp [ecs]
    have hl : (c3 x.1 x.2.1 x.2.2).length = 3 := rfl
    rw [hc]
    cases i with
    | zero =>
      simp at h
      subst h
      rw [Nat.zero_mul, Nat.zero_add, List.getElem?_append_left (by rw [hl]; exact hj)]
    | succ i =>
      rw [List.getElem?_append_right (by rw [hl]; omega), hl, show (i + 1) * 3 + j - 3 = i * 3 + j by omega]
      exact ih i (by simpa using h) j hj



end Go.Proofs.YthmcdfjijkecfaaGreat

/- LevelEdges: what the program and the reference answer. -/
namespace Go.Proofs.YthmcdfjijkecfaaGreat
open Go.RowKit
set_option linter.unusedVariables false
set_option linter.unusedSimpArgs false

open Classical in
noncomputable def edgesAns (m : Mach) (n : Int) : List (Nat × Nat × Nat) × Int :=
  if levelI m n = 0 then (edL (fun q i => pf m m.L.toNat q n.toNat i) m.S.toNat (pw m.L.toNat n.toNat) 0, 0) else ([], levelI m n)
theorem edgesAns_0 {m : Mach} {l s n : Nat} (g : Good m l s) (h : levelI m n = 0) : edgesAns m n = (edL (fun q i => pf m l q n i) s (pw l n) 0, 0) := by
  unfold edgesAns; rw [if_pos h, g.L, g.S]; rfl
theorem edgesAns_c {m : Mach} {n : Int} (h : levelI m n ≠ 0) : edgesAns m n = ([], levelI m n) := by unfold edgesAns; rw [if_neg h]
theorem edgesAns_len (m : Mach) (n : Int) : (edgesAns m n).1.length < 300000 := by
  by_cases h : levelI m n = 0
  · obtain ⟨l, s, n', g, rfl, _, _, hpw⟩ := levelI_good h
    rw [edgesAns_0 g h, edL_length]
    have := g.s16
    have h2 : pw l n' * s ≤ 243 * 16 := Nat.mul_le_mul hpw this
    omega
  · rw [edgesAns_c h]; simp
/-- The answer of edges as it comes back. -/
def AnsE (w : World) (A : List (Nat × Nat × Nat) × Int) (e : Ending) (w' : World) : Prop := ∃ v, e = .returned (.tuple #[v, .int .i64 A.2]) ∧ OwnN w' w.heap.size 59 3 v A.1.length (ecs A.1) ∧ Below w.heap.size w w'

theorem info_edge : (Tryz.prog.info? 59).map (fun i => (i.zero, i.size, i.bytes)) = some (some (.agg #[.int .i64 0, .int .i64 0, .int .i64 0]), 3, 24) := by kernel_rfl

set_option maxHeartbeats 4000000 in
set_option maxRecDepth 100000 in
theorem specEdges_any (w : World) (m : Mach) (hk : m.Ok) (n : Int) : Calls Tryz.prog 29 #[.agg (mcells m), .int .i64 n] w (AnsE w (edgesAns m n)) := by
  have hS := hid ((St.start w).newMB m 27)
  have hcode := hid (fun W => l05Code_any W m hk n)
  by_cases h0 : levelI m n = 0
  · obtain ⟨l, s, n, g, rfl, hn5, hnl, hpw⟩ := levelI_good h0
    rw [h0] at hcode
    rw [edgesAns_0 g h0]
    have gL := hid g.L
    have gS := hid g.S
    have l2 := g.l2
    have s16 := g.s16
    have s1 := g.s1
    have hgr := hid (fun W => l05Tables_any W m l s g hk n (by omega) (by omega))
    have hpo := hid (fun W => l01Power_any l n (by omega) (by omega) (by omega) W)
    have htl := hid (show (tabA m l n s ++ tabA (inv m l s) l n s).length = 2 * s by rw [List.length_append, tabA_length, tabA_length]; omega)
    have hrow := hid (fun q (hq : q < s) => tabs_get m l n s q hq)
    have hpl := hid (fun q => permZ_length m l q n)
    have hget := hid (fun q i (hi : i < pw l n) => permZ_get m l q n i hi)
    have hpos := pw_pos l (by omega) n
    generalize hT : tabA m l n s ++ tabA (inv m l s) l n s = T at *
    replace hT := hid hT
    clear h0
    replace hk := hid hk; replace g := hid g
    generalize hMn : pw l n = M at *
    replace hMn := hid hMn
    go_enter Tryz.func29, Tryz.ntmps29
    go_wp2_with (first
      | ((with_reducible refine gate (N := 11) rfl ?_); refine load_mach rfl _ rfl w.heap.size rfl m hS.out.m0 ?_)
      | ((with_reducible refine gate (N := 17) rfl ?_); refine load_mach rfl _ rfl w.heap.size rfl m hS.out.m0 ?_)
      | (go_at_call 119; (with_reducible refine (hcode.out _).mono ?_); rintro e w1 ⟨rfl, hb⟩; replace hS := hid (hS.out.call hb); clear hb hcode)
      | (go_at_call 114; (with_reducible refine (hgr.out _).mono ?_); rintro e w2 ⟨vT, rfl, hG, hb⟩; obtain ⟨rows, hS'⟩ := hS.out.callMat hb hG; obtain ⟨gT, cT, rfl, _, _⟩ := hG.blk (fun e => by have h1 := congrArg List.length e; rw [htl.out] at h1; simp at h1; omega); rw [htl.out] at hS' ⊢; replace hS := hid (hS'.newN 59 3); clear hb hgr hG hS'))
    go_loopw [8, 9] (fun v i wr => ∃ k : Nat, k ≤ M ∧ i = .int .i64 k ∧ St w.heap.size w [Asn.ownN w.heap.size 59 3 v (k * s) (ecs (edL (fun q i => pf m l q n i) s k 0)), Asn.mat w.heap.size (.slice (some ⟨gT, 0, none⟩) (2 * s) cT) rows T, Asn.mb 27 w.heap.size m] wr) (fun _ i _ => M - (intOf i).toNat)
    case atStart => exact ⟨0, Nat.zero_le _, rfl, by rw [Nat.zero_mul]; exact hS.out⟩
    case round =>
      obtain ⟨k, hk', rfl, rS⟩ := hrel
      clear hS
      have cL := rS.m2.cL
      rw [gL.out] at cL
      replace rS := hid rS
      by_cases hkM : k < M
      · have dk : decide ((k : Int) < (M : Int)) = true := decide_eq_true (by omega)
        go_wp2_with (first
          | (go_at_call 120; (with_reducible refine (hpo.out _).mono ?_); rintro e w3 ⟨rfl, rfl⟩))
        clear cL
        go_loopw [8, 10] (fun v i wr => ∃ q : Nat, q ≤ s ∧ i = .int .i64 q ∧ St w.heap.size w [Asn.ownN w.heap.size 59 3 v (k * s + q) (ecs (edL (fun q i => pf m l q n i) s k q)), Asn.mat w.heap.size (.slice (some ⟨gT, 0, none⟩) (2 * s) cT) rows T, Asn.mb 27 w.heap.size m] wr) (fun _ i _ => s - (intOf i).toNat)
        case atStart => exact ⟨0, Nat.zero_le _, rfl, rS.out⟩
        case round =>
          obtain ⟨q, hq, rfl, yS⟩ := hrel
          clear rS
          have cS := yS.m2.cS
          rw [gS.out] at cS
          by_cases hqs : q < s
          · have dq : decide ((q : Int) < (s : Int)) = true := decide_eq_true (by omega)
            obtain ⟨r, cr, hr⟩ := Asn.row yS.g1 q _ (hrow.out q hqs)
            obtain ⟨gr, cc, rfl, _, _⟩ := hr.blk (fun e => by have h1 := congrArg List.length e; rw [ints_length, hpl.out] at h1; simp at h1; omega)
            rw [ints_length, hpl.out] at cr hr
            have cR := hr.cellAt k (.int .i64 ((pf m l q n k : Nat) : Int)) (by simp [ints, hget.out q k hkM])
            have hsn := hid (edL_snoc (fun q i => pf m l q n i) s k q)
            have hks := hid (show k * s + q ≤ 1000000 from by have h2 : k * s ≤ 243 * 16 := Nat.mul_le_mul (by omega) s16; omega)
            replace yS := hid yS
            clear hr
            generalize pf m l q n k = pk at *
            go_wp2_with (first
              | ((with_reducible refine gate (N := 47) rfl ?_); refine St.appNw 55 59 _ 3 24 Tryz.underlying55 info_edge rfl (by omega) (by omega) rfl _ _ rfl _ _ _ rfl yS.out (c3 k q pk) rfl (c3_one _ _ _) rfl (by have := hks.out; omega) ?_; intro gn cap w4 yS'; replace yS := hid yS'; clear yS'))
            go_roundw
            case rel => exact ⟨q + 1, by omega, by go_num, by rw [hsn.out, ecs_snoc]; exact yS.out⟩
            case measure => simp [intOf]; omega
          · obtain rfl : s = q := by omega
            have hrw := hid (edL_row (fun q i => pf m l q n i) s k)
            replace yS := hid yS
            go_wp2
            go_roundw
            case rel => exact ⟨k + 1, by omega, by go_num, by rw [← hrw.out, Nat.succ_mul]; exact yS.out⟩
            case measure => simp [intOf]; omega
      · obtain rfl : M = k := by omega
        go_wp2_with (first
          | (go_at_call 120; (with_reducible refine (hpo.out _).mono ?_); rintro e w3 ⟨rfl, rfl⟩))
        go_ret2
        exact ⟨_, rfl, by rw [edL_length]; exact rS.out.n0, rS.out.bel⟩
  · rw [edgesAns_c h0]
    have hc : levelI m n = 1 ∨ levelI m n = 2 := by rcases levelI_cases m n with h | h; exact absurd h h0; exact h
    generalize levelI m n = c at *
    clear h0
    rcases hc with rfl | rfl
    all_goals
      go_enter Tryz.func29, Tryz.ntmps29
      go_wp2_with (first
        | ((with_reducible refine gate (N := 11) rfl ?_); refine load_mach rfl _ rfl w.heap.size rfl m hS.out.m0 ?_)
        | (go_at_call 119; (with_reducible refine (hcode.out _).mono ?_); rintro e w1 ⟨rfl, hb⟩; replace hS := hid (hS.out.call hb); clear hb hcode))
      go_ret2
      exact ⟨_, rfl, OwnN.nil _ _ _ _, hS.out.bel⟩

set_option maxHeartbeats 4000000 in
set_option maxRecDepth 100000 in
theorem implEdges_any (w : World) (m : Mach) (hk : m.Ok) (n : Int) : Calls Tryz.prog 28 #[.agg (mcells m), .int .i64 n] w (AnsE w (edgesAns m n)) := by
  have hS := hid ((St.start w).newMB m 27)
  have hcode := hid (fun W => levelCode_any W m hk n)
  by_cases h0 : levelI m n = 0
  · obtain ⟨l, s, n, g, rfl, hn5, hnl, hpw⟩ := levelI_good h0
    rw [h0] at hcode
    rw [edgesAns_0 g h0]
    have l2 := g.l2
    have s16 := g.s16
    have s1 := g.s1
    have hgr := hid (fun W hW => graph_any w.heap.size W m hW l s g n (by omega) (by omega))
    have hpl := hid (fun q => permZ_length m l q n)
    have hget := hid (fun q i (hi : i < pw l n) => permZ_get m l q n i hi)
    have hpos := pw_pos l (by omega) n
    generalize hI : inv m l s = I at *
    clear h0
    replace hI := hid hI
    replace hk := hid hk; replace g := hid g
    generalize hMn : pw l n = M at *
    replace hMn := hid hMn
    go_enter Tryz.func28, Tryz.ntmps28
    go_wp2_with (first
      | ((with_reducible refine gate (N := 12) rfl ?_); refine load_mach rfl _ rfl w.heap.size rfl m hS.out.m0 ?_)
      | (go_at_call 108; (with_reducible refine (hcode.out _).mono ?_); rintro e w1 ⟨rfl, hb⟩; replace hS := hid (hS.out.call hb); clear hb hcode)
      | (go_at_call 109; (with_reducible refine (hgr.out _ hS.out.m0).mono ?_); rintro e w2 ⟨vA, vB, rfl, hG, hb⟩; replace hS := hid (hS.out.call hb); obtain ⟨gA, cA, rfl, _, _⟩ := hG.2.1.blk (fun e => by have h1 := congrArg List.length e; rw [tabA_length] at h1; simp at h1; omega); rw [tabA_length] at hG; replace hG := hid hG; have hgc0 := hG.out.c0; clear hb hgr))
    generalize w1.heap.size = G at *
    go_loopw [8, 24] (fun v i wr => ∃ k : Nat, k ≤ M ∧ i = .int .i64 k ∧ St w2.heap.size w2 [Asn.ownN w2.heap.size 59 3 v (k * s) (ecs (edL (fun q i => pf m l q n i) s k 0))] wr) (fun _ i _ => M - (intOf i).toNat)
    case atStart => exact ⟨0, Nat.zero_le _, rfl, by rw [Nat.zero_mul]; exact (St.start _).nilN _ _⟩
    case round =>
      obtain ⟨k, hk', rfl, rS⟩ := hrel
      clear hgc0
      have hgc1 := (hG.out.below rS.bel).c1
      replace rS := hid rS
      by_cases hkM : k < M
      · go_wp2
        clear hgc1
        go_loopw [8, 32] (fun v i wr => ∃ q : Nat, q ≤ s ∧ i = .int .i64 q ∧ St w2.heap.size w2 [Asn.ownN w2.heap.size 59 3 v (k * s + q) (ecs (edL (fun q i => pf m l q n i) s k q))] wr) (fun _ i _ => s - (intOf i).toNat)
        case atStart => exact ⟨0, Nat.zero_le _, rfl, rS.out⟩
        case round =>
          obtain ⟨q, hq, rfl, yS⟩ := hrel
          clear rS
          by_cases hqs : q < s
          · obtain ⟨r, cr, hr⟩ := (hG.out.below yS.bel).2.1.row q _ (tabA_get m l n s q hqs)
            obtain ⟨gr, cc, rfl, _, _⟩ := hr.blk (fun e => by have h1 := congrArg List.length e; rw [ints_length, hpl.out] at h1; simp at h1; omega)
            rw [ints_length, hpl.out] at cr hr
            have cR := hr.cellAt k (.int .i64 ((pf m l q n k : Nat) : Int)) (by simp [ints, hget.out q k hkM])
            have hsn := hid (edL_snoc (fun q i => pf m l q n i) s k q)
            have hks := hid (show k * s + q ≤ 1000000 from by have h2 : k * s ≤ 243 * 16 := Nat.mul_le_mul (by omega) s16; omega)
            replace yS := hid yS
            clear hr
            generalize pf m l q n k = pk at *
            go_wp2_with (first
              | ((with_reducible refine gate (N := 46) rfl ?_); refine St.appNw 55 59 _ 3 24 Tryz.underlying55 info_edge rfl (by omega) (by omega) rfl _ _ rfl _ _ _ rfl yS.out (c3 k q pk) rfl (c3_one _ _ _) rfl (by have := hks.out; omega) ?_; intro gn cap w4 yS'; replace yS := hid yS'; clear yS'))
            go_roundw
            case rel => exact ⟨q + 1, by omega, by go_num, by rw [hsn.out, ecs_snoc]; exact yS.out⟩
            case measure => simp [intOf]; omega
          · obtain rfl : s = q := by omega
            have hrw := hid (edL_row (fun q i => pf m l q n i) s k)
            replace yS := hid yS
            go_wp2
            go_roundw
            case rel => exact ⟨k + 1, by omega, by go_num, by rw [← hrw.out, Nat.succ_mul]; exact yS.out⟩
            case measure => simp [intOf]; omega
      · obtain rfl : M = k := by omega
        go_wp2
        go_ret2
        exact ⟨_, rfl, by rw [edL_length]; exact rS.out.n0.mono (hS.out.le), (hS.out.call rS.out.bel).bel⟩
  · rw [edgesAns_c h0]
    have hc : levelI m n = 1 ∨ levelI m n = 2 := by rcases levelI_cases m n with h | h; exact absurd h h0; exact h
    generalize levelI m n = c at *
    clear h0
    rcases hc with rfl | rfl
    all_goals
      go_enter Tryz.func28, Tryz.ntmps28
      go_wp2_with (first
        | ((with_reducible refine gate (N := 12) rfl ?_); refine load_mach rfl _ rfl w.heap.size rfl m hS.out.m0 ?_)
        | (go_at_call 108; (with_reducible refine (hcode.out _).mono ?_); rintro e w1 ⟨rfl, hb⟩; replace hS := hid (hS.out.call hb); clear hb hcode))
      go_ret2
      exact ⟨_, rfl, OwnN.nil _ _ _ _, hS.out.bel⟩
end Go.Proofs.YthmcdfjijkecfaaGreat

/- Edges, compared by ==. -/
namespace Go.Proofs.YthmcdfjijkecfaaGreat
open Go.RowKit
set_option linter.unusedVariables false
set_option linter.unusedSimpArgs false

theorem guard_edge : Tryz.prog.eqGuardType Tryz.prog.depth 59 = false := by kernel_rfl
theorem key_edge : Tryz.prog.keyTypeAt 2 59 = true := by kernel_rfl
theorem sz_edgeE : (Tryz.prog.info? 59).map (·.size) = some 3 := by kernel_rfl
theorem cells_edge : Tryz.prog.cellsOf 59 = 3 := by kernel_rfl
theorem cells_i64e : Tryz.prog.cellsOf 2 = 1 := by kernel_rfl
theorem wf_i64e (a : Nat) (h : a < 1000000) : (Lit.int .i64 (a : Int)).wf = true := by
  have h0 : IntKind.i64.min = -9223372036854775808 := by decide
  have h1 : IntKind.i64.max = 9223372036854775807 := by decide
  simp [Lit.wf, IntKind.has, h0, h1]; omega
theorem lits_i64e (d : Nat) (a : Nat) (h : a < 1000000) : Tryz.prog.keyLits (d + 1) 2 [.int .i64 (a : Int)] = some [.int .i64 (a : Int)] := by
  unfold Program.keyLits
  rw [Tryz.underlying2]
  simp [wf_i64e a h]
theorem lits_edge (a b c : Nat) (ha : a < 1000000) (hb : b < 1000000) (hc : c < 1000000) : Tryz.prog.keyLits (0 + 2) 59 (c3 a b c) = some [.int .i64 (a : Int), .int .i64 (b : Int), .int .i64 (c : Int)] := by
  unfold Program.keyLits
  rw [Tryz.underlying59]
  simp only [show (c3 a b c).length = 3 from rfl, cells_edge, if_true, true_and]
  rw [if_pos (by decide +kernel)]
  simp only [List.mapM_cons, List.mapM_nil, cells_i64e]
  have e0 : ((c3 a b c).drop 0).take 1 = [Value.int .i64 (a : Int)] := rfl
  have e1 : ((c3 a b c).drop 1).take 1 = [Value.int .i64 (b : Int)] := rfl
  have e2 : ((c3 a b c).drop 2).take 1 = [Value.int .i64 (c : Int)] := rfl
  rw [e0, e1, e2, lits_i64e _ a ha, lits_i64e _ b hb, lits_i64e _ c hc]
  simp
theorem eq_edge (w : World) (a b c : Nat) (ha : a < 1000000) (hb : b < 1000000) (hc : c < 1000000) :
    (Op.equalIn 10000 59 (.agg (c3 a b c).toArray) (.agg (c3 a b c).toArray)).run Tryz.prog w = .ok true w := by
  have hf : (Value.agg (c3 a b c).toArray).formed Tryz.prog 59 = true := by
    simp [Value.formed, Tryz.underlying59, cells_edge, c3]
  have hl := lits_edge a b c ha hb hc
  obtain ⟨q, hq, hi⟩ := run_equalIn_deep (P := Tryz.prog) 9998 2 59 key_edge w 2 2 _ _ _ _ hf hf hl hl
  have e : q = true := by rw [hi]
  rw [← e]
  exact hq
theorem edgesAns_lt (m : Mach) (n : Int) : ∀ e ∈ (edgesAns m n).1, e.1 < 1000000 ∧ e.2.1 < 1000000 ∧ e.2.2 < 1000000 := by
  intro e he
  by_cases h : levelI m n = 0
  · obtain ⟨l, s, n', g, rfl, _, _, hpw⟩ := levelI_good h
    rw [edgesAns_0 g h] at he
    have hs := g.s16
    unfold edL at he
    simp only [List.range_zero, List.map_nil, List.append_nil, List.mem_flatMap, List.mem_map, List.mem_range] at he
    obtain ⟨i, hi, q, hq, rfl⟩ := he
    have h3 := pf_lt g q n' i hq
    exact ⟨by show i < 1000000; omega, by show q < 1000000; omega, by show pf m l q n' i < 1000000; omega⟩
  · rw [edgesAns_c h] at he; cases he
end Go.Proofs.YthmcdfjijkecfaaGreat

/- FnLevels: the walk. -/
namespace Go.Proofs.YthmcdfjijkecfaaGreat
open Go.RowKit
set_option linter.unusedVariables false
set_option linter.unusedSimpArgs false
-- @LONG

set_option maxHeartbeats 20000000 in
set_option maxRecDepth 100000 in
theorem levels_law (w : World) (v : Value) (l : List Nat) (hv : ArgB w v l) :
    Calls Tryz.prog 4 #[v] w fun e w' => e = .returned (.bool true) ∧ Below w.heap.size w w' := by
  have hbg := hid (big_any w v l hv)
  by_cases hl : l.length ≤ 4096
  · have dl : decide (4096 < l.length) = false := decide_eq_false (by omega)
    rw [dl] at hbg
    have hdr := hid (fun W (hW : Below w.heap.size w W) => drDis_any W v l (hv.below hW) hl)
    have hdr2 := hid (fun W (hW : Below w.heap.size w W) => drEdg_any W v l (hv.below hW) hl)
    have hdr3 := hid (fun W (hW : Below w.heap.size w W) => drDia_any W v l (hv.below hW) hl)
    have hdr4 := hid (fun W (hW : Below w.heap.size w W) => drLvo_any W v l (hv.below hW) hl)
    have hro := hid (fun W (hW : Below w.heap.size w W) => roll_any W v l (hv.below hW) hl 1703)
    have hbe := hid (fun (w1 : World) (hW : Below w.heap.size w w1) W L hS => below_any w1 L W w1.heap.size v l (hv.below hW) hl (Nat.le_refl _) hS)
    have hli := hid likeInts_any
    have hs0 := hid (St.start w)
    have hz := zeroM_run
    have hz2 := hid (fun L W (h : St w.heap.size w L W) => h.newMB zeroM 27)
    have hdi := hid implDis_any
    have hds := hid specDis_any
    replace hv := hid hv
    obtain ⟨A, c, rfl, _⟩ := hv.out
    go_enter Tryz.func4, Tryz.ntmps4
    go_upto_region 6 with (first
      | (go_at_call 8; (with_reducible refine (hbg.out).mono ?_); rintro e w1 ⟨rfl, rfl⟩)
      | (go_at_call 19; (with_reducible refine (hdr.out _ (Below.refl _ _)).mono ?_); rintro e w1 ⟨m, n, k, rfl, hF, hb⟩; have hle := hid hb.size; replace hS := hid (hz2.out _ _ (hs0.out.call hb)); clear hb)
      | ((with_reducible refine gateOp (op := .store 27 (.tmp 3) (.tmp 50)) rfl ?_); refine store_mach rfl _ _ rfl w1.heap.size rfl m rfl 27 _ hS.out.m0 ?_; intro w2 p3 ho hsz hbl; replace hS := hid (hS.out.setM hle.out p3 ho hbl); clear p3 ho hsz hbl)
      | ((with_reducible refine gate (N := 54) rfl ?_); refine load_mach rfl _ rfl w1.heap.size rfl m hS.out.m0 ?_)
      | (go_at_call 20; (with_reducible refine (hdi.out _ m hF.out.1.ok n k).mono ?_); rintro e w3 ⟨v1, rfl, hO, hb⟩; replace hS := hid (hS.out.callOwn hb hO); clear hb hO)
      | ((with_reducible refine gate (N := 61) rfl ?_); refine load_mach rfl _ rfl w1.heap.size rfl m hS.out.m1 ?_)
      | (go_at_call 21; (with_reducible refine (hds.out _ m hF.out.1.ok n k).mono ?_); rintro e w4 ⟨v2, rfl, hO, hb⟩; replace hS := hid (hS.out.callOwn hb hO); clear hb hO))
    have hlw := hid (fun h => lev_law (m := m) (n := n) (k := k) h)
    generalize hdc : (disAns m n k).2 = cd at *
    generalize hdD : (disAns m n k).1 = DK at *
    replace hdc := hid hdc; replace hdD := hid hdD
    have hDl := hid (show DK.length ≤ 1000000 from by rw [← hdD.out]; exact Nat.le_trans (disAns_len m n k) (by omega))
    have hcc : (cd != cd) = false := by simp
    generalize w1.heap.size = b3 at *
    go_upto_if 77 with (first
      | (go_at_call 18; (with_reducible refine (hli.out _ _ _ _ _ DK hS.out.o1 hS.out.o0 hDl.out).mono ?_); rintro e w5 ⟨rfl, hb⟩; replace hS := hid (hS.out.call hb); clear hb))
    go_cut [4, 5, 6, 7, 8, 9] from 45 (fun _ _ _ _ _ _ wr => Below w.heap.size w wr)
    case first =>
      as_aux_lemma =>
        by_cases h0 : cd = 0
        · subst h0
          obtain ⟨N, K, D, hN0, hN, rfl, hKN, hD, hlv, hpt, hdia, hKK, hsym, hmx⟩ := hlw.out rfl
          have hDK := hid (show DK = D K from by rw [← hdD.out, (hD K hKN).1])
          rw [hDK.out] at hS
          have hlvo := hid (fun W => implLvo_any W m hF.out.1.ok n)
          have htra := hid (fun W => implTra_any W m hF.out.1.ok n)
          have hdi2 := hid (fun W => implDia_any W m hF.out.1.ok n)
          have hdix := hid (fun W x (hx : x < N) => (by have h := hdi.out W m hF.out.1.ok n (x : Int); rw [(hD x hx).1] at h; exact h : Calls Tryz.prog 20 #[.agg (mcells m), .int .i64 n, .int .i64 (x : Int)] W fun e w' => ∃ v, e = .returned (.tuple #[v, .int .i64 0]) ∧ Own w' W.heap.size 2 v (ints (D x)) ∧ Below W.heap.size W w'))
          rw [hlv] at hlvo htra
          have hDl2 := hid (fun x (hx : x < N) => (hD x hx).2)
          have hMl := (lvoAns_len m n).1
          have hMr := hid (lvoAns_len m n).2
          generalize (lvoAns m n).1 = M at *
          generalize (diaAns m n).2 = dc at *
          generalize (diaAns m n).1 = dm at *
          obtain ⟨B, hB⟩ : ∃ B, B = (((M.length : Nat) : Int) == 1) := ⟨_, rfl⟩
          have hdB := (show (dc == 0) = B from by
            rw [hB, Bool.eq_iff_iff, beq_iff_eq, beq_iff_eq, hdia]; omega)
          have hMB := hid (show B = true → M.length = 1 from fun h => by rw [hB] at h; have := beq_iff_eq.1 h; omega)
          rw [← hB] at htra
          replace hB := hid hB
          replace hlv := hid hlv; replace hpt := hid hpt; replace hdia := hid hdia; replace hKK := hid hKK; replace hsym := hid hsym; replace hmx := hid hmx; replace hD := hid hD
          obtain ⟨g1, c1, rfl, _, _⟩ := hS.out.o1.blk (fun e => by have h1 := congrArg List.length e; rw [ints_length, hDl2.out K hKN] at h1; simp at h1; omega)
          rw [ints_length, hDl2.out K hKN] at hS ⊢
          go_upto_region 15 with (first
            | ((with_reducible refine gate (N := 79) rfl ?_); refine load_mach rfl _ rfl b3 rfl m hS.out.m2 ?_)
            | (go_at_call 22; (with_reducible refine (hlvo.out _).mono ?_); rintro e w6 ⟨vM, rfl, hM, hb⟩; obtain ⟨rows, hS'⟩ := hS.out.callMat hb hM.mat; obtain ⟨AM, cM, rfl⟩ := hM.mat.form; replace hS := hid hS'; clear hS' hb hM)
            | ((with_reducible refine gate (N := 85) rfl ?_); refine load_mach rfl _ rfl b3 rfl m hS.out.m3 ?_)
            | (go_at_call 23; (with_reducible refine (htra.out _).mono ?_); rintro e w7 ⟨rfl, hb⟩; replace hS := hid (hS.out.call hb); clear hb)
            | ((with_reducible refine gate (N := 91) rfl ?_); refine load_mach rfl _ rfl b3 rfl m hS.out.m3 ?_)
            | (go_at_call 24; (with_reducible refine (hdi2.out _).mono ?_); rintro e w8 ⟨rfl, hb⟩; replace hS := hid (hS.out.call hb); clear hb)
            | (go_at_call 25; (with_reducible refine (hro.out _ hS.out.bel).mono ?_); rintro e w9 ⟨rfl, hd⟩; have hbx := hid (hbe.out _ hS.out.bel); have hdx := hid hd)
            | (go_at_call 26; (with_reducible refine (hbx.out _ _ _ (by omega) hdx.out).mono ?_); rintro e w10 ⟨x, rfl, hx0, hx1, hd2⟩; replace hS := hid (hS.out.outer hd2); obtain ⟨x, rfl⟩ := Int.eq_ofNat_of_zero_le hx0; (have hxN : x < N := by omega); clear hdx hbx hd hd2)
            | ((with_reducible refine gate (N := 103) rfl ?_); refine load_mach rfl _ rfl b3 rfl m hS.out.m3 ?_)
            | (go_at_call 20; (with_reducible refine (hdix.out _ x hxN).mono ?_); rintro e w11 ⟨vo, rfl, hO, hb⟩; (obtain ⟨g2, c2, rfl, _, _⟩ := hO.blk (fun e => by have h1 := congrArg List.length e; rw [ints_length, hDl2.out x hxN] at h1; simp at h1; omega)); rw [ints_length, hDl2.out x hxN] at hO ⊢; replace hS := hid (hS.out.callOwn hb hO); clear hb hO))
          have hge := hid (fun (l : List Int) (hl : l.length = N) i (hi : i < N) => (show (ints l)[i]? = some (.int .i64 (l.getD i 0)) from by
            simp only [ints, List.getElem?_map, List.getD_eq_getElem?_getD, List.getElem?_eq_getElem (show i < l.length by omega)]; rfl))
          have q1 := hS.out.o0.cellAt K _ (hge.out _ (hDl2.out x hxN) K hKN)
          have q2 := hS.out.o3.cellAt x _ (hge.out _ (hDl2.out K hKN) x hxN)
          have q3 := hS.out.o3.cellAt K _ (hge.out _ (hDl2.out K hKN) K hKN)
          rw [hKK.out] at q3
          rw [← hsym.out x hxN] at q2
          generalize (D x).getD K 0 = y at *
          have k0 : (0 : Int) ≤ (K : Int) := Int.natCast_nonneg _
          have k1 : (K : Int) < (N : Int) := by omega
          have x0 : (0 : Int) ≤ (x : Int) := Int.natCast_nonneg _
          have x1 : (x : Int) < (N : Int) := by omega
          have hBf := hB.out.symm
          have hyy : (y != y) = false := by simp
          have hBB : (B != B) = false := by simp
          go_quiet (fail)
          replace hS := hid (hS.out.drewN nq)
          generalize World.drewN w11 nq = w12 at *
          clear q1 q2 q3 x0 x1 hyy
          have hmk := fun W : World => run_make_row' (P := Tryz.prog) 53 4 (.bool false) 1 Tryz.underlying53 info_bool rfl .i64 .i64 N (by omega) (by omega) W
          have hmc := hid (toList_madeCells_one (.bool false) N)
          generalize madeCells #[.bool false] N = mc at *
          have hmcs := hid (show mc.size = N by rw [← Array.length_toList, hmc.out, List.length_replicate])
          go_upto_region 18 with (fail)
          replace hS := hid (hS.out.newArr mc N hmcs.out 4 (by omega))
          rw [hmc.out] at hS
          clear hmk hmc hmcs
          obtain ⟨gM, rfl⟩ : ∃ gM, AM = some ⟨gM, 0, none⟩ := by
            have h := hS.out.g2
            obtain ⟨g, c, e, _, _⟩ := h.1.blk (fun e => by
              have h2 := h.2.1
              rw [e] at h2
              have h3 := hpt.out.len
              have hM0 : M = [] := List.eq_nil_of_length_eq_zero (by simpa using h2.symm)
              rw [hM0] at h3
              simp at h3; omega)
            injection e with e1
            exact ⟨g, e1⟩
          have hmt0 := hid (show List.replicate N (Value.bool false) = bls (mkAll (List.replicate N false) ((fl M).take (M.take 0).flatten.length)) by simp [bls, mkAll])
          rw [hmt0.out] at hS
          have hrw := hid (fun W k (l : List Int) (hl : M[k]? = some l) r (hr : rows[k]? = some r) (h : (Asn.mat w.heap.size (.slice (some ⟨gM, 0, none⟩) M.length cM) rows M).holds W) => (show W.cell? ⟨gM, k, none⟩ = some r ∧ Own W w.heap.size 2 r (ints l) from ⟨h.1.cellAt k r hr, h.2.2 k r l hr hl⟩))
          have hfx := hid (fun k (l : List Int) j z (hl : M[k]? = some l) (hz : l[j]? = some z) => hpt.out.get (flat_get M k j l z hl hz))
          have hfn := hid (flat_next M)
          have hft := hid (show (M.take M.length).flatten.length = N by rw [List.take_length]; exact hpt.out.len)
          have hfb := hid (fun s (hs : s ≤ N) => (show (bls (mkAll (List.replicate N false) ((fl M).take s))).length = N by rw [bls_length, mkAll_len, List.length_replicate]))
          generalize w12.heap.size = gB at *
          generalize World.alloc w12 _ = w13 at *
          go_wp2
          go_loopw [21, 22] (fun ct i wr => ∃ k : Nat, k ≤ M.length ∧ i = .int .i64 k ∧ ct = .int .i64 (((M.take k).flatten.length : Nat) : Int) ∧ St w.heap.size w [Asn.own w.heap.size 4 (.slice (some ⟨gB, 0, none⟩) N N) (bls (mkAll (List.replicate N false) ((fl M).take (M.take k).flatten.length))), Asn.own w.heap.size 2 (.slice (some ⟨g2, 0, none⟩) N c2) (ints (D x)), Asn.mat w.heap.size (.slice (some ⟨gM, 0, none⟩) M.length cM) rows M, Asn.own w.heap.size 2 v2 (ints (D K)), Asn.own w.heap.size 2 (.slice (some ⟨g1, 0, none⟩) N c1) (ints (D K)), Asn.mb 27 b3 m] wr) (fun _ i _ => M.length - (intOf i).toNat)
          case atStart => exact ⟨0, Nat.zero_le _, rfl, by simp, hS.out⟩
          case round =>
            obtain ⟨k, hk, rfl, rfl, rS⟩ := hrel
            clear hS
            replace rS := hid rS
            by_cases hlt : k < M.length
            · have dk : decide ((k : Int) < (M.length : Int)) = true := decide_eq_true (by omega)
              obtain ⟨l1, hl1⟩ : ∃ l1, M[k]? = some l1 := ⟨_, List.getElem?_eq_getElem hlt⟩
              obtain ⟨r, hrk⟩ : ∃ r, rows[k]? = some r := by
                have h := rS.out.g2
                exact ⟨_, List.getElem?_eq_getElem (by rw [h.2.1]; exact hlt)⟩
              have hnx := hid (hfn.out k l1 hl1)
              have hlr := hMr.out l1 (List.mem_of_getElem? hl1)
              have hpk := hid (fun s (hs : s ≤ l1.length) => (show (M.take k).flatten.length + s ≤ N by
                have h1 := hpt.out.len
                have h2 : (M.take (k + 1)).flatten.length ≤ M.flatten.length := by
                  have := List.take_append_drop (k + 1) M
                  conv => rhs; rw [← this, List.flatten_append, List.length_append]
                  omega
                have h3 := hnx.out
                omega))
              have hfz := hid (fun j z (hz : l1[j]? = some z) => hfx.out k l1 j z hl1 hz)
              have hrw2 := hid (fun W h => hrw.out W k l1 hl1 r hrk h)
              obtain ⟨Ar, capr, hre, _, hAr⟩ := (hrw2.out _ rS.out.g2).2.form
              rw [ints_length] at hre
              have hAr2 := hid (fun (h : 0 < l1.length) => (show ∃ gr, Ar = some ⟨gr, 0, none⟩ from by
                rcases hAr with ⟨_, h1, _⟩ | ⟨gr, h1, _⟩
                · have := congrArg List.length h1; rw [ints_length, List.length_nil] at this; omega
                · exact ⟨gr, h1⟩))
              subst hre
              clear hAr
              replace hl1 := hid hl1; replace hrk := hid hrk
              have k0' : (0 : Int) ≤ (k : Int) := Int.natCast_nonneg _
              have k1' : (k : Int) < (M.length : Int) := by omega
              generalize (M.take k).flatten.length = pk at *
              go_wp2
              go_loopw [21, 23] (fun ct i wr => ∃ j : Nat, j ≤ l1.length ∧ i = .int .i64 j ∧ ct = .int .i64 ((pk + j : Nat) : Int) ∧ St w.heap.size w [Asn.own w.heap.size 4 (.slice (some ⟨gB, 0, none⟩) N N) (bls (mkAll (List.replicate N false) ((fl M).take (pk + j)))), Asn.own w.heap.size 2 (.slice (some ⟨g2, 0, none⟩) N c2) (ints (D x)), Asn.mat w.heap.size (.slice (some ⟨gM, 0, none⟩) M.length cM) rows M, Asn.own w.heap.size 2 v2 (ints (D K)), Asn.own w.heap.size 2 (.slice (some ⟨g1, 0, none⟩) N c1) (ints (D K)), Asn.mb 27 b3 m] wr) (fun _ i _ => l1.length - (intOf i).toNat)
              case atStart => exact ⟨0, Nat.zero_le _, rfl, rfl, rS.out⟩
              case round =>
                obtain ⟨j, hj, rfl, rfl, zS⟩ := hrel
                have cr := (hrw2.out _ zS.g2).1
                replace zS := hid zS
                by_cases hlj : j < l1.length
                · have dj : decide ((j : Int) < (l1.length : Int)) = true := decide_eq_true (by omega)
                  obtain ⟨gr, rfl⟩ := hAr2.out (by omega)
                  obtain ⟨z, hz⟩ : ∃ z, l1[j]? = some z := ⟨_, List.getElem?_eq_getElem hlj⟩
                  obtain ⟨x', rfl, hxn, hmt1, hmt2⟩ := hfz.out j z hz
                  have cz := (hrw2.out _ zS.out.g2).2.cellAt j (.int .i64 (x' : Int)) (by simp [ints, hz])
                  have cb := zS.out.o0.cellAt x' _ (bls_get hmt1)
                  have hbl := hid (hfb.out (pk + j) (hpk.out j hj))
                  have fb := Own.frozenAt zS.out.o0 hbl.out x'
                  have hset := hid (bls_set (mkAll (List.replicate N false) ((fl M).take (pk + j))) x' true)
                  have x0 : (0 : Int) ≤ (x' : Int) := Int.natCast_nonneg _
                  have x1 : (x' : Int) < (N : Int) := by omega
                  have j0 : (0 : Int) ≤ (j : Int) := Int.natCast_nonneg _
                  have j1 : (j : Int) < (l1.length : Int) := by omega
                  have dx0 : decide ((x' : Int) < 0) = false := decide_eq_false (by omega)
                  have dx1 : decide ((x' : Int) ≥ (N : Int)) = false := decide_eq_false (by omega)
                  have hbd := hid (hpk.out j hj)
                  have hbd2 : pk + j ≤ 243 := by have := hbd.out; omega
                  replace hz := hid hz; replace hmt1 := hid hmt1; replace hmt2 := hid hmt2
                  go_wp2
                  replace zS := hid (zS.out.setOwn hbl.out x' (.bool true) hxn)
                  rw [hset.out, ← hmt2.out] at zS
                  go_roundw
                  case rel => exact ⟨j + 1, by omega, by go_num, i64_eq (by omega), zS.out⟩
                  case measure => simp [intOf]; omega
                · obtain rfl : j = l1.length := by omega
                  go_wp2
                  go_roundw
                  case rel => exact ⟨k + 1, by omega, by go_num, by rw [hnx.out], by rw [hnx.out]; exact zS.out⟩
                  case measure => simp [intOf]; omega
            · obtain rfl : k = M.length := by omega
              have dk : decide ((M.length : Int) < (M.length : Int)) = false := decide_eq_false (by omega)
              rw [hft.out] at rS ⊢
              have hmx2 := hid (fun (hb : B = true) i (hi : i < N) => hmx.out (hMB.out hb) i hi)
              have hcN := hid (hge.out _ (hDl2.out K hKN))
              clear hrw hfx hfn hft hfb hmt0 hpt
              go_wp2
              go_loopw [25] (fun i wr => ∃ j : Nat, j ≤ N ∧ i = .int .i64 j ∧ St w.heap.size w [Asn.own w.heap.size 2 (.slice (some ⟨g1, 0, none⟩) N c1) (ints (D K))] wr) (fun i _ => N - (intOf i).toNat)
              case atStart => exact ⟨0, Nat.zero_le _, rfl, rS.out.drop.drop.drop.drop.f1.drop⟩
              case round =>
                obtain ⟨j, hj, rfl, zS⟩ := hrel
                clear rS
                cases B
                · by_cases hlj : j < N
                  · have dj : decide ((j : Int) < (N : Int)) = true := decide_eq_true (by omega)
                    go_wp2
                    go_meet
                    case rel => exact zS.bel
                  · obtain rfl : j = N := by omega
                    have dj : decide ((j : Int) < (j : Int)) = false := decide_eq_false (by omega)
                    go_wp2
                    go_meet
                    case rel => exact zS.bel
                · by_cases hlj : j < N
                  · have dj : decide ((j : Int) < (N : Int)) = true := decide_eq_true (by omega)
                    obtain ⟨y0, y1⟩ := hmx2.out rfl j hlj
                    have cj := zS.o0.cellAt j _ (hcN.out j hlj)
                    generalize (D K).getD j 0 = yj at *
                    have e0 : decide (yj < 0) = false := decide_eq_false (by omega)
                    have e1 : decide (yj > dm) = false := decide_eq_false (by omega)
                    have j0 : (0 : Int) ≤ (j : Int) := Int.natCast_nonneg _
                    have j1 : (j : Int) < (N : Int) := by omega
                    replace zS := hid zS
                    go_wp2
                    go_roundw
                    case rel => exact ⟨j + 1, by omega, by go_num, zS.out⟩
                    case measure => simp [intOf]; omega
                  · obtain rfl : j = N := by omega
                    have dj : decide ((j : Int) < (j : Int)) = false := decide_eq_false (by omega)
                    go_wp2
                    go_meet
                    case rel => exact zS.bel
        · have d0 : ((cd : Int) == 0) = false := by simpa using h0
          clear hlw
          go_wp2
          go_meet
          case rel => exact hS.out.bel
    case rest =>
      as_aux_lemma =>
        have hsE := hid (St.start w)
        have hie := hid implEdges_any
        have hse := hid specEdges_any
        clear hS hlw hdc hdD hDl hcc
        go_upto_region 39 with (first
          | (go_at_call 27; (with_reducible refine (hdr2.out _ hcut).mono ?_); rintro e w1 ⟨m2, n2, rfl, hF2, hb⟩; have hle := hid (hcut.trans (hb.mono hcut.size)).size; replace hS := hid (hz2.out _ _ (hsE.out.call (hcut.trans (hb.mono hcut.size)))); clear hb)
          | ((with_reducible refine gateOp (op := .store 27 (.tmp 26) (.tmp 223)) rfl ?_); refine store_mach rfl _ _ rfl w1.heap.size rfl m2 rfl 27 _ hS.out.m0 ?_; intro w2 p3 ho hsz hbl; replace hS := hid (hS.out.setM hle.out p3 ho hbl); clear p3 ho hsz hbl)
          | ((with_reducible refine gate (N := 226) rfl ?_); refine load_mach rfl _ rfl w1.heap.size rfl m2 hS.out.m0 ?_)
          | (go_at_call 28; (with_reducible refine (hie.out _ m2 hF2.out.1.ok n2).mono ?_); rintro e w3 ⟨v3, rfl, hO, hb⟩; have hO3 := hid hO; replace hS := hid (hS.out.call hb); clear hb hO)
          | ((with_reducible refine gate (N := 232) rfl ?_); refine load_mach rfl _ rfl w1.heap.size rfl m2 hS.out.m0 ?_)
          | (go_at_call 29; (with_reducible refine (hse.out _ m2 hF2.out.1.ok n2).mono ?_); rintro e w4 ⟨v4, rfl, hO, hb⟩; have hO3' := hid (OwnN.keep hO3.out fun k hk => hb.block k (hO3.out.lt k hk).2); have hO4 := hid hO; replace hS := hid (hS.out.call hb); clear hb hO hO3))
        have hlen := hid (edgesAns_len m2 n2)
        have hlt := hid (edgesAns_lt m2 n2)
        have hecs := hid (ecs_get (edgesAns m2 n2).1)
        have hcc2 : ((edgesAns m2 n2).2 != (edgesAns m2 n2).2) = false := by simp
        generalize (edgesAns m2 n2).2 = cd2 at *
        generalize (edgesAns m2 n2).1 = E at *
        obtain ⟨A3, cp3, rfl, hA3⟩ : ∃ A3 cp3, v3 = .slice A3 E.length cp3 ∧ (0 < E.length → ∃ g, A3 = some ⟨g, 0, none⟩) := by
          rcases hO3'.out.form with ⟨h, h0⟩ | ⟨g, c, h⟩
          · exact ⟨none, 0, by rw [h0]; exact h, fun h1 => by omega⟩
          · exact ⟨_, c, h, fun _ => ⟨g, rfl⟩⟩
        obtain ⟨A4, cp4, rfl, hA4⟩ : ∃ A4 cp4, v4 = .slice A4 E.length cp4 ∧ (0 < E.length → ∃ g, A4 = some ⟨g, 0, none⟩) := by
          rcases hO4.out.form with ⟨h, h0⟩ | ⟨g, c, h⟩
          · exact ⟨none, 0, by rw [h0]; exact h, fun h1 => by omega⟩
          · exact ⟨_, c, h, fun _ => ⟨g, rfl⟩⟩
        have hrg := hid (fun W (hW : Below w4.heap.size w4 W) k (hk : k < E.length) => (show ∃ (a b c g3 g4 : Nat), A3 = some ⟨g3, 0, none⟩ ∧ A4 = some ⟨g4, 0, none⟩ ∧ W.rangeAt g3 (k * 3) (c3 a b c) ∧ W.rangeAt g4 (k * 3) (c3 a b c) ∧ a < 1000000 ∧ b < 1000000 ∧ c < 1000000 from by
          obtain ⟨g3, rfl⟩ := hA3 (by omega)
          obtain ⟨g4, rfl⟩ := hA4 (by omega)
          have hx : E[k]? = some E[k] := List.getElem?_eq_getElem hk
          obtain ⟨l1, l2, l3⟩ := hlt.out _ (List.getElem_mem hk)
          exact ⟨E[k].1, E[k].2.1, E[k].2.2, g3, g4, rfl, rfl, (hO3'.out.keep (w' := W) fun j hj => hW.block j (hO3'.out.lt j hj).2).range (k * 3) _ (fun j hj => hecs.out k _ hx j hj), (hO4.out.keep (w' := W) fun j hj => hW.block j (hO4.out.lt j hj).2).range (k * 3) _ (fun j hj => hecs.out k _ hx j hj), l1, l2, l3⟩))
        have hgd := guard_edge
        have heq := hid eq_edge
        have hrf := hid (Below.refl w4.heap.size w4)
        clear hA3 hA4 hlt hecs hO3' hO4 hie hse
        have hlen' := hlen.out
        generalize E.length = n at *
        go_upto_region 41 with (fail)
        go_wp2
        go_loopw [32] (fun i wr => ∃ k : Nat, k ≤ n ∧ i = .int .i64 k ∧ Below w4.heap.size w4 wr) (fun i _ => n - (intOf i).toNat)
        case atStart => exact ⟨0, Nat.zero_le _, rfl, hrf.out⟩
        case round =>
          obtain ⟨k, hk, rfl, rB⟩ := hrel
          replace rB := hid rB
          by_cases hlt : k < n
          · have dk : decide ((k : Int) < (n : Int)) = true := decide_eq_true (by omega)
            obtain ⟨a, b, c, g3, g4, rfl, rfl, rg1, rg2, l1, l2, l3⟩ := hrg.out wr rB.out k hlt
            replace rg1 := hid rg1; replace rg2 := hid rg2
            have k0 : (0 : Int) ≤ (k : Int) := Int.natCast_nonneg _
            have k1 : (k : Int) < (n : Int) := by omega
            have hq := heq.out
            have heq1 := fun W => hq W a b c l1 l2 l3
            clear hq
            go_upto_region 44 with (fail)
            refine wp_region_still_tail 8 (by kernel_rfl) (by kernel_rfl) ?_
            simp only [List.take_succ_cons, List.take_zero, List.drop_succ_cons, List.drop_zero]
            repeat (first
              | ((with_reducible refine still_gate 256 rfl ?_); refine still_row rfl 59 _ rfl g3 (k * 3) rfl _ _ rg1.out Tryz.underlying59 rfl sz_edgeE ?_)
              | ((with_reducible refine still_gate 260 rfl ?_); refine still_row rfl 59 _ rfl g4 (k * 3) rfl _ _ rg2.out Tryz.underlying59 rfl sz_edgeE ?_)
              | still_step)
            try refine wpStill_nil ?_
            change wpList _ _ _ _ _ wr.drew
            have rBd := hid rB.out.drew
            clear rg1 rg2 rB
            generalize wr.drew = wd at *
            go_wp2
            go_roundw
            case rel => exact ⟨k + 1, by omega, by go_num, rBd.out⟩
            case measure => simp [intOf]; omega
          · obtain rfl : k = n := by omega
            have dk : decide ((k : Int) < (k : Int)) = false := decide_eq_false (by omega)
            have hcut2 := hid (hS.out.bel.trans (rB.out.mono hS.out.le))
            clear hrg hS rB hF hF2
            have him := hid implDia_any
            have hsm := hid specDia_any
            have hil := hid implLvo_any
            have hsl := hid specLvo_any
            have hrr := hid rows_any
            have hcy := hid (fun (x : Int) => (show (x == x) = true by simp))
            go_upto_region 52 with (first
              | (go_at_call 30; (with_reducible refine (hdr3.out _ hcut2.out).mono ?_); rintro e w5 ⟨m3, n3, rfl, hF3, hb⟩; have hle3 := hid (hcut2.out.trans (hb.mono hcut2.out.size)).size; have hS := hid (hz2.out _ _ (hsE.out.call (hcut2.out.trans (hb.mono hcut2.out.size)))); clear hb)
              | ((with_reducible refine gateOp (op := .store 27 (.tmp 33) (.tmp 265)) rfl ?_); refine store_mach rfl _ _ rfl w5.heap.size rfl m3 rfl 27 _ hS.out.m0 ?_; intro w6 p3 ho hsz hbl; replace hS := hid (hS.out.setM hle3.out p3 ho hbl); clear p3 ho hsz hbl)
              | ((with_reducible refine gate (N := 268) rfl ?_); refine load_mach rfl _ rfl w5.heap.size rfl m3 hS.out.m0 ?_)
              | (go_at_call 24; (with_reducible refine (him.out _ m3 hF3.out.1.ok n3).mono ?_); rintro e w7 ⟨rfl, hb⟩; replace hS := hid (hS.out.call hb); clear hb)
              | ((with_reducible refine gate (N := 274) rfl ?_); refine load_mach rfl _ rfl w5.heap.size rfl m3 hS.out.m0 ?_)
              | (go_at_call 31; (with_reducible refine (hsm.out _ m3 hF3.out.1.ok n3).mono ?_); rintro e w8 ⟨rfl, hb⟩; replace hS := hid (hS.out.call hb); clear hb)
              | (go_at_call 32; (with_reducible refine (hdr4.out _ hS.out.bel).mono ?_); rintro e w9 ⟨m4, n4, rfl, hF4, hb⟩; have hle4 := hid (hS.out.call hb).le; replace hS := hid (hz2.out _ _ (hS.out.call hb)); clear hb)
              | ((with_reducible refine gateOp (op := .store 27 (.tmp 39) (.tmp 282)) rfl ?_); refine store_mach rfl _ _ rfl w9.heap.size rfl m4 rfl 27 _ hS.out.m0 ?_; intro w10 p3 ho hsz hbl; replace hS := hid (hS.out.setM hle4.out p3 ho hbl); clear p3 ho hsz hbl)
              | ((with_reducible refine gate (N := 285) rfl ?_); refine load_mach rfl _ rfl w9.heap.size rfl m4 hS.out.m0 ?_)
              | (go_at_call 22; (with_reducible refine (hil.out _ m4 hF4.out.1.ok n4).mono ?_); rintro e w11 ⟨v5, rfl, hM, hb⟩; obtain ⟨rows5, hS'⟩ := hS.out.callMat hb hM.mat; replace hS := hid hS'; clear hS' hb hM)
              | ((with_reducible refine gate (N := 291) rfl ?_); refine load_mach rfl _ rfl w9.heap.size rfl m4 hS.out.m1 ?_)
              | (go_at_call 33; (with_reducible refine (hsl.out _ m4 hF4.out.1.ok n4).mono ?_); rintro e w12 ⟨v6, rfl, hM, hb⟩; obtain ⟨rows6, hS'⟩ := hS.out.callMat hb hM; replace hS := hid hS'; clear hS' hb hM))
            have hLl := hid (lvoAns_len m4 n4)
            have q1 := hcy.out (diaAns m3 n3).1
            have q2 := hcy.out (diaAns m3 n3).2
            have q3 := hcy.out (lvoAns m4 n4).2
            generalize (diaAns m3 n3).1 = x1 at *
            generalize (diaAns m3 n3).2 = x2 at *
            generalize (lvoAns m4 n4).1 = M at *
            generalize (lvoAns m4 n4).2 = x3 at *
            go_wp2_with (
              (go_at_call 34; (with_reducible refine (hrr.out _ _ _ _ _ M (Asn.toMat hS.out.g1) (Asn.toMat hS.out.g0) (by have := hLl.out.1; omega) (fun r hr => by have := hLl.out.2 r hr; omega)).mono ?_); rintro e w13 ⟨rfl, hb⟩; replace hS := hid (hS.out.call hb); clear hb))
            go_ret
            exact ⟨rfl, hS.out.bel⟩
  · have dl : decide (4096 < l.length) = true := decide_eq_true (by omega)
    rw [dl] at hbg
    go_enter Tryz.func4, Tryz.ntmps4
    go_wp2_with (
      (go_at_call 8; (with_reducible refine (hbg.out).mono ?_); rintro e w1 ⟨rfl, rfl⟩))
    go_ret
    exact ⟨rfl, Below.refl _ _⟩
end Go.Proofs.YthmcdfjijkecfaaGreat
