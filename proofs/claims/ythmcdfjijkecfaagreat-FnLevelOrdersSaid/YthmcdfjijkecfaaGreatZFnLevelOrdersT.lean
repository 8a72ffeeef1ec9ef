/- What the proof of FnLevelOrders leans on, part 20 of 21. -/
import Derived.Test.YthmcdfjijkecfaaGreatZFnLevelOrdersS
/- Draws of group words: of a machine, with a level. -/
namespace Go.Proofs.YthmcdfjijkecfaaGreat
open Go.RowKit
set_option linter.unusedVariables false
set_option linter.unusedSimpArgs false
-- @LONG

def lenOf : Value → Nat
  | .slice _ n _ => n
  | _ => 0
theorem St.callSrc {base S : Nat} {w0 w : World} {v : Value} {n : Nat} {L : List Asn} {t : Nat} {u : Value} {cs : List Value} (h : St base w0 (Asn.src S v n :: Asn.own base t u cs :: L) w) : St base w0 (Asn.own base t u cs :: Asn.src S v n :: L) w := h.f1
section
variable {w0 w : World} {S : Nat} {v : Value} {l : List Nat} {L : List Asn}
set_option maxHeartbeats 4000000 in
set_option maxRecDepth 100000 in
theorem Dg.gword (D : Dg w0 S v l) (m : Mach) (n : Int) (hn : 0 ≤ n ∧ n ≤ 8) (hS : St w0.heap.size w0 (Asn.src S v l.length :: L) w) :
    Calls Tryz.prog 212 #[.pointer (some ⟨S, 0, none⟩), .agg (mcells m), .int .i64 n] w fun e w' => ∃ (u : Value) (g : List Int), e = .returned u ∧ Hid (g.length ≤ 60) ∧ St w0.heap.size w0 (Asn.src S v l.length :: Asn.own w0.heap.size 2 u (ints g) :: L) w' := by
  have hN := hid (fun W L n (h0 : n ≤ 1000000000) hW => D.next (w := W) (L := L) n h0 hW)
  have hP := hid (fun W L b2 v2 M hM hMl hW => D.pick (w := W) (L := L) (b2 := b2) (v2 := v2) M hM hMl hW)
  have hS0 := hid ((((hS.newMB m 27).newOwn [] 2 (by simp)).f2))
  simp only [heap_alloc_size, List.length_nil] at hS0
  have ew : wrap64 (n + 1) = n + 1 := w64 (by omega) (by omega)
  clear hS D
  go_enter Tryz.func212, Tryz.ntmps212
  go_upto_region 3 with (first
    | (go_at_call 130; (with_reducible refine (hN.out _ _ _ (by omega) hS0.out).mono ?_); rintro e w1 ⟨k0, rfl, hk0, hS'⟩; (have hk9 : k0 ≤ 8 := by omega); replace hS0 := hid hS'; clear hS' hk0))
  go_wp2
  go_loopw [7, 8] (fun o i wr => ∃ (g : List Int) (k : Nat), i = .int .i64 k ∧ g.length + k ≤ 10 ∧ St w0.heap.size w0 (Asn.src S v l.length :: Asn.own w0.heap.size 2 o (ints g) :: Asn.mb 27 w.heap.size m :: L) wr) (fun _ i _ => (intOf i).toNat)
  case atStart => exact ⟨[], k0, rfl, by simp; omega, hS0.out⟩
  case round =>
    obtain ⟨g, k, rfl, hk, rS⟩ := hrel
    clear hS0
    have cS := rS.m2.cS
    replace rS := hid rS
    have hgl := hid (ints_length g)
    by_cases hlt : 0 < k
    · have dk : decide (0 < (k : Int)) = true := decide_eq_true (by omega)
      have mk1 : True := trivial
      go_wp2_with (first
        | (go_at_call 130; clear mk1; (with_reducible refine (hN.out _ _ _ (by (repeat' split) <;> omega) rS.out).mono ?_); rintro e w1 ⟨x, rfl, hx, hS'⟩; (have hx16 : x < 17 := (by revert hx; (repeat' split) <;> omega)); (have e1 : wrap64 (1 + (x : Int)) = 1 + (x : Int) := w64 (by omega) (by omega)); (have e2 : wrap64 (-(1 + (x : Int))) = -(1 + (x : Int)) := w64 (by omega) (by omega)); replace rS := hid hS'; clear hS' hx cS)
        | (go_at_call 130; (with_reducible refine (hN.out _ _ _ (by omega) rS.out).mono ?_); rintro e w2 ⟨y, rfl, _, hS'⟩; replace rS := hid hS'.f1; clear hS')
        | ((with_reducible refine gate (N := 34) rfl ?_); (refine St.app 32 2 (.int .i64 0) 8 Tryz.underlying32 info_i64 rfl (by omega) rfl _ _ rfl _ _ rfl rS.out _ rfl rfl g.length hgl.out (by omega) ?_; intro gn cap w3 hO2; replace rS := hid hO2.f1; clear hO2)))
      all_goals go_roundw
      all_goals first
        | (exact ⟨g ++ [_], k - 1, i64_eq (by omega), by simp; omega, by rw [show ints (g ++ [_]) = ints g ++ [_] from by simp [ints]; rfl]; exact rS.out⟩)
        | (simp only [intOf]; omega)
    · obtain rfl : k = 0 := by omega
      obtain ⟨A, cp, rfl, _, _⟩ := rS.out.o1.form
      rw [hgl.out] at rS ⊢
      clear cS
      go_upto_region 10 with (first
        | (go_at_call 130; (with_reducible refine (hN.out _ _ _ (by omega) rS.out).mono ?_); rintro e w2 ⟨z, rfl, _, hS'⟩; replace rS := hid hS'; clear hS'))
      by_cases z0 : z = 0
      · subst z0
        replace rS := hid rS.out.f1
        go_wp2_with (
          ((with_reducible refine gate (N := 41) rfl ?_); (refine St.app 32 2 (.int .i64 0) 8 Tryz.underlying32 info_i64 rfl (by omega) rfl _ _ rfl _ _ rfl rS.out _ rfl rfl g.length hgl.out (by omega) ?_; intro gn cap w3 hO2; replace rS := hid hO2.f1; clear hO2)))
        go_ret
        first | exact ⟨_, g ++ [0], rfl, hid (by simp; omega), by rw [show ints (g ++ [0]) = ints g ++ [.int .i64 0] from by simp [ints]]; exact rS.out.f2.drop⟩ | exact ⟨_, rfl, g ++ [0], hid (by simp; omega), by rw [show ints (g ++ [0]) = ints g ++ [.int .i64 0] from by simp [ints]]; exact rS.out.f2.drop⟩
      · have d0 : ((z : Int) == 0) = false := by simp; omega
        by_cases z1 : z = 1
        · subst z1
          go_wp2_with (first
            | (go_at_call 158; (have hS2 := rS.out.list [.int .i64 17, .int .i64 (-17), .int .i64 16] (by simp)); (with_reducible refine (hP.out _ _ _ _ [17, -17, 16] (by simp) (by simp) hS2).mono ?_); rintro e w7 ⟨y, rfl, _, hS'⟩; replace rS := hid hS'.f1; clear hS' hS2)
            | ((with_reducible refine gate (N := 49) rfl ?_); (refine St.app 32 2 (.int .i64 0) 8 Tryz.underlying32 info_i64 rfl (by omega) rfl _ _ rfl _ _ rfl rS.out _ rfl rfl g.length hgl.out (by omega) ?_; intro gn cap w3 hO2; replace rS := hid hO2.f1; clear hO2)))
          go_ret
          first | exact ⟨_, g ++ [y], rfl, hid (by simp; omega), by rw [show ints (g ++ [y]) = ints g ++ [.int .i64 y] from by simp [ints]]; exact rS.out.f2.drop⟩ | exact ⟨_, rfl, g ++ [y], hid (by simp; omega), by rw [show ints (g ++ [y]) = ints g ++ [.int .i64 y] from by simp [ints]]; exact rS.out.f2.drop⟩
        · have d1 : ((z : Int) == 1) = false := by simp; omega
          by_cases z2 : z = 2
          · subst z2
            go_wp2
            go_loopw [7] (fun o wr => ∃ (g : List Int), g.length ≤ 41 ∧ St w0.heap.size w0 (Asn.src S v l.length :: Asn.own w0.heap.size 2 o (ints g) :: Asn.mb 27 w.heap.size m :: L) wr ∧ ∃ A c, o = .slice A g.length c) (fun o _ => 50 - lenOf o)
            case atStart => exact ⟨g, by omega, rS.out, A, cp, rfl⟩
            case round =>
              obtain ⟨g, hk, rS, A, cp, rfl⟩ := hrel
              replace rS := hid rS.f1
              have hgl := hid (ints_length g)
              by_cases hlt : g.length ≤ 40
              · have dk : decide ((g.length : Int) ≤ 40) = true := decide_eq_true (by omega)
                go_wp2_with (
                  ((with_reducible refine gate (N := 57) rfl ?_); (refine St.app 32 2 (.int .i64 0) 8 Tryz.underlying32 info_i64 rfl (by omega) rfl _ _ rfl _ _ rfl rS.out _ rfl rfl g.length hgl.out (by omega) ?_; intro gn cap w3 hO2; replace rS := hid hO2.f1; clear hO2)))
                go_roundw
                case rel => exact ⟨_, _, _, _, _, _, _, ⟨g ++ [1], by simp; omega, by rw [show ints (g ++ [1]) = ints g ++ [.int .i64 1] from by simp [ints]]; exact rS.out, some ⟨gn, 0, none⟩, cap, by rw [List.length_append]; rfl⟩, rfl⟩
                case measure => simp [lenOf]; omega
              · have dk : decide ((g.length : Int) ≤ 40) = false := decide_eq_false (by omega)
                go_wp2
                go_ret
                first | exact ⟨_, g, rfl, hid (by omega), rS.out.f1.f2.drop⟩ | exact ⟨_, rfl, g, hid (by omega), rS.out.f1.f2.drop⟩
          · have d2 : ((z : Int) == 2) = false := by simp; omega
            go_wp2
            go_ret
            first | exact ⟨_, g, rfl, hid (by omega), rS.out.f2.drop⟩ | exact ⟨_, rfl, g, hid (by omega), rS.out.f2.drop⟩
set_option maxHeartbeats 4000000 in
set_option maxRecDepth 100000 in
theorem Dg.draw6 (D : Dg w0 S v l) (hS : St w0.heap.size w0 (Asn.src S v l.length :: L) w) :
    Calls Tryz.prog 129 #[.pointer (some ⟨S, 0, none⟩)] w fun e w' => ∃ (m : Mach) (u : Value) (g : List Int), e = .returned (.tuple #[.agg (mcells m), u]) ∧ Hid (Low8 m ∧ g.length ≤ 60) ∧ St w0.heap.size w0 (Asn.src S v l.length :: Asn.own w0.heap.size 2 u (ints g) :: L) w' := by
  have hN := hid (fun W L n (h0 : n ≤ 1000000000) hW => D.next (w := W) (L := L) n h0 hW)
  have hP := hid (fun W L b2 v2 M hM hMl hW => D.pick (w := W) (L := L) (b2 := b2) (v2 := v2) M hM hMl hW)
  have hZ := hid (fun W L hW => D.small (w := W) (L := L) hW)
  have hY := hid (fun W L hW => D.spoil (w := W) (L := L) hW)
  have hG := hid (fun W L m n hn hW => D.gword (w := W) (L := L) m n hn hW)
  have hpr := hid (fun (r : Int) (hr : r ∈ [1, 2, 3, (4 : Int)]) => (show 0 ≤ r ∧ r ≤ 8 from by
    simp only [List.mem_cons, List.not_mem_nil, or_false] at hr
    rcases hr with rfl | rfl | rfl | rfl <;> omega))
  have hz := zeroM_run
  have hz2 := hid (fun L W (h : St w0.heap.size w0 (Asn.src S v l.length :: L) W) => (h.newMB zeroM 27).f1)
  have hle := hid hS.le
  have hS := hid (hz2.out _ _ hS)
  clear D
  go_enter Tryz.func129, Tryz.ntmps129
  go_upto_if 9 with (first
    | (go_at_call 211; (with_reducible refine (hZ.out _ _ hS.out).mono ?_); rintro e w1 ⟨m, rfl, hm, hS'⟩; (have hle1 := hid hS'.le); replace hS := hid (hz2.out _ _ hS'); clear hS')
    | ((with_reducible refine gateOp (op := .store 27 (.tmp 4) (.tmp 6)) rfl ?_); refine store_mach rfl _ _ rfl w1.heap.size rfl m rfl 27 _ hS.out.f1.m0 ?_; intro w2 p3 ho hsz hbl; replace hS := hid (hS.out.f1.setM hle1.out p3 ho hbl); clear p3 ho hsz hbl)
    | (go_at_call 130; (with_reducible refine (hN.out _ _ _ (by omega) hS.out.f1).mono ?_); rintro e w3 ⟨r, rfl, _, hS'⟩; replace hS := hid hS'; clear hS'))
  generalize w1.heap.size = b4 at *
  go_cut [] from 5 (fun wr => ∃ m, Hid (Low8 m) ∧ St w0.heap.size w0 (Asn.src S v l.length :: Asn.mb 27 b4 m :: Asn.mb 27 w.heap.size zeroM :: L) wr)
  case first =>
    go_wp2_with (first
      | (go_at_call 105; (with_reducible refine (hY.out _ _ hS.out).mono ?_); rintro e w4 ⟨m2, rfl, hm2, hS'⟩; replace hS := hid hS'; clear hS')
      | ((with_reducible refine gateOp (op := .store 27 (.tmp 4) (.tmp 11)) rfl ?_); refine store_mach rfl _ _ rfl b4 rfl m2 rfl 27 _ hS.out.f1.m0 ?_; intro w5 p3 ho hsz hbl; replace hS := hid (hS.out.f1.setM hle1.out p3 ho hbl); clear p3 ho hsz hbl))
    all_goals go_meet
    all_goals first
      | exact ⟨m2, hm2, hS.out.f1⟩
      | exact ⟨m, hm, hS.out⟩
  case rest =>
    clear hS hm
    obtain ⟨m, hm, hS⟩ := hcut
    go_upto_region 4 with (fail)
    replace hS := hid hS.drew
    refine wp_region_heldL (L := [(7, (fun w' : World => MB w' 27 b4 m))]) (by kernel_rfl) (HeldL.cons (fun _ => hS.out.m1) HeldL.nil) (fun hHeld => ?_)
    generalize World.drew wc = wa at *
    refine wpAnyL_takeP (i := 0) 7 [] (v := (.agg (mcells m))) (fun w' : World => MB w' 27 b4 m) rfl (by kernel_rfl) (by kernel_rfl) (by kernel_rfl) (by rfl) (by kernel_rfl) (by simp) (fun _ _ _ h => h) (Or.inl ⟨by rfl, ?_⟩) (by assumption) ?_
    · (intro W hW; exact exec_load _ rfl rfl (load_run hW))
    intro hHeld'
    clear hHeld; have hHeld := hHeld'; clear hHeld'
    try simp only [Act.put, List.getElem_toArray, List.getElem_cons_succ, List.getElem_cons_zero, List.setIfInBounds_toArray, List.set_cons_zero, List.set_cons_succ]
    refine wpAnyL_take0 (i := 1) (v := ?_) rfl (by kernel_rfl) (by kernel_rfl) (by kernel_rfl) (by rfl) (fun _ _ _ h => h) (Or.inl ⟨by rfl, ?_⟩) (by assumption) ?_
    rotate_left
    · (intro W _; go_simp; (with_reducible rfl))
    intro hHeld'
    clear hHeld; have hHeld := hHeld'; clear hHeld'
    try simp only [Act.put, List.getElem_toArray, List.getElem_cons_succ, List.getElem_cons_zero, List.setIfInBounds_toArray, List.set_cons_zero, List.set_cons_succ]
    refine wpAnyL_takeP (i := 2) 7 [6] (v := (.agg (mcells m))) (fun w' : World => MB w' 27 b4 m) rfl (by kernel_rfl) (by kernel_rfl) (by kernel_rfl) (by rfl) (by kernel_rfl) (by simp) (fun _ _ _ h => h) (Or.inl ⟨by rfl, ?_⟩) (by assumption) ?_
    · (intro W hW; exact exec_load _ rfl rfl (load_run hW))
    intro hHeld'
    clear hHeld; have hHeld := hHeld'; clear hHeld'
    try simp only [Act.put, List.getElem_toArray, List.getElem_cons_succ, List.getElem_cons_zero, List.setIfInBounds_toArray, List.set_cons_zero, List.set_cons_succ]
    refine wpAnyL_take0 (i := 3) (v := ?_) rfl (by kernel_rfl) (by kernel_rfl) (by kernel_rfl) (by rfl) (fun _ _ _ h => h) (Or.inl ⟨by rfl, ?_⟩) (by assumption) ?_
    rotate_left
    · (intro W _; go_simp; (with_reducible rfl))
    intro hHeld'
    clear hHeld; have hHeld := hHeld'; clear hHeld'
    try simp only [Act.put, List.getElem_toArray, List.getElem_cons_succ, List.getElem_cons_zero, List.setIfInBounds_toArray, List.set_cons_zero, List.set_cons_succ]
    refine wpAnyL_ready (rs := [4]) (by kernel_rfl) (by simp) ?_
    refine AllReadyL.cons rfl (fun K hK => ?_) AllReadyL.nil
    go_simp
    have hS2 := hS.out.list [.int .i64 1, .int .i64 2, .int .i64 3, .int .i64 4] (by simp)
    refine hK.out _ _ (HeldL.cons (fun _ => hS2.m2) HeldL.nil) (fun hHeld' => ?_)
    clear hK K hHeld; have hHeld := hHeld'; clear hHeld'
    try simp only [Act.put, List.getElem_toArray, List.getElem_cons_succ, List.getElem_cons_zero, List.setIfInBounds_toArray, List.set_cons_zero, List.set_cons_succ]
    refine wpAnyL_ready (rs := [5]) (by kernel_rfl) (by simp) ?_
    refine AllReadyL.cons rfl (fun K hK => ?_) AllReadyL.nil
    go_simp
    (with_reducible refine (hP.out _ _ _ _ [1, 2, 3, 4] (by simp) (by simp) hS2).mono ?_)
    rintro e w6 ⟨r, rfl, hr, hS'⟩
    have hr' := hpr.out r hr
    replace hS := hid hS'
    clear hS' hS2 hr
    go_simp
    refine hK.out _ _ (HeldL.cons (fun _ => hS.out.m1) HeldL.nil) (fun hHeld' => ?_)
    clear hK K hHeld; have hHeld := hHeld'; clear hHeld'
    try simp only [Act.put, List.getElem_toArray, List.getElem_cons_succ, List.getElem_cons_zero, List.setIfInBounds_toArray, List.set_cons_zero, List.set_cons_succ]
    refine wpAnyL_ready (rs := [6]) (by kernel_rfl) (by simp) ?_
    refine AllReadyL.cons rfl (fun K hK => ?_) AllReadyL.nil
    go_simp
    (with_reducible refine (hG.out _ _ m r hr' hS.out).mono ?_)
    rintro e w7 ⟨u, g, rfl, hg, hS'⟩
    replace hS := hid hS'
    clear hS'
    go_simp
    refine hK.out _ _ (HeldL.cons (fun _ => hS.out.m2) HeldL.nil) (fun hHeld' => ?_)
    clear hK K hHeld; have hHeld := hHeld'; clear hHeld'
    try simp only [Act.put, List.getElem_toArray, List.getElem_cons_succ, List.getElem_cons_zero, List.setIfInBounds_toArray, List.set_cons_zero, List.set_cons_succ]
    refine wpAnyL_ready (rs := [7]) (by kernel_rfl) (by simp) ?_
    refine AllReadyL.cons rfl (fun K hK => ?_) AllReadyL.nil
    refine step_store_mach rfl _ _ rfl _ rfl m rfl _ _ hS.out.m3 ?_
    intro W9 p2 ho hbl
    replace hS := hid (hS.out.f3.setM hle.out p2 ho hbl)
    clear p2 ho hbl
    refine hK.out _ _ (HeldL.cons (fun h => absurd h (by decide +kernel)) HeldL.nil) (fun hHeld' => ?_)
    clear hK K hHeld; have hHeld := hHeld'; clear hHeld'
    try simp only [Act.put, List.getElem_toArray, List.getElem_cons_succ, List.getElem_cons_zero, List.setIfInBounds_toArray, List.set_cons_zero, List.set_cons_succ]
    refine wpAnyL_take0 (i := 8) (v := ?_) rfl (by kernel_rfl) (by kernel_rfl) (by kernel_rfl) (by rfl) (fun _ _ _ h => h) (Or.inl ⟨by rfl, ?_⟩) (by assumption) ?_
    rotate_left
    · (intro W _; go_simp; (with_reducible rfl))
    intro hHeld'
    clear hHeld; have hHeld := hHeld'; clear hHeld'
    try simp only [Act.put, List.getElem_toArray, List.getElem_cons_succ, List.getElem_cons_zero, List.setIfInBounds_toArray, List.set_cons_zero, List.set_cons_succ]
    refine wpAnyL_done (by kernel_rfl) ?_ _
    go_wp2
    exact ret_mach_v rfl rfl rfl hS.out.m0 rfl ⟨m, u, g, rfl, hid ⟨hm.out, hg.out⟩, hS.out.drop.f2.drop⟩
end
end Go.Proofs.YthmcdfjijkecfaaGreat

/- Draws of group words with levels and words. -/
namespace Go.Proofs.YthmcdfjijkecfaaGreat
open Go.RowKit
set_option linter.unusedVariables false
set_option linter.unusedSimpArgs false
-- @LONG

set_option maxHeartbeats 4000000 in
set_option maxRecDepth 100000 in
theorem l06Level_any (w : World) (v : Value) (l : List Nat) (hv : ArgB w v l) (hl : l.length ≤ 4096) :
    Calls Tryz.prog 122 #[v] w fun e w' => ∃ (m : Mach) (u : Value) (g : List Int) (n : Int), e = .returned (.tuple #[.agg (mcells m), u, .int .i64 n]) ∧ Hid (Low8 m ∧ g.length ≤ 60 ∧ I64 n) ∧ Own w' w.heap.size 2 u (ints g) ∧ Below w.heap.size w w' := by
  have hz := zeroM_run
  have hS := hid ((St.start w).newMB zeroM 27)
  have hfr := hid (fun W L hW => Dg.from (w := w) (W := W) (L := L) hv hl hW)
  have hz2 := hid (fun L W (h : St w.heap.size w L W) => h.newMB zeroM 27)
  have hpr := hid (fun (x r : Int) (hx : I64 x) (hr : r ∈ [1, 2, 3, x]) => (show I64 r from by
    unfold I64 at hx ⊢
    simp only [List.mem_cons, List.not_mem_nil, or_false] at hr
    rcases hr with rfl | rfl | rfl | rfl <;> omega))
  replace hv := hid hv
  obtain ⟨A, c, rfl, _⟩ := hv.out
  go_enter Tryz.func122, Tryz.ntmps122
  go_upto_region 3 with (first
    | (go_at_call 104; (with_reducible refine (hfr.out _ _ hS.out).mono ?_); rintro e w1 ⟨S, rfl, D, hS'⟩; replace hS := hid hS'; clear hS')
    | (go_at_call 129; (with_reducible refine (D.out.draw6 hS.out).mono ?_); rintro e w2 ⟨M, u, g, rfl, hM, hS'⟩; have hle := hid hS'.le; replace hS := hid (hz2.out _ _ hS'); clear hS')
    | ((with_reducible refine gateOp (op := .store 27 (.tmp 6) (.tmp 13)) rfl ?_); refine store_mach rfl _ _ rfl w2.heap.size rfl M rfl 27 _ hS.out.m0 ?_; intro w4 p3 ho hsz hbl; replace hS := hid (hS.out.setM hle.out p3 ho hbl); clear p3 ho hsz hbl))
  generalize w2.heap.size = b6 at *
  replace hS := hid hS.out.drew
  refine wp_region_heldL (L := [(7, (fun w' : World => MB w' 27 b6 M))]) (by kernel_rfl) (HeldL.cons (fun _ => hS.out.m0) HeldL.nil) (fun hHeld => ?_)
  generalize World.drew w4 = wa at *
  refine wpAnyL_takeP (i := 0) 7 [] (v := (.agg (mcells M))) (fun w' : World => MB w' 27 b6 M) rfl (by kernel_rfl) (by kernel_rfl) (by kernel_rfl) (by rfl) (by kernel_rfl) (by simp) (fun _ _ _ h => h) (Or.inl ⟨by rfl, ?_⟩) (by assumption) ?_
  · (intro W hW; exact exec_load _ rfl rfl (load_run hW))
  intro hHeld'
  clear hHeld; have hHeld := hHeld'; clear hHeld'
  try simp only [Act.put, List.getElem_toArray, List.getElem_cons_succ, List.getElem_cons_zero, List.setIfInBounds_toArray, List.set_cons_zero, List.set_cons_succ]
  refine wpAnyL_take0 (i := 1) (v := ?_) rfl (by kernel_rfl) (by kernel_rfl) (by kernel_rfl) (by rfl) (fun _ _ _ h => h) (Or.inl ⟨by rfl, ?_⟩) (by assumption) ?_
  rotate_left
  · (intro W _; go_simp; (with_reducible rfl))
  intro hHeld'
  clear hHeld; have hHeld := hHeld'; clear hHeld'
  try simp only [Act.put, List.getElem_toArray, List.getElem_cons_succ, List.getElem_cons_zero, List.setIfInBounds_toArray, List.set_cons_zero, List.set_cons_succ]
  refine wpAnyL_take0 (i := 2) (v := ?_) rfl (by kernel_rfl) (by kernel_rfl) (by kernel_rfl) (by rfl) (fun _ _ _ h => h) (Or.inl ⟨by rfl, ?_⟩) (by assumption) ?_
  rotate_left
  · (intro W _; go_simp; (with_reducible rfl))
  intro hHeld'
  clear hHeld; have hHeld := hHeld'; clear hHeld'
  try simp only [Act.put, List.getElem_toArray, List.getElem_cons_succ, List.getElem_cons_zero, List.setIfInBounds_toArray, List.set_cons_zero, List.set_cons_succ]
  refine wpAnyL_take0 (i := 3) (v := ?_) rfl (by kernel_rfl) (by kernel_rfl) (by kernel_rfl) (by rfl) (fun _ _ _ h => h) (Or.inl ⟨by rfl, ?_⟩) (by assumption) ?_
  rotate_left
  · (intro W _; go_simp; (with_reducible rfl))
  intro hHeld'
  clear hHeld; have hHeld := hHeld'; clear hHeld'
  try simp only [Act.put, List.getElem_toArray, List.getElem_cons_succ, List.getElem_cons_zero, List.setIfInBounds_toArray, List.set_cons_zero, List.set_cons_succ]
  refine wpAnyL_ready (rs := [4]) (by kernel_rfl) (by simp) ?_
  refine AllReadyL.cons rfl (fun K hK => ?_) AllReadyL.nil
  go_simp
  replace hS := hid hS.out.f1
  (with_reducible refine (D.out.near 5 (by omega) (by omega) hS.out).mono ?_)
  rintro e w5 ⟨x, rfl, hx, hS'⟩
  replace hS := hid hS'
  clear hS'
  go_simp
  refine hK.out _ _ (HeldL.cons (fun _ => hS.out.m1) HeldL.nil) (fun hHeld' => ?_)
  clear hK K hHeld; have hHeld := hHeld'; clear hHeld'
  try simp only [Act.put, List.getElem_toArray, List.getElem_cons_succ, List.getElem_cons_zero, List.setIfInBounds_toArray, List.set_cons_zero, List.set_cons_succ]
  refine wpAnyL_ready (rs := [5]) (by kernel_rfl) (by simp) ?_
  refine AllReadyL.cons rfl (fun K hK => ?_) AllReadyL.nil
  go_simp
  have hS2 := hS.out.list [.int .i64 1, .int .i64 2, .int .i64 3, .int .i64 x] (by simp)
  refine hK.out _ _ (HeldL.cons (fun _ => hS2.m2) HeldL.nil) (fun hHeld' => ?_)
  clear hK K hHeld; have hHeld := hHeld'; clear hHeld'
  try simp only [Act.put, List.getElem_toArray, List.getElem_cons_succ, List.getElem_cons_zero, List.setIfInBounds_toArray, List.set_cons_zero, List.set_cons_succ]
  refine wpAnyL_ready (rs := [6]) (by kernel_rfl) (by simp) ?_
  refine AllReadyL.cons rfl (fun K hK => ?_) AllReadyL.nil
  go_simp
  (with_reducible refine (D.out.pick [1, 2, 3, x] (by simp) (by simp) hS2).mono ?_)
  rintro e w6 ⟨n, rfl, hn, hS'⟩
  have hn' := hid (hpr.out x n hx.out hn)
  replace hS := hid hS'
  clear hS' hS2 hn
  go_simp
  refine hK.out _ _ (HeldL.cons (fun _ => hS.out.m1) HeldL.nil) (fun hHeld' => ?_)
  clear hK K hHeld; have hHeld := hHeld'; clear hHeld'
  try simp only [Act.put, List.getElem_toArray, List.getElem_cons_succ, List.getElem_cons_zero, List.setIfInBounds_toArray, List.set_cons_zero, List.set_cons_succ]
  refine wpAnyL_ready (rs := [7]) (by kernel_rfl) (by simp) ?_
  refine AllReadyL.cons rfl (fun K hK => ?_) AllReadyL.nil
  refine step_store_mach rfl _ _ rfl _ rfl M rfl _ _ hS.out.m3 ?_
  intro W9 p2 ho hbl
  replace hS := hid (hS.out.f3.setM (Nat.le_refl _) p2 ho hbl)
  clear p2 ho hbl
  refine hK.out _ _ (HeldL.cons (fun h => absurd h (by decide +kernel)) HeldL.nil) (fun hHeld' => ?_)
  clear hK K hHeld; have hHeld := hHeld'; clear hHeld'
  try simp only [Act.put, List.getElem_toArray, List.getElem_cons_succ, List.getElem_cons_zero, List.setIfInBounds_toArray, List.set_cons_zero, List.set_cons_succ]
  refine wpAnyL_take0 (i := 8) (v := ?_) rfl (by kernel_rfl) (by kernel_rfl) (by kernel_rfl) (by rfl) (fun _ _ _ h => h) (Or.inl ⟨by rfl, ?_⟩) (by assumption) ?_
  rotate_left
  · (intro W _; go_simp; (with_reducible rfl))
  intro hHeld'
  clear hHeld; have hHeld := hHeld'; clear hHeld'
  try simp only [Act.put, List.getElem_toArray, List.getElem_cons_succ, List.getElem_cons_zero, List.setIfInBounds_toArray, List.set_cons_zero, List.set_cons_succ]
  refine wpAnyL_take0 (i := 9) (v := ?_) rfl (by kernel_rfl) (by kernel_rfl) (by kernel_rfl) (by rfl) (fun _ _ _ h => h) (Or.inl ⟨by rfl, ?_⟩) (by assumption) ?_
  rotate_left
  · (intro W _; go_simp; (with_reducible rfl))
  intro hHeld'
  clear hHeld; have hHeld := hHeld'; clear hHeld'
  try simp only [Act.put, List.getElem_toArray, List.getElem_cons_succ, List.getElem_cons_zero, List.setIfInBounds_toArray, List.set_cons_zero, List.set_cons_succ]
  refine wpAnyL_done (by kernel_rfl) ?_ _
  go_wp2
  exact ret_mvv rfl rfl rfl rfl hS.out.m0 rfl ⟨M, u, g, n, rfl, hid ⟨hM.out.1, hM.out.2, hn'.out⟩, hS.out.o3, hS.out.bel⟩
set_option maxHeartbeats 4000000 in
set_option maxRecDepth 100000 in
theorem drOrl_any (w : World) (v : Value) (l : List Nat) (hv : ArgB w v l) (hl : l.length ≤ 4096) :
    Calls Tryz.prog 35 #[v] w fun e w' => ∃ (m : Mach) (u : Value) (g : List Int) (n : Int), e = .returned (.tuple #[.agg (mcells m), u, .int .i64 n]) ∧ Hid (Low8 m ∧ g.length ≤ 60 ∧ I64 n) ∧ Own w' w.heap.size 2 u (ints g) ∧ Below w.heap.size w w' := by
  have hz := zeroM_run
  have hS := hid ((St.start w).newMB zeroM 27)
  have hdr := hid (fun W (hW : Below w.heap.size w W) => l06Level_any W v l (hv.below hW) hl)
  replace hv := hid hv
  obtain ⟨A, c, rfl, _⟩ := hv.out
  go_enter Tryz.func35, Tryz.ntmps35
  go_wp2_with (first
    | (go_at_call 122; (with_reducible refine (hdr.out _ hS.out.bel).mono ?_); rintro e w1 ⟨M, u, g, n, rfl, hF, hO, hb⟩; replace hS := hid (hS.out.callOwn hb hO); clear hb hO)
    | ((with_reducible refine gateOp (op := .store 27 (.tmp 2) (.tmp 7)) rfl ?_); refine store_mach rfl _ _ rfl w.heap.size rfl M rfl 27 _ hS.out.f1.m0 ?_; intro w4 p3 ho hsz hbl; replace hS := hid (hS.out.f1.setM (Nat.le_refl _) p3 ho hbl); clear p3 ho hsz hbl))
  exact ret_mvv rfl rfl rfl rfl hS.out.m0 rfl ⟨M, u, g, n, rfl, hF, hS.out.o1, hS.out.bel⟩
set_option maxHeartbeats 4000000 in
set_option maxRecDepth 100000 in
theorem drPer_any (w : World) (v : Value) (l : List Nat) (hv : ArgB w v l) (hl : l.length ≤ 4096) :
    Calls Tryz.prog 41 #[v] w fun e w' => ∃ (m : Mach) (u : Value) (g : List Int) (ws : ByteArray), e = .returned (.tuple #[.agg (mcells m), u, .string ws]) ∧ Hid (Low8 m ∧ g.length ≤ 60 ∧ ws.size ≤ 50) ∧ Own w' w.heap.size 2 u (ints g) ∧ Below w.heap.size w w' := by
  have hz := zeroM_run
  have hS := hid ((St.start w).newMB zeroM 27)
  have hfr := hid (fun W L hW => Dg.from (w := w) (W := W) (L := L) hv hl hW)
  have hz2 := hid (fun L W (h : St w.heap.size w L W) => h.newMB zeroM 27)
  replace hv := hid hv
  obtain ⟨A, c, rfl, _⟩ := hv.out
  go_enter Tryz.func41, Tryz.ntmps41
  go_upto_if 18 with (first
    | (go_at_call 104; (with_reducible refine (hfr.out _ _ hS.out).mono ?_); rintro e w1 ⟨S, rfl, D, hS'⟩; replace hS := hid hS'; clear hS')
    | (go_at_call 129; (with_reducible refine (D.out.draw6 hS.out).mono ?_); rintro e w2 ⟨M, u, g, rfl, hM, hS'⟩; have hle := hid hS'.le; replace hS := hid (hz2.out _ _ hS'); clear hS')
    | ((with_reducible refine gateOp (op := .store 27 (.tmp 6) (.tmp 14)) rfl ?_); refine store_mach rfl _ _ rfl w2.heap.size rfl M rfl 27 _ hS.out.m0 ?_; intro w4 p3 ho hsz hbl; replace hS := hid (hS.out.setM hle.out p3 ho hbl); clear p3 ho hsz hbl)
    | (go_at_call 130; (with_reducible refine (D.out.next 16 (by omega) hS.out.f1).mono ?_); rintro e w5 ⟨z, rfl, _, hS'⟩; replace hS := hid hS'; clear hS'))
  generalize w2.heap.size = b6 at *
  by_cases z0 : z = 0
  · subst z0
    go_upto_region 4 with (fail)
    replace hS := hid hS.out.drew
    refine wp_region_heldL (L := [(5, (fun w' : World => MB w' 27 b6 M))]) (by kernel_rfl) (HeldL.cons (fun _ => hS.out.m1) HeldL.nil) (fun hHeld => ?_)
    generalize World.drew w5 = wa at *
    refine wpAnyL_takeP (i := 0) 5 [] (v := (.agg (mcells M))) (fun w' : World => MB w' 27 b6 M) rfl (by kernel_rfl) (by kernel_rfl) (by kernel_rfl) (by rfl) (by kernel_rfl) (by simp) (fun _ _ _ h => h) (Or.inl ⟨by rfl, ?_⟩) (by assumption) ?_
    · (intro W hW; exact exec_load _ rfl rfl (load_run hW))
    intro hHeld'
    clear hHeld; have hHeld := hHeld'; clear hHeld'
    try simp only [Act.put, List.getElem_toArray, List.getElem_cons_succ, List.getElem_cons_zero, List.setIfInBounds_toArray, List.set_cons_zero, List.set_cons_succ]
    refine wpAnyL_take0 (i := 1) (v := ?_) rfl (by kernel_rfl) (by kernel_rfl) (by kernel_rfl) (by rfl) (fun _ _ _ h => h) (Or.inl ⟨by rfl, ?_⟩) (by assumption) ?_
    rotate_left
    · (intro W _; go_simp; (with_reducible rfl))
    intro hHeld'
    clear hHeld; have hHeld := hHeld'; clear hHeld'
    try simp only [Act.put, List.getElem_toArray, List.getElem_cons_succ, List.getElem_cons_zero, List.setIfInBounds_toArray, List.set_cons_zero, List.set_cons_succ]
    refine wpAnyL_take0 (i := 2) (v := ?_) rfl (by kernel_rfl) (by kernel_rfl) (by kernel_rfl) (by rfl) (fun _ _ _ h => h) (Or.inl ⟨by rfl, ?_⟩) (by assumption) ?_
    rotate_left
    · (intro W _; go_simp; (with_reducible rfl))
    intro hHeld'
    clear hHeld; have hHeld := hHeld'; clear hHeld'
    try simp only [Act.put, List.getElem_toArray, List.getElem_cons_succ, List.getElem_cons_zero, List.setIfInBounds_toArray, List.set_cons_zero, List.set_cons_succ]
    refine wpAnyL_takeP (i := 3) 5 [4] (v := (.agg (mcells M))) (fun w' : World => MB w' 27 b6 M) rfl (by kernel_rfl) (by kernel_rfl) (by kernel_rfl) (by rfl) (by kernel_rfl) (by simp) (fun _ _ _ h => h) (Or.inl ⟨by rfl, ?_⟩) (by assumption) ?_
    · (intro W hW; exact exec_load _ rfl rfl (load_run hW))
    intro hHeld'
    clear hHeld; have hHeld := hHeld'; clear hHeld'
    try simp only [Act.put, List.getElem_toArray, List.getElem_cons_succ, List.getElem_cons_zero, List.setIfInBounds_toArray, List.set_cons_zero, List.set_cons_succ]
    refine wpAnyL_ready (rs := [4]) (by kernel_rfl) (by simp) ?_
    refine AllReadyL.cons rfl (fun K hK => ?_) AllReadyL.nil
    go_simp
    (with_reducible refine (D.out.wordy M hS.out).mono ?_)
    rintro e w6 ⟨ws, rfl, hws, hS'⟩
    replace hS := hid hS'
    clear hS'
    go_simp
    refine hK.out _ _ (HeldL.cons (fun _ => hS.out.m1) HeldL.nil) (fun hHeld' => ?_)
    clear hK K hHeld; have hHeld := hHeld'; clear hHeld'
    try simp only [Act.put, List.getElem_toArray, List.getElem_cons_succ, List.getElem_cons_zero, List.setIfInBounds_toArray, List.set_cons_zero, List.set_cons_succ]
    refine wpAnyL_ready (rs := [5]) (by kernel_rfl) (by simp) ?_
    refine AllReadyL.cons rfl (fun K hK => ?_) AllReadyL.nil
    refine step_store_mach rfl _ _ rfl _ rfl M rfl _ _ hS.out.m3 ?_
    intro W9 p2 ho hbl
    replace hS := hid (hS.out.f3.setM (Nat.le_refl _) p2 ho hbl)
    clear p2 ho hbl
    refine hK.out _ _ (HeldL.cons (fun h => absurd h (by decide +kernel)) HeldL.nil) (fun hHeld' => ?_)
    clear hK K hHeld; have hHeld := hHeld'; clear hHeld'
    try simp only [Act.put, List.getElem_toArray, List.getElem_cons_succ, List.getElem_cons_zero, List.setIfInBounds_toArray, List.set_cons_zero, List.set_cons_succ]
    refine wpAnyL_take0 (i := 6) (v := ?_) rfl (by kernel_rfl) (by kernel_rfl) (by kernel_rfl) (by rfl) (fun _ _ _ h => h) (Or.inl ⟨by rfl, ?_⟩) (by assumption) ?_
    rotate_left
    · (intro W _; go_simp; (with_reducible rfl))
    intro hHeld'
    clear hHeld; have hHeld := hHeld'; clear hHeld'
    try simp only [Act.put, List.getElem_toArray, List.getElem_cons_succ, List.getElem_cons_zero, List.setIfInBounds_toArray, List.set_cons_zero, List.set_cons_succ]
    refine wpAnyL_take0 (i := 7) (v := ?_) rfl (by kernel_rfl) (by kernel_rfl) (by kernel_rfl) (by rfl) (fun _ _ _ h => h) (Or.inl ⟨by rfl, ?_⟩) (by assumption) ?_
    rotate_left
    · (intro W _; go_simp; (with_reducible rfl))
    intro hHeld'
    clear hHeld; have hHeld := hHeld'; clear hHeld'
    try simp only [Act.put, List.getElem_toArray, List.getElem_cons_succ, List.getElem_cons_zero, List.setIfInBounds_toArray, List.set_cons_zero, List.set_cons_succ]
    refine wpAnyL_done (by kernel_rfl) ?_ _
    go_wp2
    exact ret_mvv rfl rfl rfl rfl hS.out.m0 rfl ⟨M, u, g, ws, rfl, hid ⟨hM.out.1, hM.out.2, hws.out⟩, hS.out.o3, hS.out.bel⟩
  · have d0 : ((z : Int) == 0) = false := by simp; omega
    have cL := hS.out.m1.cL
    go_upto_if 26 with (fail)
    go_cut [8] from 27 (fun d wr => ∃ d' : Int, d = .int .i64 d' ∧ wr = w5)
    case first =>
      by_cases h3 : ((M.L : Int) == 3) = true
      · go_wp2
        go_meet
        exact ⟨_, rfl, rfl⟩
      · go_wp2
        go_meet
        exact ⟨_, rfl, rfl⟩
    case rest =>
      obtain ⟨d', rfl, rfl⟩ := hcut
      clear cL
      go_upto_region 8 with (fail)
      replace hS := hid hS.out.drew
      refine wp_region_heldL (L := [(7, (fun w' : World => MB w' 27 b6 M))]) (by kernel_rfl) (HeldL.cons (fun _ => hS.out.m1) HeldL.nil) (fun hHeld => ?_)
      generalize World.drew _ = wa at *
      refine wpAnyL_takeP (i := 0) 7 [] (v := (.agg (mcells M))) (fun w' : World => MB w' 27 b6 M) rfl (by kernel_rfl) (by kernel_rfl) (by kernel_rfl) (by rfl) (by kernel_rfl) (by simp) (fun _ _ _ h => h) (Or.inl ⟨by rfl, ?_⟩) (by assumption) ?_
      · (intro W hW; exact exec_load _ rfl rfl (load_run hW))
      intro hHeld'
      clear hHeld; have hHeld := hHeld'; clear hHeld'
      try simp only [Act.put, List.getElem_toArray, List.getElem_cons_succ, List.getElem_cons_zero, List.setIfInBounds_toArray, List.set_cons_zero, List.set_cons_succ]
      refine wpAnyL_take0 (i := 1) (v := ?_) rfl (by kernel_rfl) (by kernel_rfl) (by kernel_rfl) (by rfl) (fun _ _ _ h => h) (Or.inl ⟨by rfl, ?_⟩) (by assumption) ?_
      rotate_left
      · (intro W _; go_simp; (with_reducible rfl))
      intro hHeld'
      clear hHeld; have hHeld := hHeld'; clear hHeld'
      try simp only [Act.put, List.getElem_toArray, List.getElem_cons_succ, List.getElem_cons_zero, List.setIfInBounds_toArray, List.set_cons_zero, List.set_cons_succ]
      refine wpAnyL_take0 (i := 2) (v := ?_) rfl (by kernel_rfl) (by kernel_rfl) (by kernel_rfl) (by rfl) (fun _ _ _ h => h) (Or.inl ⟨by rfl, ?_⟩) (by assumption) ?_
      rotate_left
      · (intro W _; go_simp; (with_reducible rfl))
      intro hHeld'
      clear hHeld; have hHeld := hHeld'; clear hHeld'
      try simp only [Act.put, List.getElem_toArray, List.getElem_cons_succ, List.getElem_cons_zero, List.setIfInBounds_toArray, List.set_cons_zero, List.set_cons_succ]
      refine wpAnyL_take0 (i := 3) (v := ?_) rfl (by kernel_rfl) (by kernel_rfl) (by kernel_rfl) (by rfl) (fun _ _ _ h => h) (Or.inl ⟨by rfl, ?_⟩) (by assumption) ?_
      rotate_left
      · (intro W _; go_simp; (with_reducible rfl))
      intro hHeld'
      clear hHeld; have hHeld := hHeld'; clear hHeld'
      try simp only [Act.put, List.getElem_toArray, List.getElem_cons_succ, List.getElem_cons_zero, List.setIfInBounds_toArray, List.set_cons_zero, List.set_cons_succ]
      refine wpAnyL_take0 (i := 4) (v := ?_) rfl (by kernel_rfl) (by kernel_rfl) (by kernel_rfl) (by rfl) (fun _ _ _ h => h) (Or.inl ⟨by rfl, ?_⟩) (by assumption) ?_
      rotate_left
      · (intro W _; go_simp; (with_reducible rfl))
      intro hHeld'
      clear hHeld; have hHeld := hHeld'; clear hHeld'
      try simp only [Act.put, List.getElem_toArray, List.getElem_cons_succ, List.getElem_cons_zero, List.setIfInBounds_toArray, List.set_cons_zero, List.set_cons_succ]
      refine wpAnyL_ready (rs := [5]) (by kernel_rfl) (by simp) ?_
      refine AllReadyL.cons rfl (fun K hK => ?_) AllReadyL.nil
      go_simp
      (with_reducible refine (D.out.next 6 (by omega) hS.out).mono ?_)
      rintro e w6 ⟨n, rfl, hn, hS'⟩
      replace hS := hid hS'
      clear hS'
      go_simp
      refine hK.out _ _ (HeldL.cons (fun _ => hS.out.m1) HeldL.nil) (fun hHeld' => ?_)
      clear hK K hHeld; have hHeld := hHeld'; clear hHeld'
      try simp only [Act.put, List.getElem_toArray, List.getElem_cons_succ, List.getElem_cons_zero, List.setIfInBounds_toArray, List.set_cons_zero, List.set_cons_succ]
      refine wpAnyL_ready (rs := [6]) (by kernel_rfl) (by simp) ?_
      refine AllReadyL.cons rfl (fun K hK => ?_) AllReadyL.nil
      go_simp
      (with_reducible refine (D.out.word d' n (by omega) hS.out).mono ?_)
      rintro e w7 ⟨uw, rfl, hu, hS'⟩
      replace hS := hid hS'
      clear hS'
      go_simp
      refine hK.out _ _ (HeldL.cons (fun _ => hS.out.m1) HeldL.nil) (fun hHeld' => ?_)
      clear hK K hHeld; have hHeld := hHeld'; clear hHeld'
      try simp only [Act.put, List.getElem_toArray, List.getElem_cons_succ, List.getElem_cons_zero, List.setIfInBounds_toArray, List.set_cons_zero, List.set_cons_succ]
      refine wpAnyL_ready (rs := [7]) (by kernel_rfl) (by simp) ?_
      refine AllReadyL.cons rfl (fun K hK => ?_) AllReadyL.nil
      refine step_store_mach rfl _ _ rfl _ rfl M rfl _ _ hS.out.m3 ?_
      intro W9 p2 ho hbl
      replace hS := hid (hS.out.f3.setM (Nat.le_refl _) p2 ho hbl)
      clear p2 ho hbl
      refine hK.out _ _ (HeldL.cons (fun h => absurd h (by decide +kernel)) HeldL.nil) (fun hHeld' => ?_)
      clear hK K hHeld; have hHeld := hHeld'; clear hHeld'
      try simp only [Act.put, List.getElem_toArray, List.getElem_cons_succ, List.getElem_cons_zero, List.setIfInBounds_toArray, List.set_cons_zero, List.set_cons_succ]
      refine wpAnyL_take0 (i := 8) (v := ?_) rfl (by kernel_rfl) (by kernel_rfl) (by kernel_rfl) (by rfl) (fun _ _ _ h => h) (Or.inl ⟨by rfl, ?_⟩) (by assumption) ?_
      rotate_left
      · (intro W _; go_simp; (with_reducible rfl))
      intro hHeld'
      clear hHeld; have hHeld := hHeld'; clear hHeld'
      try simp only [Act.put, List.getElem_toArray, List.getElem_cons_succ, List.getElem_cons_zero, List.setIfInBounds_toArray, List.set_cons_zero, List.set_cons_succ]
      refine wpAnyL_take0 (i := 9) (v := ?_) rfl (by kernel_rfl) (by kernel_rfl) (by kernel_rfl) (by rfl) (fun _ _ _ h => h) (Or.inl ⟨by rfl, ?_⟩) (by assumption) ?_
      rotate_left
      · (intro W _; go_simp; (with_reducible rfl))
      intro hHeld'
      clear hHeld; have hHeld := hHeld'; clear hHeld'
      try simp only [Act.put, List.getElem_toArray, List.getElem_cons_succ, List.getElem_cons_zero, List.setIfInBounds_toArray, List.set_cons_zero, List.set_cons_succ]
      refine wpAnyL_done (by kernel_rfl) ?_ _
      go_wp2
      exact ret_mvv rfl rfl rfl rfl hS.out.m0 rfl ⟨M, u, g, wstr uw, rfl, hid ⟨hM.out.1, hM.out.2, by rw [wstr_size]; have := hu.out.1; omega⟩, hS.out.o3, hS.out.bel⟩
end Go.Proofs.YthmcdfjijkecfaaGreat
