/- What the proof of FnMinimal leans on, part 13 of 21. -/
import Derived.Test.YtbmkkaecfogmoaaZFnMinimalL
/- Trivial states: the program's trivial. -/
namespace Go.Proofs.Ytbmkkaecfogmoaa
open Go.RowKit
set_option linter.unusedVariables false
set_option linter.unusedSimpArgs false
-- @LONG

theorem info_bool : (Try.prog.info? 4).map (fun i => (i.zero, i.size, i.bytes)) = some (some (.bool false), 1, 1) := by kernel_rfl
set_option maxHeartbeats 1000000 in
theorem triv1_any (b3 go n c r : Nat) (u : Bool) (w : World) (hb : w.cell? ⟨b3, 0, none⟩ = some (.slice (some ⟨go, 0, none⟩) n c)) (hr : r < n) (hu : w.cell? ⟨go, r, none⟩ = some (.bool u)) :
    Calls Try.prog 186 #[.int .i64 r, .pointer (some ⟨b3, 0, none⟩)] w fun e w' => e = .returned (.bool (!u)) ∧ w = w' := by
  have r0 : (0 : Int) ≤ (r : Int) := Int.natCast_nonneg _
  have r1 : (r : Int) < (n : Int) := by omega
  go_enter Try.func186, Try.ntmps186
  go_wp2
  go_ret
  exact ⟨rfl, rfl⟩
set_option maxHeartbeats 1000000 in
set_option maxRecDepth 100000 in
theorem indexFuncI_triv (b : Nat) (w : World) (base : Nat) (v : Value) (l : List Int) (h : Own w base 2 v (ints l)) (hl : l.length < 2000000) (p : Int → Bool)
    (hcall : ∀ W, Below w.heap.size w W → ∀ x, x ∈ l → Calls Try.prog 186 #[.int .i64 x, .pointer (some ⟨b, 0, none⟩)] W fun e w' => e = .returned (.bool (p x)) ∧ Below W.heap.size W w') :
    Calls Try.prog 218 #[v, .func (.func 186) #[] #[.pointer (some ⟨b, 0, none⟩)]] w fun e w' => e = .returned (.int .i64 (idxP p l 0)) ∧ Below w.heap.size w w' := by
  have hil := ints_length l
  obtain ⟨A1, c1, rfl, _, _⟩ := h.form
  rw [hil] at h ⊢
  have hget := hid (fun (k : Nat) (x : Int) (hx : l[k]? = some x) => (show (ints l)[k]? = some (.int .i64 x) by simp [ints, hx]))
  have hcell := hid (fun (k : Nat) (x : Int) (hx : l[k]? = some x) => (show ∃ g, A1 = some ⟨g, 0, none⟩ ∧ ∀ W, Below w.heap.size w W → W.cell? ⟨g, k, none⟩ = some (.int .i64 x) from by
    obtain ⟨g1, c2, he, _, hg1⟩ := h.blk (fun e => by have h1 := congrArg List.length e; rw [hil] at h1; have h2 := (List.getElem?_eq_some_iff.1 hx).1; rw [List.length_nil] at h1; omega)
    injection he with e1 e2 e3
    subst e1
    exact ⟨g1, rfl, fun W hW => (h.below hW).cellAt k _ (hget.out k x hx)⟩))
  replace hcall := hid hcall
  clear h hil
  obtain ⟨R, hR⟩ : ∃ R, R = idxP p l 0 := ⟨_, rfl⟩
  rw [← hR]
  replace hR := hid hR
  generalize hn : l.length = n at *
  replace hn := hid hn
  go_enter Try.func218, Try.ntmps218
  go_wp2
  go_loopw [8] (fun i wr => ∃ k : Nat, k ≤ n ∧ i = .int .i64 k ∧ Hid (R = idxP p (l.drop k) k) ∧ Below w.heap.size w wr) (fun i _ => n - (intOf i).toNat)
  case atStart => exact ⟨0, Nat.zero_le _, rfl, hR, Below.refl _ _⟩
  case round =>
    obtain ⟨k, hk, rfl, hA, rB⟩ := hrel
    clear hR
    replace rB := hid rB
    by_cases hlt : k < n
    · obtain ⟨x, hx⟩ : ∃ x, l[k]? = some x := ⟨_, List.getElem?_eq_getElem (by rw [hn.out]; exact hlt)⟩
      obtain ⟨g, rfl, hc⟩ := hcell.out k x hx
      have d1 := hc wr rB.out
      have hcl := hid (hcall.out wr rB.out x (List.mem_of_getElem? hx))
      have hT := hid (fun hp => idxP_drop_t (p := p) hx hp k)
      have hF := hid (fun hp => idxP_drop_f (p := p) hx hp k)
      clear hc hx
      cases hp : p x with
      | true =>
        rw [hp] at hcl
        have hA2 := hid (hA.out.trans (hT.out hp))
        clear hp hT hF
        go_wp2_with (first
          | (go_at_call 186; (with_reducible refine (hcl.out).mono ?_); rintro e w1 ⟨rfl, hb⟩; replace rB := hid (rB.out.trans (hb.mono rB.out.size)); clear hb))
        go_ret
        exact ⟨retI (by rw [hA2.out]), rB.out⟩
      | false =>
        rw [hp] at hcl
        have hA2 := hid (hA.out.trans (hF.out hp))
        clear hp hT hF
        go_wp2_with (first
          | (go_at_call 186; (with_reducible refine (hcl.out).mono ?_); rintro e w1 ⟨rfl, hb⟩; replace rB := hid (rB.out.trans (hb.mono rB.out.size)); clear hb))
        go_roundw
        case rel => exact ⟨k + 1, by omega, by go_num, hA2, rB.out⟩
        case measure => simp [intOf]; omega
    · obtain rfl : k = n := by omega
      have hA2 := hid (hA.out.trans (show _ = (-1 : Int) by rw [List.drop_eq_nil_of_le (by rw [hn.out]; exact Nat.le_refl _)]; rfl))
      go_wp2
      go_ret
      exact ⟨retI (by rw [hA2.out]), rB.out⟩
set_option maxHeartbeats 1000000 in
theorem containsFuncI_triv (b : Nat) (w : World) (base : Nat) (v : Value) (l : List Int) (h : Own w base 2 v (ints l)) (hl : l.length < 2000000) (p : Int → Bool)
    (hcall : ∀ W, Below w.heap.size w W → ∀ x, x ∈ l → Calls Try.prog 186 #[.int .i64 x, .pointer (some ⟨b, 0, none⟩)] W fun e w' => e = .returned (.bool (p x)) ∧ Below W.heap.size W w') :
    Calls Try.prog 122 #[v, .func (.func 186) #[] #[.pointer (some ⟨b, 0, none⟩)]] w fun e w' => e = .returned (.bool (l.any p)) ∧ Below w.heap.size w w' := by
  have hi := hid (indexFuncI_triv b w base v l h hl p hcall)
  have ha := hid (idxP_any p l 0 (Int.le_refl _))
  clear hcall h hl
  generalize idxP p l 0 = r at *
  generalize l.any p = c at *
  go_enter Try.func122, Try.ntmps122
  go_wp2_with (first
    | (go_at_call 218; (with_reducible refine (hi.out).mono ?_); rintro e w1 ⟨rfl, hb⟩; replace hb := hid hb))
  go_ret
  refine ⟨retB ?_, hb.out⟩
  have h := ha.out
  rw [Bool.eq_iff_iff, ← h]
  simp

set_option maxHeartbeats 8000000 in
set_option maxRecDepth 100000 in
theorem trivial_any (w : World) (G : Nat) (vN vO : Value) (T : Tab) (hT : T.Ok) (hL : T.L ≤ 3) (hL0 : 0 < T.L) (hn : T.n < 100000) (hTB : TB w G vN vO T) :
    Calls Try.prog 83 #[.pointer (some ⟨G, 0, none⟩)] w fun e w' => ∃ v, e = .returned v ∧ Own w' w.heap.size 4 v (bls (tvL T)) ∧ Below w.heap.size w w' := by
  have hpos := hT.pos
  obtain ⟨gN, cN, rfl, _, _⟩ := hTB.2.1.blk (fun e => by have h1 := congrArg List.length e; rw [tbL_length] at h1; simp at h1; omega)
  obtain ⟨gO, cO, rfl, _, _⟩ := hTB.2.2.blk (fun e => by have h1 := congrArg List.length e; rw [tbL_length] at h1; simp at h1; omega)
  rw [tbL_length, tbL_length] at hTB
  have hread := hid (fun W (hb : Below w.heap.size w W) => (show W.cell? ⟨G, 0, none⟩ = some (.slice (some ⟨gN, 0, none⟩) T.n cN) ∧ W.cell? ⟨G, 1, none⟩ = some (.slice (some ⟨gO, 0, none⟩) T.n cO) from ⟨(hTB.below hb).c0, (hTB.below hb).c1⟩))
  have hrowN := hid (fun q (hq : q < T.n) => (show ∃ g c, ∀ W, Below w.heap.size w W → W.cell? ⟨gN, q, none⟩ = some (.slice (some ⟨g, 0, none⟩) T.L c) ∧ Own W G 2 (.slice (some ⟨g, 0, none⟩) T.L c) (ints (rwI T.nx q T.L)) from by
    obtain ⟨rows, hO, hlr, hall⟩ := hTB.2.1
    have hi : q < rows.length := by rw [hlr, tbL_length]; exact hq
    obtain ⟨r, hr⟩ : ∃ r, rows[q]? = some r := ⟨_, List.getElem?_eq_getElem hi⟩
    have hrow := hall q r _ hr (tbL_get T.nx T.n T.L q hq)
    obtain ⟨g, c, rfl, _, _⟩ := hrow.blk (fun e => by have h1 := congrArg List.length e; rw [ints_length, rwI_length] at h1; simp at h1; omega)
    rw [ints_length, rwI_length] at hr hrow
    exact ⟨g, c, fun W hb => ⟨(hO.below hb).cellAt q _ hr, hrow.below hb⟩⟩))
  have hrowO := hid (fun q (hq : q < T.n) => (show ∃ g c, ∀ W, Below w.heap.size w W → W.cell? ⟨gO, q, none⟩ = some (.slice (some ⟨g, 0, none⟩) T.L c) ∧ ∀ x, x < T.L → W.cell? ⟨g, x, none⟩ = some (.int .i64 (T.ot q x : Nat)) from by
    obtain ⟨rows, hO, hlr, hall⟩ := hTB.2.2
    have hi : q < rows.length := by rw [hlr, tbL_length]; exact hq
    obtain ⟨r, hr⟩ : ∃ r, rows[q]? = some r := ⟨_, List.getElem?_eq_getElem hi⟩
    have hrow := hall q r _ hr (tbL_get T.ot T.n T.L q hq)
    obtain ⟨g, c, rfl, _, _⟩ := hrow.blk (fun e => by have h1 := congrArg List.length e; rw [ints_length, rwI_length] at h1; simp at h1; omega)
    rw [ints_length, rwI_length] at hr hrow
    exact ⟨g, c, fun W hb => ⟨(hO.below hb).cellAt q _ hr, fun x hx => (hrow.below hb).cellAt x _ (by simp [ints, rwI_get _ _ _ _ hx])⟩⟩))
  have hmk := fun W : World => run_make_row' (P := Try.prog) 90 4 (.bool false) 1 Try.underlying90 info_bool rfl .i64 .i64 T.n (by omega) (by omega) W
  have hmc := hid (toList_madeCells_one (.bool false) T.n)
  generalize madeCells #[.bool false] T.n = mc at *
  have hmcs := hid (show mc.size = T.n by rw [← Array.length_toList, hmc.out, List.length_replicate])
  have hmf : ∀ (fn : Fn) (first cap : Array Value) (w : World), (Instr.makeFunc fn first cap).run Try.prog w = .ok (.func fn first cap) w := fun _ _ _ _ => rfl
  have hS := (St.start w).newArr mc T.n hmcs.out 4 (by omega)
  rw [hmc.out, ← keptL_zero T T.n] at hS
  have hS2 := hid (hS.newBlk #[.slice (some ⟨w.heap.size, 0, none⟩) T.n T.n] 90)
  rw [heap_alloc_size] at hS2
  clear hS
  have e1 := (hread.out w (Below.refl _ _)).2
  have hkd := hid (keptL_done T)
  have hks := hid (keptL_set T)
  have hlt := hid (fun q x hq hx => hT.nx q x hq hx)
  have hgo := hid (Nat.le_refl w.heap.size)
  replace hT := hid hT; replace hTB := hid hTB; replace hmcs := hid hmcs
  generalize hnn : T.n = n at *
  generalize hLL : T.L = L at *
  replace hnn := hid hnn; replace hLL := hid hLL
  go_enter Try.func83, Try.ntmps83
  go_upto_region 2 with (fail)
  clear e1
  have e1 := (hread.out _ hS2.out.bel).2
  generalize (w.alloc (.cells mc 4)).alloc (.cells #[.slice (some ⟨w.heap.size, 0, none⟩) n n] 90) = W1 at *
  generalize hgoe : w.heap.size = go at *
  replace hgoe := hid hgoe
  go_wp2
  clear e1
  go_loopw [22] (fun i wr => ∃ q : Nat, q ≤ n ∧ i = .int .i64 q ∧ St go w [Asn.blk (go + 1) #[.slice (some ⟨go, 0, none⟩) n n] 90, Asn.own go 4 (.slice (some ⟨go, 0, none⟩) n n) (bls (keptL T q n))] wr) (fun i _ => n - (intOf i).toNat)
  case atStart => exact ⟨0, Nat.zero_le _, rfl, hS2.out⟩
  case round =>
    obtain ⟨q, hq, rfl, rS⟩ := hrel
    clear hS2
    replace rS := hid rS
    by_cases hqn : q < n
    · obtain ⟨g2, c2, hr2⟩ := hrowO.out q hqn
      have e1 := (hr2 _ rS.out.bel).1
      have cb := cell_of_row _ _ 0 _ _ _ rS.out.k0
      have hl0 := hid (show (bls (keptL T q n)).length = n by rw [bls_length, keptL_length])
      have fo := Own.frozenAt rS.out.o1 hl0.out q
      obtain ⟨u0, hu0⟩ : ∃ u, (bls (keptL T q n))[q]? = some u := ⟨_, List.getElem?_eq_getElem (by rw [hl0.out]; exact hqn)⟩
      have co := Own.cellAt rS.out.o1 q u0 hu0
      clear hu0
      have hset := hid (rS.out.f1.setOwn hl0.out q (.bool true) hqn)
      rw [bls_set] at hset
      go_upto_region 6 with (fail)
      replace hset := hid hset.out
      generalize wr.setCell ⟨go, q, none⟩ (.bool true) = wa at *
      clear e1 cb fo co rS
      go_wp2
      have hset2 := hid (show St go w [Asn.own go 4 (.slice (some ⟨go, 0, none⟩) n n) (bls ((keptL T q n).set q (alls 0 fun x => T.ot q x == x))), Asn.blk (go + 1) #[.slice (some ⟨go, 0, none⟩) n n] 90] wa from hset.out)
      clear hset
      go_loopw [32] (fun i wr => ∃ x : Nat, x ≤ L ∧ i = .int .i64 x ∧ St go w [Asn.own go 4 (.slice (some ⟨go, 0, none⟩) n n) (bls ((keptL T q n).set q (alls x fun x => T.ot q x == x))), Asn.blk (go + 1) #[.slice (some ⟨go, 0, none⟩) n n] 90] wr) (fun i _ => L - (intOf i).toNat)
      case atStart => exact ⟨0, Nat.zero_le _, rfl, hset2.out⟩
      case round =>
        obtain ⟨x, hx, rfl, yS⟩ := hrel
        clear hset2
        replace yS := hid yS
        by_cases hxL : x < L
        · have ci := (hr2 _ yS.out.bel).2 x hxL
          have cb := cell_of_row _ _ 0 _ _ _ yS.out.k1
          have hl1 := hid (show (bls ((keptL T q n).set q (alls x fun x => T.ot q x == x))).length = n by rw [bls_length, List.length_set, keptL_length])
          have hg1 := hid (show ((keptL T q n).set q (alls x fun x => T.ot q x == x))[q]? = some (alls x fun x => T.ot q x == x) by rw [List.getElem?_set_self (by rw [keptL_length]; exact hqn)])
          have hsc := hid (show alls (x + 1) (fun x => T.ot q x == x) = ((alls x fun x => T.ot q x == x) && (T.ot q x == x)) from alls_succ x _)
          have hss := hid (fun b => (show ((keptL T q n).set q (alls x fun x => T.ot q x == x)).set q b = (keptL T q n).set q b by rw [List.set_set]))
          have hnx := hid (fun b => bls_set ((keptL T q n).set q (alls x fun x => T.ot q x == x)) q b)
          generalize (keptL T q n).set q (alls x fun x => T.ot q x == x) = bl at *
          have co := Own.cellAt yS.out.o0 q _ (bls_get hg1.out)
          have fo := Own.frozenAt yS.out.o0 hl1.out q
          have hst := hid (fun b => (show St go w [Asn.own go 4 (.slice (some ⟨go, 0, none⟩) n n) (bls (bl.set q b)), Asn.blk (go + 1) #[.slice (some ⟨go, 0, none⟩) n n] 90] (wr.drew.setCell ⟨go, q, none⟩ (.bool b)) from by have h := yS.out.drew.setOwn hl1.out q (.bool b) hqn; rw [hnx.out] at h; exact h))
          by_cases hyy : T.ot q x = x
          · have hye : (((T.ot q x : Nat) : Int) == (x : Int)) = true := by simp [hyy]
            have hye2 : (T.ot q x == x) = true := by simp [hyy]
            clear hyy
            generalize T.ot q x = y at *
            cases hal : (alls x fun x => T.ot q x == x) with
            | true =>
              rw [hal] at co hsc
              clear hal
              have hfin := hid (show (keptL T q n).set q (alls (x + 1) fun x => T.ot q x == x) = bl.set q true by rw [hsc.out, hye2, hss.out]; rfl)
              have fo2 : wr.drew.frozen? ⟨go, q, none⟩ = false := fo
              have co2 : wr.drew.cell? ⟨go, q, none⟩ = some (.bool true) := co
              replace hst := hid (hst.out true)
              go_upto_region 9 with (fail)
              refine wp_region_still_tail 12 (by kernel_rfl) (by kernel_rfl) ?_
              simp only [List.take_succ_cons, List.take_zero, List.drop_succ_cons, List.drop_zero]
              repeat still_step
              try refine wpStill_nil ?_
              change wpList _ _ _ _ _ wr.drew
              clear fo co cb ci yS
              generalize wr.drew = wd at *
              go_wp2
              go_roundw
              case rel => exact ⟨x + 1, by omega, by go_num, by rw [hfin.out]; exact hst.out⟩
              case measure => simp [intOf]; omega
            | false =>
              rw [hal] at co hsc
              clear hal
              have hfin := hid (show (keptL T q n).set q (alls (x + 1) fun x => T.ot q x == x) = bl.set q false by rw [hsc.out, hye2, hss.out]; rfl)
              have fo2 : wr.drew.frozen? ⟨go, q, none⟩ = false := fo
              have co2 : wr.drew.cell? ⟨go, q, none⟩ = some (.bool false) := co
              replace hst := hid (hst.out false)
              go_upto_region 9 with (fail)
              refine wp_region_still_tail 12 (by kernel_rfl) (by kernel_rfl) ?_
              simp only [List.take_succ_cons, List.take_zero, List.drop_succ_cons, List.drop_zero]
              repeat still_step
              try refine wpStill_nil ?_
              change wpList _ _ _ _ _ wr.drew
              clear fo co cb ci yS
              generalize wr.drew = wd at *
              go_wp2
              go_roundw
              case rel => exact ⟨x + 1, by omega, by go_num, by rw [hfin.out]; exact hst.out⟩
              case measure => simp [intOf]; omega
          · have hye : (((T.ot q x : Nat) : Int) == (x : Int)) = false := by simp; omega
            have hye2 : (T.ot q x == x) = false := by simp [hyy]
            clear hyy
            generalize T.ot q x = y at *
            cases hal : (alls x fun x => T.ot q x == x) with
            | true =>
              rw [hal] at co hsc
              clear hal
              have hfin := hid (show (keptL T q n).set q (alls (x + 1) fun x => T.ot q x == x) = bl.set q false by rw [hsc.out, hye2, hss.out]; rfl)
              have fo2 : wr.drew.frozen? ⟨go, q, none⟩ = false := fo
              have co2 : wr.drew.cell? ⟨go, q, none⟩ = some (.bool true) := co
              replace hst := hid (hst.out false)
              go_upto_region 9 with (fail)
              refine wp_region_still_tail 12 (by kernel_rfl) (by kernel_rfl) ?_
              simp only [List.take_succ_cons, List.take_zero, List.drop_succ_cons, List.drop_zero]
              repeat still_step
              try refine wpStill_nil ?_
              change wpList _ _ _ _ _ wr.drew
              clear fo co cb ci yS
              generalize wr.drew = wd at *
              go_wp2
              go_roundw
              case rel => exact ⟨x + 1, by omega, by go_num, by rw [hfin.out]; exact hst.out⟩
              case measure => simp [intOf]; omega
            | false =>
              rw [hal] at co hsc
              clear hal
              have hfin := hid (show (keptL T q n).set q (alls (x + 1) fun x => T.ot q x == x) = bl.set q false by rw [hsc.out, hye2, hss.out]; rfl)
              have fo2 : wr.drew.frozen? ⟨go, q, none⟩ = false := fo
              have co2 : wr.drew.cell? ⟨go, q, none⟩ = some (.bool false) := co
              replace hst := hid (hst.out false)
              go_upto_region 9 with (fail)
              refine wp_region_still_tail 12 (by kernel_rfl) (by kernel_rfl) ?_
              simp only [List.take_succ_cons, List.take_zero, List.drop_succ_cons, List.drop_zero]
              repeat still_step
              try refine wpStill_nil ?_
              change wpList _ _ _ _ _ wr.drew
              clear fo co cb ci yS
              generalize wr.drew = wd at *
              go_wp2
              go_roundw
              case rel => exact ⟨x + 1, by omega, by go_num, by rw [hfin.out]; exact hst.out⟩
              case measure => simp [intOf]; omega
        · obtain rfl : x = L := by omega
          have hk : (keptL T q n).set q (alls x fun x => T.ot q x == x) = keptL T (q + 1) n := by rw [← hks.out q n]; unfold Go.Proofs.Ytbmkkaecfogmoaa.kept; rw [hLL.out]
          rw [hk] at yS
          clear hk
          go_wp2
          go_roundw
          case rel => exact ⟨q + 1, by omega, by go_num, yS.out.f1⟩
          case measure => simp [intOf]; omega
    · obtain rfl : q = n := by omega
      have hB0 : Hid (TvB T (keptL T q q)) := hkd
      obtain ⟨bl, hbl⟩ : ∃ bl, bl = keptL T q q := ⟨_, rfl⟩
      rw [← hbl] at hB0 rS
      clear hbl hkd hks hrowO hmk hmc hmcs
      have hcb := hid (show cntB bl + 1 ≤ q + 1 from by have h1 := cntB_le bl; have h2 := hB0.out.1; rw [hnn.out] at h2; omega)
      go_wp2
      go_loopg [8] (q + 1) (fun gk a wr => ∃ (bl : List Bool) (ab : Bool), a = .bool ab ∧ Hid (TvB T bl) ∧ Hid (ab = true → cntB bl + 1 ≤ gk) ∧ Hid (ab = false → TvC T bl q) ∧ St go w [Asn.blk (go + 1) #[.slice (some ⟨go, 0, none⟩) q q] 90, Asn.own go 4 (.slice (some ⟨go, 0, none⟩) q q) (bls bl)] wr)
      case atStart => exact ⟨bl, true, rfl, hB0, fun _ => hcb.out, fun h => (by cases h), rS.out⟩
      case round =>
        obtain ⟨bl, ab, rfl, hB, hc1, hc2, yS⟩ := hrel
        clear rS hB0 hcb
        replace yS := hid yS
        cases ab with
        | false =>
          have hfin := hid (hB.out.done (by have h := hc2.out rfl; rw [← hnn.out] at h; exact h))
          clear hc1 hc2
          have cb := cell_of_row _ _ 0 _ _ _ yS.out.k0
          go_wp2
          go_ret
          exact ⟨_, rfl, by rw [← hfin.out, hgoe.out]; exact yS.out.o1, by rw [hgoe.out]; exact yS.out.bel⟩
        | true =>
          clear hc2
          have e0 := (hread.out _ yS.out.bel).1
          go_wp2
          clear e0
          go_loopw [8, 57] (fun a i wr => ∃ (j : Nat) (b2 : List Bool) (a2 : Bool), j ≤ q ∧ i = .int .i64 j ∧ a = .bool a2 ∧ Hid (TvB T b2) ∧ Hid (cntB b2 ≤ cntB bl) ∧ Hid (a2 = true → cntB b2 + 1 ≤ cntB bl) ∧ Hid (a2 = false → TvC T b2 j) ∧ St go w [Asn.blk (go + 1) #[.slice (some ⟨go, 0, none⟩) q q] 90, Asn.own go 4 (.slice (some ⟨go, 0, none⟩) q q) (bls b2)] wr) (fun _ i _ => q - (intOf i).toNat)
          case atStart => exact ⟨0, bl, false, Nat.zero_le _, rfl, rfl, hB, Nat.le_refl _, (fun h => by cases h), (fun _ j hj => absurd hj (by omega)), yS.out⟩
          case round =>
            obtain ⟨j, b2, a2, hj, rfl, rfl, hB2, hle, hd1, hd2, zS⟩ := hrel
            clear yS
            replace zS := hid zS
            by_cases hjq : j < q
            · obtain ⟨g2, c2, hr2⟩ := hrowN.out j hjq
              have e1 := (hr2 _ zS.out.bel).1
              have cb := cell_of_row _ _ 0 _ _ _ zS.out.k0
              have hbl := hid (show (bls b2).length = q by rw [bls_length, hB2.out.1, hnn.out])
              obtain ⟨u, hu⟩ : ∃ u, b2[j]? = some u := ⟨_, List.getElem?_eq_getElem (by rw [hB2.out.1, hnn.out]; exact hjq)⟩
              have co := Own.cellAt zS.out.o1 j _ (bls_get hu)
              cases u with
              | false =>
                have hC := hid (fun h => TvC.more hT.out hB2.out.1 (by rw [hnn.out]; exact hjq) (hd2.out h) (fun k => by rw [hu] at k; cases k))
                clear hu
                go_wp2
                go_roundw
                case rel => exact ⟨j + 1, b2, a2, by omega, by go_num, rfl, hB2, hle, hd1, hC, zS.out⟩
                case measure => simp [intOf]; omega
              | true =>
                have hlo : (rwI T.nx j L).any (fun r => !(b2.getD r.toNat false)) = lost T b2 j := by rw [← hLL.out]; rfl
                have hcf := hid (containsFuncI_triv (go + 1) wr G (.slice (some ⟨g2, 0, none⟩) L c2) (rwI T.nx j L) (hr2 _ zS.out.bel).2 (by rw [rwI_length]; omega) (fun r => !(b2.getD r.toNat false)) (fun W' hW' x hx => by
                  obtain ⟨k, hk, rfl⟩ := List.mem_map.1 hx
                  have hkl := hlt.out j k hjq (List.mem_range.1 hk)
                  have zS' := zS.out.call hW'
                  have hg : b2[T.nx j k]? = some (b2.getD (T.nx j k) false) := by
                    have hl2 : T.nx j k < b2.length := by rw [hB2.out.1, hnn.out]; exact hkl
                    rw [List.getD_eq_getElem?_getD, List.getElem?_eq_getElem hl2]; rfl
                  refine (triv1_any (go + 1) go q q (T.nx j k) _ W' (cell_of_row _ _ 0 _ _ _ zS'.k0) hkl (Own.cellAt zS'.o1 _ _ (bls_get hg))).mono ?_
                  rintro e w' ⟨rfl, rfl⟩
                  exact ⟨rfl, Below.refl _ _⟩))
                rw [hlo] at hcf
                cases hl : lost T b2 j with
                | false =>
                  rw [hl] at hcf
                  have hC := hid (fun h => TvC.more hT.out hB2.out.1 (by rw [hnn.out]; exact hjq) (hd2.out h) (fun _ => hl))
                  clear hu hl hlo
                  go_wp2_with (first
                    | (go_at_call 122; (with_reducible refine (hcf.out).mono ?_); rintro e w2 ⟨rfl, hb⟩; replace zS := hid (zS.out.call hb); clear hb))
                  go_roundw
                  case rel => exact ⟨j + 1, b2, a2, by omega, by go_num, rfl, hB2, hle, hd1, hC, zS.out⟩
                  case measure => simp [intOf]; omega
                | true =>
                  rw [hl] at hcf
                  have hB3 := hid (TvB.strike hT.out hB2.out (by rw [hnn.out]; exact hjq) hl)
                  have hc3 := hid (show cntB (b2.set j false) + 1 ≤ cntB bl from by have h1 := cntB_set b2 j hu; have h2 := hle.out; omega)
                  clear hl hlo
                  go_upto_region 19 with (first
                    | (go_at_call 122; (with_reducible refine (hcf.out).mono ?_); rintro e w2 ⟨rfl, hb⟩; replace zS := hid (zS.out.call hb); clear hb))
                  clear cb co e1
                  have cb := cell_of_row _ _ 0 _ _ _ zS.out.k0
                  have co := Own.cellAt zS.out.o1 j _ (bls_get hu)
                  have fo := Own.frozenAt zS.out.o1 hbl.out j
                  clear hu
                  have zS2 := hid (zS.out.f1.setOwn hbl.out j (.bool false) hjq)
                  rw [bls_set] at zS2
                  go_wp2
                  go_roundw
                  case rel => exact ⟨j + 1, b2.set j false, true, by omega, by go_num, rfl, hB3, hid (by have := hc3.out; omega), fun _ => hc3.out, (fun h => by cases h), zS2.out.f1⟩
                  case measure => simp [intOf]; omega
            · obtain rfl : j = q := by omega
              have hc4 := hid (show (a2 = true → cntB b2 + 1 ≤ (if a2 = true then cntB b2 + 1 else 0)) ∧ (if a2 = true then cntB b2 + 1 else 0) < gk from by
                have h1 := hc1.out (by first | rfl | trivial)
                cases a2 with
                | true => have h2 := hd1.out rfl; simp; omega
                | false => simp; omega)
              clear hc1
              go_wp2
              go_roundg (if a2 = true then cntB b2 + 1 else 0)
              case measure => exact hc4.out.2
              case rel => exact ⟨b2, a2, rfl, hB2, hid hc4.out.1, hd2, zS.out⟩
end Go.Proofs.Ytbmkkaecfogmoaa

/- The group of a machine, in its block. -/
namespace Go.Proofs.Ytbmkkaecfogmoaa
open Go.RowKit
set_option linter.unusedVariables false
set_option linter.unusedSimpArgs false
-- @LONG

/-- The cells of a group: a machine, its inverse, the least equal states, the trivial ones. -/
def gcells (m k : Mach) (v1 v2 : Value) : Array Value := mcells m ++ mcells k ++ #[v1, v2]
theorem gcells_m {m k : Mach} {v1 v2 : Value} (i : Nat) (h : i < 98) : (gcells m k v1 v2)[i]? = some (mf m i) := by
  unfold gcells
  rw [Array.append_assoc, Array.getElem?_append_left (by rw [size_mcells]; exact h)]
  exact mcells_get m i h
theorem gcells_k {m k : Mach} {v1 v2 : Value} (i : Nat) (h : i < 98) : (gcells m k v1 v2)[98 + i]? = some (mf k i) := by
  unfold gcells
  rw [Array.append_assoc, Array.getElem?_append_right (by rw [size_mcells]; omega), size_mcells, Array.getElem?_append_left (by rw [size_mcells]; omega), show 98 + i - 98 = i by omega]
  exact mcells_get k i h
theorem gcells_1 {m k : Mach} {v1 v2 : Value} : (gcells m k v1 v2)[196]? = some v1 := by
  unfold gcells
  rw [Array.getElem?_append_right (by rw [Array.size_append, size_mcells, size_mcells]; omega), Array.size_append, size_mcells, size_mcells]
  rfl
theorem gcells_2 {m k : Mach} {v1 v2 : Value} : (gcells m k v1 v2)[197]? = some v2 := by
  unfold gcells
  rw [Array.getElem?_append_right (by rw [Array.size_append, size_mcells, size_mcells]; omega), Array.size_append, size_mcells, size_mcells]
  rfl
/-- A group in its block, with what it points to. -/
structure GrB (w : World) (G base : Nat) (m : Mach) (l s : Nat) (v1 v2 : Value) : Prop where
  blk : w.heap[G]? = some (.cells (gcells m (inv m l s) v1 v2) 221 (0, 0))
  of : Own w base 2 v1 (nats ((List.range s).map (fix (tabOf m l s))))
  tr : Own w base 4 v2 (bls (tvL (tabOf m l s)))
section
variable {w w' : World} {G base : Nat} {m : Mach} {l s : Nat} {v1 v2 : Value}
theorem GrB.lt (h : GrB w G base m l s v1 v2) : G < w.heap.size := (Array.getElem?_eq_some_iff.1 h.blk).1
theorem GrB.below (h : GrB w G base m l s v1 v2) (hb : Below w.heap.size w w') : GrB w' G base m l s v1 v2 := ⟨(hb.block G h.lt).trans h.blk, h.of.below hb, h.tr.below hb⟩
theorem GrB.drewN (h : GrB w G base m l s v1 v2) (n : Nat) : GrB (w.drewN n) G base m l s v1 v2 := ⟨h.blk, h.of.drewN n, h.tr.drewN n⟩
theorem GrB.cL (h : GrB w G base m l s v1 v2) : w.cell? ⟨G, 0, none⟩ = some (.int .i64 m.L) := (cell_of_row w G 0 _ _ _ h.blk).trans (gcells_m 0 (by omega))
theorem GrB.cnx (h : GrB w G base m l s v1 v2) (q x : Nat) (hq : q < 16) (hx : x < 3) : w.cell? ⟨G, 2 + q * 3 + x, none⟩ = some (.int .u8 (m.nx (q * 3 + x) : Nat)) := by
  rw [cell_of_row w G _ _ _ _ h.blk, gcells_m _ (by omega), mf_nx m q x hq hx]
theorem GrB.cot (h : GrB w G base m l s v1 v2) (q x : Nat) (hq : q < 16) (hx : x < 3) : w.cell? ⟨G, 50 + q * 3 + x, none⟩ = some (.int .u8 (m.ot (q * 3 + x) : Nat)) := by
  rw [cell_of_row w G _ _ _ _ h.blk, gcells_m _ (by omega), mf_ot m q x]
theorem GrB.bnx (h : GrB w G base m l s v1 v2) (q x : Nat) (hq : q < 16) (hx : x < 3) : w.cell? ⟨G, 98 + (2 + q * 3 + x), none⟩ = some (.int .u8 ((inv m l s).nx (q * 3 + x) : Nat)) := by
  rw [cell_of_row w G _ _ _ _ h.blk, gcells_k _ (by omega), mf_nx _ q x hq hx]
theorem GrB.bot (h : GrB w G base m l s v1 v2) (q x : Nat) (hq : q < 16) (hx : x < 3) : w.cell? ⟨G, 98 + (50 + q * 3 + x), none⟩ = some (.int .u8 ((inv m l s).ot (q * 3 + x) : Nat)) := by
  rw [cell_of_row w G _ _ _ _ h.blk, gcells_k _ (by omega), mf_ot _ q x]
theorem GrB.c1 (h : GrB w G base m l s v1 v2) : w.cell? ⟨G, 196, none⟩ = some v1 := (cell_of_row w G 196 _ _ _ h.blk).trans gcells_1
theorem GrB.c2 (h : GrB w G base m l s v1 v2) : w.cell? ⟨G, 197, none⟩ = some v2 := (cell_of_row w G 197 _ _ _ h.blk).trans gcells_2
end
set_option maxRecDepth 100000 in
theorem built_group (m k : Mach) (A1 A2 : Option Addr) (n1 c1 n2 c2 : Nat) : Try.prog.built 221 [(0, .agg (mcells m)), (1, .agg (mcells k)), (2, .slice A1 n1 c1), (3, .slice A2 n2 c2)] = some (gcells m k (.slice A1 n1 c1) (.slice A2 n2 c2)) := by kernel_rfl
theorem exec_build {a : Act} {o : Oper} {W : World} {t : TypeId} (parts : Array (Nat × Operand)) {cells : Array Value} (ho : o.op = .build t parts) (h : Try.prog.built t (parts.map fun (i, x) => (i, a.eval x)).toList = some cells) :
    (execOp a.eval o).run Try.prog W = .ok (.value (.agg cells)) W := by
  have h2 := run_build (P := Try.prog) W t _ cells h
  unfold execOp
  simp only [ho, Sem.run_bind, h2, Result.andThen_ok, Sem.run_pure]
theorem exec_group {a : Act} {o : Oper} {W : World} (x y z u : Operand) (ho : o.op = .build 221 #[(0, x), (1, y), (2, z), (3, u)]) (m k : Mach) (A1 A2 : Option Addr) (n1 c1 n2 c2 : Nat)
    (hx : a.eval x = .agg (mcells m)) (hy : a.eval y = .agg (mcells k)) (hz : a.eval z = .slice A1 n1 c1) (hu : a.eval u = .slice A2 n2 c2) :
    (execOp a.eval o).run Try.prog W = .ok (.value (.agg (gcells m k (.slice A1 n1 c1) (.slice A2 n2 c2)))) W := by
  have e : ((#[(0, x), (1, y), (2, z), (3, u)] : Array (Nat × Operand)).map fun (i, x) => (i, a.eval x)).toList = [(0, .agg (mcells m)), (1, .agg (mcells k)), (2, .slice A1 n1 c1), (3, .slice A2 n2 c2)] := by simp [hx, hy, hz, hu]
  exact exec_build _ ho (by rw [e]; exact built_group m k A1 A2 n1 c1 n2 c2)

set_option maxHeartbeats 4000000 in
set_option maxRecDepth 100000 in
theorem newGroup_any (w : World) (m : Mach) (hk : m.Ok) (l s : Nat) (g : Good m l s) :
    Calls Try.prog 226 #[.agg (mcells m)] w fun e w' => ∃ G v1 v2, e = .returned (.pointer (some ⟨G, 0, none⟩)) ∧ w.heap.size ≤ G ∧ GrB w' G w.heap.size m l s v1 v2 ∧ Below w.heap.size w w' := by
  have hS := hid ((St.start w).newMB m 27)
  have hta := hid (fun W hW => table_any w.heap.size W m hW l s g)
  have hiv := hid (fun W hW => inverse_any w.heap.size W m hW l s g hk)
  have hle := hid (fun W G vN vO hW => least_any W G vN vO (tabOf m l s) (tabOf_ok g) (by show l < 100; have := g.l3; omega) (by show 0 < l; have := g.l2; omega) (by show s < 100000; have := g.s16; omega) hW)
  have htr := hid (fun W G vN vO hW => trivial_any W G vN vO (tabOf m l s) (tabOf_ok g) g.l3 (by show 0 < l; have := g.l2; omega) (by show s < 100000; have := g.s16; omega) hW)
  have hgb := hid (fun W G v1 v2 base h1 h2 h3 => (GrB.mk h1 h2 h3 : GrB W G base m l s v1 v2))
  replace hk := hid hk; replace g := hid g
  go_enter Try.func226, Try.ntmps226
  go_upto_region 2 with (first
    | (go_at_call 82; (with_reducible refine (hta.out _ hS.out.m0).mono ?_); rintro e w1 ⟨vN, vO, rfl, hT, hb⟩; replace hS := hid (hS.out.call hb); replace hT := hid hT; clear hb))
  rw [heap_alloc_size] at hT
  generalize w.heap.size + 1 = G1 at *
  replace hS := hid hS.out.drew
  replace hT := hid (show TB w1.drew G1 vN vO (tabOf m l s) from hT.out.below (below_drewN (Below.refl _ _) 1))
  refine wp_region_heldL (L := [(7, (fun w' : World => MB w' 27 w.heap.size m))]) (by kernel_rfl) (HeldL.cons (fun _ => hS.out.m0) HeldL.nil) (fun hHeld => ?_)
  generalize w1.drew = wa at *
  refine wpAnyL_takeP (i := 0) 7 [6] (v := (.agg (mcells m))) (fun w' : World => MB w' 27 w.heap.size m) rfl (by kernel_rfl) (by kernel_rfl) (by kernel_rfl) (by rfl) (by kernel_rfl) (by simp) (fun _ _ _ h => h) (Or.inl ⟨by rfl, ?_⟩) (by assumption) ?_
  · (intro W hW; exact exec_load _ rfl rfl (load_run hW))
  intro hHeld'
  clear hHeld; have hHeld := hHeld'; clear hHeld'
  try simp only [Act.put, List.getElem_toArray, List.getElem_cons_succ, List.getElem_cons_zero, List.setIfInBounds_toArray, List.set_cons_zero, List.set_cons_succ]
  refine wpAnyL_take0 (i := 2) (v := ?_) rfl (by kernel_rfl) (by kernel_rfl) (by kernel_rfl) (by rfl) (fun _ _ _ h => h) (Or.inl ⟨by rfl, ?_⟩) (by assumption) ?_
  rotate_left
  · (intro W _; go_simp; (with_reducible rfl))
  intro hHeld'
  clear hHeld; have hHeld := hHeld'; clear hHeld'
  try simp only [Act.put, List.getElem_toArray, List.getElem_cons_succ, List.getElem_cons_zero, List.setIfInBounds_toArray, List.set_cons_zero, List.set_cons_succ]
  refine wpAnyL_take0 (i := 4) (v := ?_) rfl (by kernel_rfl) (by kernel_rfl) (by kernel_rfl) (by rfl) (fun _ _ _ h => h) (Or.inl ⟨by rfl, ?_⟩) (by assumption) ?_
  rotate_left
  · (intro W _; go_simp; (with_reducible rfl))
  intro hHeld'
  clear hHeld; have hHeld := hHeld'; clear hHeld'
  try simp only [Act.put, List.getElem_toArray, List.getElem_cons_succ, List.getElem_cons_zero, List.setIfInBounds_toArray, List.set_cons_zero, List.set_cons_succ]
  refine wpAnyL_ready (rs := [1]) (by kernel_rfl) (by simp) ?_
  refine AllReadyL.cons rfl (fun K hK => ?_) AllReadyL.nil
  go_simp
  (with_reducible refine (hiv.out _ hS.out.m0).mono ?_)
  rintro e w2 ⟨rfl, hb⟩
  replace hS := hid (hS.out.call hb)
  replace hT := hid (hT.out.below hb)
  clear hb
  go_simp
  refine hK.out _ _ (HeldL.cons (fun _ => hS.out.m0) HeldL.nil) (fun hHeld' => ?_)
  clear hK K hHeld; have hHeld := hHeld'; clear hHeld'
  try simp only [Act.put, List.getElem_toArray, List.getElem_cons_succ, List.getElem_cons_zero, List.setIfInBounds_toArray, List.set_cons_zero, List.set_cons_succ]
  refine wpAnyL_ready (rs := [3]) (by kernel_rfl) (by simp) ?_
  refine AllReadyL.cons rfl (fun K hK => ?_) AllReadyL.nil
  go_simp
  (with_reducible refine (hle.out _ _ _ _ hT.out).mono ?_)
  rintro e w3 ⟨v1, rfl, hO1, hb⟩
  replace hS := hid (hS.out.callOwn hb hO1)
  replace hT := hid (hT.out.below hb)
  clear hb hO1
  go_simp
  refine hK.out _ _ (HeldL.cons (fun _ => hS.out.m1) HeldL.nil) (fun hHeld' => ?_)
  clear hK K hHeld; have hHeld := hHeld'; clear hHeld'
  try simp only [Act.put, List.getElem_toArray, List.getElem_cons_succ, List.getElem_cons_zero, List.setIfInBounds_toArray, List.set_cons_zero, List.set_cons_succ]
  refine wpAnyL_ready (rs := [5]) (by kernel_rfl) (by simp) ?_
  refine AllReadyL.cons rfl (fun K hK => ?_) AllReadyL.nil
  go_simp
  (with_reducible refine (htr.out _ _ _ _ hT.out).mono ?_)
  rintro e w4 ⟨v2, rfl, hO2, hb⟩
  replace hS := hid (hS.out.callOwn hb hO2)
  clear hb hO2 hT
  obtain ⟨A1, c1, rfl, _, _⟩ := hS.out.o1.form
  obtain ⟨A2, c2, rfl, _, _⟩ := hS.out.o0.form
  go_simp
  refine hK.out _ _ (HeldL.cons (fun _ => hS.out.m2) HeldL.nil) (fun hHeld' => ?_)
  clear hK K hHeld; have hHeld := hHeld'; clear hHeld'
  try simp only [Act.put, List.getElem_toArray, List.getElem_cons_succ, List.getElem_cons_zero, List.setIfInBounds_toArray, List.set_cons_zero, List.set_cons_succ]
  refine wpAnyL_take0 (i := 6) (v := (.agg (gcells m (inv m l s) (.slice A1 (nats (List.map (fix (tabOf m l s)) (List.range (tabOf m l s).n))).length c1) (.slice A2 (bls (tvL (tabOf m l s))).length c2)))) rfl (by kernel_rfl) (by kernel_rfl) (by kernel_rfl) (by rfl) (fun _ _ _ h => h) (Or.inl ⟨by rfl, ?_⟩) (by assumption) ?_
  · (intro W _; exact exec_group _ _ _ _ rfl m (inv m l s) _ _ _ _ _ _ rfl rfl rfl rfl)
  intro hHeld'
  clear hHeld; have hHeld := hHeld'; clear hHeld'
  try simp only [Act.put, List.getElem_toArray, List.getElem_cons_succ, List.getElem_cons_zero, List.setIfInBounds_toArray, List.set_cons_zero, List.set_cons_succ]
  refine wpAnyL_ready (rs := [7]) (by kernel_rfl) (by simp) ?_
  refine AllReadyL.cons rfl (fun K hK => ?_) AllReadyL.nil
  go_simp
  have hge := hid hS.out.le
  replace hS := hid (hS.out.newBlk (gcells m (inv m l s) (.slice A1 (nats (List.map (fix (tabOf m l s)) (List.range (tabOf m l s).n))).length c1) (.slice A2 (bls (tvL (tabOf m l s))).length c2)) 221)
  generalize w4.heap.size = G at *
  refine hK.out _ _ (HeldL.cons (fun h => absurd h (by decide +kernel)) HeldL.nil) (fun hHeld' => ?_)
  clear hK K hHeld; have hHeld := hHeld'; clear hHeld'
  try simp only [Act.put, List.getElem_toArray, List.getElem_cons_succ, List.getElem_cons_zero, List.setIfInBounds_toArray, List.set_cons_zero, List.set_cons_succ]
  refine wpAnyL_take0 (i := 8) (v := ?_) rfl (by kernel_rfl) (by kernel_rfl) (by kernel_rfl) (by rfl) (fun _ _ _ h => h) (Or.inl ⟨by rfl, ?_⟩) (by assumption) ?_
  rotate_left
  · (intro W _; go_simp; (with_reducible rfl))
  intro hHeld'
  clear hHeld; have hHeld := hHeld'; clear hHeld'
  try simp only [Act.put, List.getElem_toArray, List.getElem_cons_succ, List.getElem_cons_zero, List.setIfInBounds_toArray, List.set_cons_zero, List.set_cons_succ]
  refine wpAnyL_done (by kernel_rfl) ?_ _
  have hfin := hid (hgb.out _ _ _ _ _ hS.out.k0 hS.out.o2 hS.out.o1)
  go_wp2
  go_ret
  exact ⟨G, _, _, rfl, hge.out, hfin.out, hS.out.bel⟩
end Go.Proofs.Ytbmkkaecfogmoaa

/- What a number of a group word makes of a letter: the program's apply, at and image. -/
namespace Go.Proofs.Ytbmkkaecfogmoaa
open Go.RowKit
set_option linter.unusedVariables false
set_option linter.unusedSimpArgs false
-- @LONG

/-- The image of a letter, and the number that goes on. -/
def apO (m : Mach) (l s : Nat) (k : Int) (x : Nat) : Nat := if 0 < k then m.ot ((k - 1).toNat * 3 + x) else (inv m l s).ot ((-k - 1).toNat * 3 + x)
def apN (m : Mach) (l s : Nat) (k : Int) (x : Nat) : Int := if 0 < k then (m.nx ((k - 1).toNat * 3 + x) : Int) + 1 else -((inv m l s).nx ((-k - 1).toNat * 3 + x) : Int) - 1
section
variable {m : Mach} {l s : Nat}
theorem isNum_cases {k : Int} (h : isNum s k) : ∃ q : Nat, q < s ∧ (k = (q : Int) + 1 ∨ k = -((q : Int) + 1)) := by
  obtain ⟨h1, h2, h3⟩ := h
  by_cases hk : 0 < k
  · exact ⟨(k - 1).toNat, by omega, .inl (by omega)⟩
  · exact ⟨(-k - 1).toNat, by omega, .inr (by omega)⟩
theorem apO_pos (q x : Nat) : apO m l s ((q : Int) + 1) x = m.ot (q * 3 + x) := by
  unfold apO; rw [if_pos (by omega), show ((q : Int) + 1 - 1).toNat = q by omega]
theorem apN_pos (q x : Nat) : apN m l s ((q : Int) + 1) x = (m.nx (q * 3 + x) : Int) + 1 := by
  unfold apN; rw [if_pos (by omega), show ((q : Int) + 1 - 1).toNat = q by omega]
theorem apO_neg (q x : Nat) : apO m l s (-((q : Int) + 1)) x = (inv m l s).ot (q * 3 + x) := by
  unfold apO; rw [if_neg (by omega), show (-(-((q : Int) + 1)) - 1).toNat = q by omega]
theorem apN_neg (q x : Nat) : apN m l s (-((q : Int) + 1)) x = -((inv m l s).nx (q * 3 + x) : Int) - 1 := by
  unfold apN; rw [if_neg (by omega), show (-(-((q : Int) + 1)) - 1).toNat = q by omega]
theorem apO_lt (g : Good m l s) {k : Int} (h : isNum s k) {x : Nat} (hx : x < l) : apO m l s k x < l := by
  obtain ⟨q, hq, rfl | rfl⟩ := isNum_cases h
  · rw [apO_pos]; exact g.ot q x hq hx
  · rw [apO_neg]; exact (inv_good g).ot q x hq hx
theorem apN_num (g : Good m l s) {k : Int} (h : isNum s k) {x : Nat} (hx : x < l) : isNum s (apN m l s k x) := by
  obtain ⟨q, hq, rfl | rfl⟩ := isNum_cases h
  · rw [apN_pos]
    have := g.nx q x hq hx
    exact ⟨by omega, by omega, by omega⟩
  · rw [apN_neg]
    have := (inv_good g).nx q x hq hx
    exact ⟨by omega, by omega, by omega⟩
end
/-- The image of a letter under a word, and its section there. -/
def atX (m : Mach) (l s : Nat) : List Int → Nat → Nat
  | [], x => x
  | k :: t, x => atX m l s t (apO m l s k x)
def atS (m : Mach) (l s : Nat) : List Int → Nat → List Int
  | [], _ => []
  | k :: t, x => apN m l s k x :: atS m l s t (apO m l s k x)
section
variable {m : Mach} {l s : Nat}
theorem atX_snoc (u : List Int) (k : Int) : ∀ x, atX m l s (u ++ [k]) x = apO m l s k (atX m l s u x) := by
  induction u with
  | nil => intro x; rfl
  | cons a t ih => intro x; exact ih _
theorem atS_snoc (u : List Int) (k : Int) : ∀ x, atS m l s (u ++ [k]) x = atS m l s u x ++ [apN m l s k (atX m l s u x)] := by
  induction u with
  | nil => intro x; rfl
  | cons a t ih => intro x; show _ :: atS m l s (t ++ [k]) _ = _; rw [ih]; rfl
theorem atS_length (u : List Int) : ∀ x, (atS m l s u x).length = u.length := by
  induction u with
  | nil => intro x; rfl
  | cons a t ih => intro x; show (atS m l s t _).length + 1 = _; rw [ih]; rfl
theorem atX_lt (g : Good m l s) : ∀ (u : List Int) (x : Nat), (∀ k ∈ u, isNum s k) → x < l → atX m l s u x < l
  | [], x, _, hx => hx
  | k :: t, x, h, hx => atX_lt g t _ (fun j hj => h j (List.mem_cons_of_mem _ hj)) (apO_lt g (h k List.mem_cons_self) hx)
theorem atS_num (g : Good m l s) : ∀ (u : List Int) (x : Nat), (∀ k ∈ u, isNum s k) → x < l → ∀ k ∈ atS m l s u x, isNum s k
  | [], _, _, _, k, hk => by simp [atS] at hk
  | a :: t, x, h, hx, k, hk => by
    rcases List.mem_cons.1 hk with rfl | hk
    · exact apN_num g (h a List.mem_cons_self) hx
    · exact atS_num g t _ (fun j hj => h j (List.mem_cons_of_mem _ hj)) (apO_lt g (h a List.mem_cons_self) hx) k hk
end
/-- The image of a word under a group word, and its section there. -/
def imgW (m : Mach) (l s : Nat) : List Int → List Nat → List Nat
  | _, [] => []
  | g, x :: t => atX m l s g x :: imgW m l s (atS m l s g x) t
def secW (m : Mach) (l s : Nat) : List Int → List Nat → List Int
  | g, [] => g
  | g, x :: t => secW m l s (atS m l s g x) t
section
variable {m : Mach} {l s : Nat}
theorem imgW_length (u : List Nat) : ∀ g, (imgW m l s g u).length = u.length := by
  induction u with
  | nil => intro g; rfl
  | cons a t ih => intro g; show (imgW m l s _ t).length + 1 = _; rw [ih]; rfl
theorem secW_snoc (u : List Nat) (x : Nat) : ∀ g, secW m l s g (u ++ [x]) = atS m l s (secW m l s g u) x := by
  induction u with
  | nil => intro g; rfl
  | cons a t ih => intro g; exact ih _
theorem imgW_snoc (u : List Nat) (x : Nat) : ∀ g, imgW m l s g (u ++ [x]) = imgW m l s g u ++ [atX m l s (secW m l s g u) x] := by
  induction u with
  | nil => intro g; rfl
  | cons a t ih => intro g; show _ :: imgW m l s _ (t ++ [x]) = _; rw [ih]; rfl
theorem secW_length (u : List Nat) : ∀ g, (secW m l s g u).length = g.length := by
  induction u with
  | nil => intro g; rfl
  | cons a t ih => intro g; show (secW m l s _ t).length = _; rw [ih, atS_length]
theorem secW_num (gd : Good m l s) : ∀ (u : List Nat) (g : List Int), (∀ k ∈ g, isNum s k) → (∀ x ∈ u, x < l) → ∀ k ∈ secW m l s g u, isNum s k
  | [], g, h, _ => h
  | x :: t, g, h, hu => secW_num gd t _ (atS_num gd g x h (hu x List.mem_cons_self)) (fun y hy => hu y (List.mem_cons_of_mem _ hy))
theorem imgW_lt (gd : Good m l s) : ∀ (u : List Nat) (g : List Int), (∀ k ∈ g, isNum s k) → (∀ x ∈ u, x < l) → ∀ y ∈ imgW m l s g u, y < l
  | [], _, _, _, y, hy => by simp [imgW] at hy
  | x :: t, g, h, hu, y, hy => by
    rcases List.mem_cons.1 hy with rfl | hy
    · exact atX_lt gd g x h (hu x List.mem_cons_self)
    · exact imgW_lt gd t _ (atS_num gd g x h (hu x List.mem_cons_self)) (fun z hz => hu z (List.mem_cons_of_mem _ hz)) y hy
end
/-- A list as far as it is written. -/
def wr0 (l : List Int) (n : Nat) : List Int := l ++ List.replicate (n - l.length) 0
theorem wr0_length (l : List Int) (n : Nat) (h : l.length ≤ n) : (wr0 l n).length = n := by simp [wr0]; omega
theorem wr0_set (l : List Int) (n : Nat) (h : l.length < n) (v : Int) : (wr0 l n).set l.length v = wr0 (l ++ [v]) n := by
  unfold wr0
  rw [List.set_append_right _ _ (Nat.le_refl _), Nat.sub_self, show n - l.length = (n - (l ++ [v]).length) + 1 by simp; omega, List.replicate_succ, List.set_cons_zero, List.append_assoc]
  rfl
theorem wr0_full (l : List Int) : wr0 l l.length = l := by simp [wr0]
theorem wr0_nil (n : Nat) : ints (wr0 [] n) = List.replicate n (.int .i64 0) := by simp [wr0, ints]

/-- What is needed of a group's block. -/
def GM (w : World) (G : Nat) (m : Mach) (l s : Nat) (v1 v2 : Value) : Prop := w.heap[G]? = some (.cells (gcells m (inv m l s) v1 v2) 221 (0, 0))
section
variable {w w' : World} {G : Nat} {m : Mach} {l s : Nat} {v1 v2 : Value}
theorem GrB.gm {base : Nat} (h : GrB w G base m l s v1 v2) : GM w G m l s v1 v2 := h.blk
theorem GM.lt (h : GM w G m l s v1 v2) : G < w.heap.size := (Array.getElem?_eq_some_iff.1 h).1
theorem GM.below (h : GM w G m l s v1 v2) (hb : Below w.heap.size w w') : GM w' G m l s v1 v2 := (hb.block G h.lt).trans h
theorem GM.cL (h : GM w G m l s v1 v2) : w.cell? ⟨G, 0, none⟩ = some (.int .i64 m.L) := (cell_of_row w G 0 _ _ _ h).trans (gcells_m 0 (by omega))
theorem GM.cnx (h : GM w G m l s v1 v2) (q x : Nat) (hq : q < 16) (hx : x < 3) : w.cell? ⟨G, 2 + q * 3 + x, none⟩ = some (.int .u8 (m.nx (q * 3 + x) : Nat)) := by
  rw [cell_of_row w G _ _ _ _ h, gcells_m _ (by omega), mf_nx m q x hq hx]
theorem GM.cot (h : GM w G m l s v1 v2) (q x : Nat) (hq : q < 16) (hx : x < 3) : w.cell? ⟨G, 50 + q * 3 + x, none⟩ = some (.int .u8 (m.ot (q * 3 + x) : Nat)) := by
  rw [cell_of_row w G _ _ _ _ h, gcells_m _ (by omega), mf_ot m q x]
theorem GM.bnx (h : GM w G m l s v1 v2) (q x : Nat) (hq : q < 16) (hx : x < 3) : w.cell? ⟨G, 100 + q * 3 + x, none⟩ = some (.int .u8 ((inv m l s).nx (q * 3 + x) : Nat)) := by
  rw [show 100 + q * 3 + x = 98 + (2 + q * 3 + x) by omega, cell_of_row w G _ _ _ _ h, gcells_k _ (by omega), mf_nx _ q x hq hx]
theorem GM.bot (h : GM w G m l s v1 v2) (q x : Nat) (hq : q < 16) (hx : x < 3) : w.cell? ⟨G, 148 + q * 3 + x, none⟩ = some (.int .u8 ((inv m l s).ot (q * 3 + x) : Nat)) := by
  rw [show 148 + q * 3 + x = 98 + (50 + q * 3 + x) by omega, cell_of_row w G _ _ _ _ h, gcells_k _ (by omega), mf_ot _ q x]
end
theorem next_0 (G : Nat) (w : World) (q x v : Nat) (hq : q < 16) (hx : x < 3) (hk : v < 256) (h1 : w.cell? ⟨G, 2 + q * 3 + x, none⟩ = some (.int .u8 (v : Nat))) :
    Calls Try.prog 184 #[.pointer (some ⟨G, 0, none⟩), .int .i64 q, .int .i64 x] w fun e w' => e = .returned (.int .i64 (v : Nat)) ∧ w = w' := by
  go_enter Try.func184, Try.ntmps184
  go_wp2
  go_ret
  exact ⟨by simp, rfl⟩
theorem next_98 (G : Nat) (w : World) (q x v : Nat) (hq : q < 16) (hx : x < 3) (hk : v < 256) (h1 : w.cell? ⟨G, 100 + q * 3 + x, none⟩ = some (.int .u8 (v : Nat))) :
    Calls Try.prog 184 #[.pointer (some ⟨G, 98, none⟩), .int .i64 q, .int .i64 x] w fun e w' => e = .returned (.int .i64 (v : Nat)) ∧ w = w' := by
  go_enter Try.func184, Try.ntmps184
  go_wp2
  go_ret
  exact ⟨by simp, rfl⟩
theorem out_0 (G : Nat) (w : World) (q x v : Nat) (hq : q < 16) (hx : x < 3) (hk : v < 256) (h1 : w.cell? ⟨G, 50 + q * 3 + x, none⟩ = some (.int .u8 (v : Nat))) :
    Calls Try.prog 185 #[.pointer (some ⟨G, 0, none⟩), .int .i64 q, .int .i64 x] w fun e w' => e = .returned (.int .i64 (v : Nat)) ∧ w = w' := by
  go_enter Try.func185, Try.ntmps185
  go_wp2
  go_ret
  exact ⟨by simp, rfl⟩
theorem out_98 (G : Nat) (w : World) (q x v : Nat) (hq : q < 16) (hx : x < 3) (hk : v < 256) (h1 : w.cell? ⟨G, 148 + q * 3 + x, none⟩ = some (.int .u8 (v : Nat))) :
    Calls Try.prog 185 #[.pointer (some ⟨G, 98, none⟩), .int .i64 q, .int .i64 x] w fun e w' => e = .returned (.int .i64 (v : Nat)) ∧ w = w' := by
  go_enter Try.func185, Try.ntmps185
  go_wp2
  go_ret
  exact ⟨by simp, rfl⟩
set_option maxHeartbeats 2000000 in
set_option maxRecDepth 100000 in
theorem apply_any (w : World) (G : Nat) (m : Mach) (l s : Nat) (g : Good m l s) (v1 v2 : Value) (hG : GM w G m l s v1 v2) (k : Int) (hk : isNum s k) (x : Nat) (hx : x < l) :
    Calls Try.prog 232 #[.pointer (some ⟨G, 0, none⟩), .int .i64 k, .int .i64 x] w fun e w' => e = .returned (.tuple #[.int .i64 (apO m l s k x : Nat), .int .i64 (apN m l s k x)]) ∧ ∃ d, w' = w.drewN d := by
  obtain ⟨q, hq, rfl | rfl⟩ := isNum_cases hk
  · rw [apO_pos, apN_pos]
    have s16 := g.s16; have l3 := g.l3
    have ho := hid (fun n => out_0 G (w.drewN n) q x (m.ot (q * 3 + x)) (by omega) (by omega) (by have := g.ot q x hq hx; omega) (hG.cot q x (by omega) (by omega)))
    have hn := hid (fun n => next_0 G (w.drewN n) q x (m.nx (q * 3 + x)) (by omega) (by omega) (by have := g.nx q x hq hx; omega) (hG.cnx q x (by omega) (by omega)))
    have hnl := g.nx q x hq hx
    have e1 : IntKind.i64.wrap ((q : Int) + 1 - 1) = (q : Int) := by rw [IntWalk.i64_in _ (by omega)]; omega
    have e2 : IntKind.i64.wrap ((m.nx (q * 3 + x) : Int) + 1) = (m.nx (q * 3 + x) : Int) + 1 := IntWalk.i64_in _ (by omega)
    have d1 : decide ((0 : Int) < (q : Int) + 1) = true := decide_eq_true (by omega)
    have e3 : (q : Int) + 1 - 1 = q := by omega
    generalize m.ot (q * 3 + x) = ot at *
    generalize m.nx (q * 3 + x) = nx at *
    clear hk hG g
    go_enter Try.func232, Try.ntmps232
    go_upto_region 2 with (fail)
    go_quiet (first
      | (go_at_call 185; exact quiet_same (ho.out _))
      | (go_at_call 184; exact quiet_same (hn.out _)))
    go_wp2
    go_ret2
    exact ⟨rfl, _, rfl⟩
  · rw [apO_neg, apN_neg]
    have s16 := g.s16; have l3 := g.l3
    have gI := inv_good g
    have ho := hid (fun n => out_98 G (w.drewN n) q x ((inv m l s).ot (q * 3 + x)) (by omega) (by omega) (by have := gI.ot q x hq hx; omega) (hG.bot q x (by omega) (by omega)))
    have hn := hid (fun n => next_98 G (w.drewN n) q x ((inv m l s).nx (q * 3 + x)) (by omega) (by omega) (by have := gI.nx q x hq hx; omega) (hG.bnx q x (by omega) (by omega)))
    have hnl := gI.nx q x hq hx
    have e1 : IntKind.i64.wrap (-(-((q : Int) + 1))) = (q : Int) + 1 := by rw [IntWalk.i64_in _ (by omega)]; omega
    have e2 : IntKind.i64.wrap (-((inv m l s).nx (q * 3 + x) : Int)) = -((inv m l s).nx (q * 3 + x) : Int) := IntWalk.i64_in _ (by omega)
    have e4 : IntKind.i64.wrap (-((inv m l s).nx (q * 3 + x) : Int) - 1) = -((inv m l s).nx (q * 3 + x) : Int) - 1 := IntWalk.i64_in _ (by omega)
    have d1 : decide ((0 : Int) < -((q : Int) + 1)) = false := decide_eq_false (by omega)
    have e3 : (q : Int) + 1 - 1 = q := by omega
    generalize (inv m l s).ot (q * 3 + x) = ot at *
    generalize (inv m l s).nx (q * 3 + x) = nx at *
    obtain ⟨kk, hkk⟩ : ∃ kk : Int, kk = -((q : Int) + 1) := ⟨_, rfl⟩
    rw [← hkk] at d1 e1 ⊢
    clear hk hG g gI
    replace hkk := hid hkk
    go_enter Try.func232, Try.ntmps232
    go_upto_region 3 with (fail)
    go_quiet (first
      | (go_at_call 185; exact quiet_same (ho.out _))
      | (go_at_call 184; exact quiet_same (hn.out _)))
    go_wp2
    go_ret2
    exact ⟨rfl, _, rfl⟩
end Go.Proofs.Ytbmkkaecfogmoaa

/- The program's group.at and group.image. -/
namespace Go.Proofs.Ytbmkkaecfogmoaa
open Go.RowKit
set_option linter.unusedVariables false
set_option linter.unusedSimpArgs false
-- @LONG

set_option maxHeartbeats 2000000 in
set_option maxRecDepth 100000 in
theorem at_any (w : World) (G : Nat) (m : Mach) (l s : Nat) (g : Good m l s) (v1 v2 : Value) (hG : GM w G m l s v1 v2) (base : Nat) (v : Value) (u : List Int) (hu : Own w base 2 v (ints u)) (hn : ∀ k ∈ u, isNum s k) (hul : u.length ≤ 1000) (x : Nat) (hx : x < l) :
    Calls Try.prog 158 #[.pointer (some ⟨G, 0, none⟩), v, .int .i64 x] w fun e w' => ∃ v', e = .returned (.tuple #[.int .i64 (atX m l s u x : Nat), v']) ∧ Own w' w.heap.size 2 v' (ints (atS m l s u x)) ∧ Below w.heap.size w w' := by
  have hil := ints_length u
  obtain ⟨A, c, rfl, _, _⟩ := hu.form
  rw [hil] at hu ⊢
  have hcell := hid (fun (k : Nat) (y : Int) (hy : u[k]? = some y) => (show ∃ gA, A = some ⟨gA, 0, none⟩ ∧ ∀ W, Below w.heap.size w W → W.cell? ⟨gA, k, none⟩ = some (.int .i64 y) from by
    obtain ⟨g1, c2, he, _, hg1⟩ := hu.blk (fun e => by have h1 := congrArg List.length e; rw [hil] at h1; have h2 := (List.getElem?_eq_some_iff.1 hy).1; rw [List.length_nil] at h1; omega)
    injection he with e1 e2 e3
    subst e1
    exact ⟨g1, rfl, fun W hW => (hu.below hW).cellAt k _ (by simp [ints, hy])⟩))
  have hap := hid (fun W (hW : Below w.heap.size w W) k (hk : isNum s k) y (hy : y < l) => apply_any W G m l s g v1 v2 (hG.below hW) k hk y hy)
  have hmk := fun W : World => run_make_row' (P := Try.prog) 29 2 (.int .i64 0) 8 Try.underlying29 info_i64 rfl .i64 .i64 u.length (by omega) (by omega) W
  have hmc := hid (toList_madeCells_one (.int .i64 0) u.length)
  generalize madeCells #[.int .i64 0] u.length = mc at *
  have hmcs := hid (show mc.size = u.length by rw [← Array.length_toList, hmc.out, List.length_replicate])
  have hS := (St.start w).newArr mc u.length hmcs.out 2 (by omega)
  rw [hmc.out, ← wr0_nil u.length] at hS
  replace hS := hid hS
  have hsx := hid (fun i y (hy : u[i]? = some y) => (show u.take (i + 1) = u.take i ++ [y] from by rw [List.take_add_one, hy]; rfl))
  have hlt := hid (fun i => atX_lt g (u.take i) x (fun k hk => hn k (List.mem_of_mem_take hk)) hx)
  have hxs := hid (fun i y => atX_snoc (m := m) (l := l) (s := s) (u.take i) y x)
  have hss := hid (fun i y => atS_snoc (m := m) (l := l) (s := s) (u.take i) y x)
  have hsl := hid (fun i (hi : i ≤ u.length) => (show (atS m l s (u.take i) x).length = i from by rw [atS_length, List.length_take]; omega))
  have h0X := hid (show atX m l s u x = atX m l s (u.take u.length) x by rw [List.take_length])
  have h0S := hid (show atS m l s u x = wr0 (atS m l s (u.take u.length) x) u.length by rw [List.take_length]; have h := wr0_full (atS m l s u x); rw [atS_length] at h; exact h.symm)
  rw [h0X.out, h0S.out]
  replace hn := hid hn
  clear hu hil hG g hmc h0X h0S
  generalize hgo : w.heap.size = go at *
  replace hgo := hid hgo
  generalize hN : u.length = N at *
  replace hN := hid hN
  go_enter Try.func158, Try.ntmps158
  go_upto_region 2 with (fail)
  rw [hgo.out]
  generalize w.alloc (.cells mc 2) = W1 at *
  go_wp2
  go_loopw [2, 16] (fun y i wr => ∃ j : Nat, j ≤ N ∧ i = .int .i64 j ∧ y = .int .i64 (atX m l s (u.take j) x : Nat) ∧ St go w [Asn.own go 2 (.slice (some ⟨go, 0, none⟩) N N) (ints (wr0 (atS m l s (u.take j) x) N))] wr) (fun _ i _ => N - (intOf i).toNat)
  case atStart => exact ⟨0, Nat.zero_le _, rfl, rfl, hS.out⟩
  case round =>
    obtain ⟨j, hj, rfl, rfl, rS⟩ := hrel
    clear hS
    replace rS := hid rS
    by_cases hjN : j < N
    · obtain ⟨y, hy⟩ : ∃ y, u[j]? = some y := ⟨_, List.getElem?_eq_getElem (by rw [hN.out]; exact hjN)⟩
      obtain ⟨gA, rfl, hc⟩ := hcell.out j y hy
      have d1 := hc wr (by have h := rS.out.bel; exact h)
      have hyn := hid (hn.out y (List.mem_of_getElem? hy))
      have hcl := hid (fun W (hW : Below go w W) => hap.out W hW y hyn.out _ (hlt.out j))
      have hl1 := hid (show (ints (wr0 (atS m l s (u.take j) x) N)).length = N by rw [ints_length]; exact wr0_length _ _ (by rw [hsl.out j hj]; exact hj))
      have hl2 := hid (hsl.out j hj)
      have hset := hid (fun z => (show (ints (wr0 (atS m l s (u.take j) x) N)).set j (.int .i64 z) = ints (wr0 (atS m l s (u.take j) x ++ [z]) N) from by
        have h := wr0_set (atS m l s (u.take j) x) N (by rw [hl2.out]; exact hjN) z
        rw [hl2.out] at h
        rw [← h]; simp [ints, List.map_set]))
      have hX := hid ((congrArg (fun t => atX m l s t x) (hsx.out j y hy)).trans (hxs.out j y))
      have hSS := hid ((congrArg (fun t => atS m l s t x) (hsx.out j y hy)).trans (hss.out j y))
      obtain ⟨c0, hc0⟩ : ∃ z, (ints (wr0 (atS m l s (u.take j) x) N))[j]? = some z := ⟨_, List.getElem?_eq_getElem (by rw [hl1.out]; exact hjN)⟩
      have hco := hid (fun W (hW : St go w [Asn.own go 2 (.slice (some ⟨go, 0, none⟩) N N) (ints (wr0 (atS m l s (u.take j) x) N))] W) => (show W.cell? ⟨go, j, none⟩ = some c0 ∧ W.frozen? ⟨go, j, none⟩ = false from ⟨Own.cellAt hW.o0 j _ hc0, Own.frozenAt hW.o0 hl1.out j⟩))
      clear hc hy hc0
      generalize atX m l s (u.take j) x = xj at *
      generalize apO m l s y xj = xo at *
      generalize apN m l s y xj = xn at *
      go_wp2_with (first
        | (go_at_call 232; (with_reducible refine (hcl.out _ rS.out.bel).mono ?_); rintro e w3 ⟨rfl, d, rfl⟩; replace rS := hid (rS.out.drewN d); obtain ⟨co, fo⟩ := hco.out _ rS.out; generalize wr.drewN d = wd at *; replace rS := hid (rS.out.setOwn hl1.out j (.int .i64 xn) hjN)))
      rw [hset.out, ← hSS.out] at rS
      go_roundw
      case rel => exact ⟨j + 1, by omega, by go_num, by rw [hX.out], rS.out⟩
      case measure => simp [intOf]; omega
    · obtain rfl : j = N := by omega
      go_wp2
      go_ret2
      exact ⟨_, rfl, rS.out.o0, rS.out.bel⟩
end Go.Proofs.Ytbmkkaecfogmoaa

/- The program's group.image. -/
namespace Go.Proofs.Ytbmkkaecfogmoaa
open Go.RowKit
set_option linter.unusedVariables false
set_option linter.unusedSimpArgs false
-- @LONG

/-- A row of digits as far as it is written. -/
def Asn.dig (b n : Nat) (u : List Nat) : Asn := ⟨fun k => k = b, fun w => w.rowIs b 5 n (dgs u), fun h hk => World.rowIs.of_block h (hk b rfl), fun h k hk => hk ▸ World.rowIs.lt h⟩
section
variable {w w0 : World} {L : List Asn} {base b n : Nat} {u : List Nat}
theorem St.d0 (h : St base w0 (Asn.dig b n u :: L) w) : w.rowIs b 5 n (dgs u) := h.g0
theorem St.newDig (h : St base w0 L w) (n : Nat) : St base w0 (Asn.dig w.heap.size n [] :: L) (w.alloc (.cells (madeCells #[.int .u8 0] n) 5)) :=
  h.allocPush (a := Asn.dig w.heap.size n []) _ (World.rowIs.congr (World.rowIs_made w (.int .u8 0) n 5) (fun i hi => by unfold dgs; simp)) fun _ hk => hk
theorem St.setDig (h : St base w0 (Asn.dig b n u :: L) w) (hb : base ≤ b) (y : Nat) (i : Nat) (hi : u.length = i) : St base w0 (Asn.dig b n (u ++ [y]) :: L) (w.setCell ⟨b, i, none⟩ (.int .u8 (48 + (y : Int)))) := by
  subst hi
  exact h.turn (a' := Asn.dig b n (u ++ [y])) (World.rowIs.congr (World.rowIs.set h.d0 u.length _) (fun i hi => dgs_snoc u y i)) (fun k hk => .inl hk) (fun k hk => (show k = b from hk) ▸ hb) ((Below.refl _ _).setCell hb _)
    fun k _ hk => heap_setCell_other w ⟨b, u.length, none⟩ k _ hk
theorem St.own0 {t : Nat} {v : Value} {cs : List Value} {b0 : Nat} (h : St base w0 (Asn.own b0 t v cs :: L) w) : St base w0 (Asn.own 0 t v cs :: L) w :=
  ⟨h.bel, h.le, (show Own w b0 t v cs from h.star.1).mono (Nat.zero_le _), h.star.2.1, h.star.2.2⟩
/-- An argument's slice. -/
theorem St.arg {t : Nat} {v : Value} {cs : List Value} {b0 : Nat} (w : World) (h : Own w b0 t v cs) : St w.heap.size w [Asn.own 0 t v cs] w :=
  (St.start w).push (a := Asn.own 0 t v cs) (h.mono (Nat.zero_le _)) fun _ _ hF => hF
end

set_option maxHeartbeats 2000000 in
set_option maxRecDepth 100000 in
theorem image_any (w : World) (G : Nat) (m : Mach) (l s : Nat) (g : Good m l s) (v1 v2 : Value) (hG : GM w G m l s v1 v2) (base : Nat) (v : Value) (gw : List Int) (hgw : Own w base 2 v (ints gw)) (hn : ∀ k ∈ gw, isNum s k) (hgl : gw.length ≤ 1000) (u : List Nat) (hu : ∀ x ∈ u, x < l) (hlen : u.length ≤ 1000) :
    Calls Try.prog 153 #[.pointer (some ⟨G, 0, none⟩), v, .string (wstr u)] w fun e w' => ∃ v', e = .returned (.tuple #[.string (wstr (imgW m l s gw u)), v']) ∧ Own w' 0 2 v' (ints (secW m l s gw u)) ∧ Below w.heap.size w w' := by
  have hsz := wstr_size u
  have hmk := fun W : World => run_make_row' (P := Try.prog) 22 5 (.int .u8 0) 1 Try.underlying22 info_u8 rfl .i64 .i64 u.length (by omega) (by omega) W
  have hbyte := hid (fun k hk => wstr_byte u k hk (fun x hx => by have := hu x hx; have := g.l3; omega))
  have hS := hid ((St.arg w hgw).newDig u.length)
  have hat := hid (fun W (hW : Below w.heap.size w W) v (u' : List Int) (h1 : Own W 0 2 v (ints u')) (h2 : ∀ k ∈ u', isNum s k) (h3 : u'.length ≤ 1000) x (hx : x < l) => at_any W G m l s g v1 v2 (hG.below hW) 0 v u' h1 h2 h3 x hx)
  have hnum := hid (fun k => secW_num g (u.take k) gw hn (fun x hx => hu x (List.mem_of_mem_take hx)))
  have hsl := hid (fun k => secW_length (m := m) (l := l) (s := s) (u.take k) gw)
  have hil := hid (fun k (hk : k ≤ u.length) => (show (imgW m l s gw (u.take k)).length = k by rw [imgW_length, List.length_take]; omega))
  have hse := hid (fun k x => secW_snoc (m := m) (l := l) (s := s) (u.take k) x gw)
  have him := hid (fun k x => imgW_snoc (m := m) (l := l) (s := s) (u.take k) x gw)
  have hlt := hid (fun k x (hx : x < l) => atX_lt g (secW m l s gw (u.take k)) x (hnum.out k) hx)
  have l3 := g.l3
  have hgo := hid (Nat.le_refl w.heap.size)
  replace hu := hid hu
  replace hn := hid hn
  have h0X := hid (show imgW m l s gw u = imgW m l s gw (u.take u.length) by rw [List.take_length])
  have h0S := hid (show secW m l s gw u = secW m l s gw (u.take u.length) by rw [List.take_length])
  rw [h0X.out, h0S.out]
  clear hG g hgw h0X h0S
  generalize hws : wstr u = ws at *
  replace hws := hid hws
  generalize madeCells #[.int .u8 0] u.length = mc at *
  generalize hgoe : w.heap.size = go at *
  replace hgoe := hid hgoe
  generalize hN : u.length = N at *
  replace hN := hid hN
  go_enter Try.func153, Try.ntmps153
  go_upto_region 2 with (fail)
  rw [hgoe.out]
  generalize w.alloc (.cells mc 5) = W1 at *
  go_wp2
  clear hmk
  go_loopw [1, 16] (fun v i wr => ∃ k : Nat, k ≤ N ∧ i = .int .i64 k ∧ St go w [Asn.dig go N (imgW m l s gw (u.take k)), Asn.own 0 2 v (ints (secW m l s gw (u.take k)))] wr) (fun _ i _ => N - (intOf i).toNat)
  case atStart => exact ⟨0, Nat.zero_le _, rfl, hS.out⟩
  case round =>
    obtain ⟨k, hk, rfl, rS⟩ := hrel
    clear hS
    replace rS := hid rS
    by_cases hkN : k < N
    · have hx := hu.out _ (getD_mem u k (by rw [hN.out]; exact hkN))
      have hb := hbyte.out k (by omega)
      have htk := take_snoc' u k (by rw [hN.out]; exact hkN)
      have hsn := hid ((congrArg (fun t => secW m l s gw t) htk).trans (hse.out k (u.getD k 0)))
      have hin := hid ((congrArg (fun t => imgW m l s gw t) htk).trans (him.out k (u.getD k 0)))
      have hlk := hid (hil.out k hk)
      have hcl := hid (fun W (hW : Below go w W) v (h1 : Own W 0 2 v (ints (secW m l s gw (u.take k)))) => hat.out W hW v _ h1 (hnum.out k) (by rw [hsl.out k]; exact hgl) _ hx)
      have hlx := hlt.out k _ hx
      have e2 : ((u.getD k 0 : Nat) : Int) % 256 = (u.getD k 0 : Nat) := by omega
      have hco := hid (fun (W : World) (hW : W.rowIs go 5 N (dgs (imgW m l s gw (u.take k)))) => (show ∃ c0, W.cell? ⟨go, k, none⟩ = some c0 ∧ W.frozen? ⟨go, k, none⟩ = false from ⟨_, hW.cell hkN, hW.frozen k⟩))
      clear htk hx
      generalize imgW m l s gw (u.take k) = im at *
      generalize secW m l s gw (u.take k) = se at *
      generalize u.getD k 0 = x at *
      have e1 : 48 + (x : Int) - 48 = x := by omega
      generalize hy : atX m l s se x = y at *
      replace hy := hid hy
      go_wp2_with (first
        | (go_at_call 158; (with_reducible refine (hcl.out _ rS.out.bel _ rS.out.o1).mono ?_); rintro e w3 ⟨v', rfl, hO, hb2⟩; replace rS := hid (rS.out.callOwn hb2 hO).own0; clear hO hb2; obtain ⟨c0, co, fo⟩ := hco.out _ rS.out.f1.d0)
        | (go_at_call 189; (with_reducible refine (letter_any y (by omega) _).mono ?_); rintro e w1 ⟨rfl, rfl⟩))
      replace rS := hid (rS.out.f1.setDig (Nat.le_of_eq rfl) y k hlk.out)
      rw [← hin.out] at rS
      go_roundw
      case rel => exact ⟨k + 1, by omega, by go_num, by rw [hsn.out]; exact ⟨rS.out.bel, rS.out.le, rS.out.g0, fun k hk hF => rS.out.star.2.1 k hk (hF.elim .inl fun h => h.elim), rS.out.g1, fun k hk hF => hF, trivial⟩⟩
      case measure => simp [intOf]; omega
    · obtain rfl : k = N := by omega
      have hconv := conv_dgs (hil.out k (Nat.le_refl _)) rS.out.d0
      go_wp2
      go_ret2
      exact ⟨_, rfl, rS.out.o1, rS.out.bel⟩
end Go.Proofs.Ytbmkkaecfogmoaa

/- The program's groupOf. -/
namespace Go.Proofs.Ytbmkkaecfogmoaa
open Go.RowKit
set_option linter.unusedVariables false
set_option linter.unusedSimpArgs false
-- @LONG

open Classical in
/-- Some list is no group word. -/
noncomputable def badGw (m : Mach) (g : List Int) : Bool := decide (¬ IsGw m g)
set_option maxHeartbeats 1000000 in
theorem gof1_any (b : Nat) (w : World) (m : Mach) (hk : m.Ok) (hm : MB w 27 b m) (base : Nat) (v : Value) (g : List Int) (h : Own w base 2 v (ints g)) (hl : g.length < 2000000) :
    Calls Try.prog 225 #[v, .pointer (some ⟨b, 0, none⟩)] w fun e w' => e = .returned (.bool (badGw m g)) ∧ Below w.heap.size w w' := by
  classical
  have hi := hid (IsGroupWord_any w m hk base v g h hl (decide (IsGw m g)) decide_eq_true_iff)
  have hb := hid (show badGw m g = !decide (IsGw m g) from by unfold badGw; simp)
  rw [hb.out]
  replace hm := hid hm
  clear h hb
  generalize decide (IsGw m g) = r at *
  go_enter Try.func225, Try.ntmps225
  go_wp2_with (first
    | ((with_reducible refine gate (N := 4) rfl ?_); refine load_mach rfl _ rfl b rfl m hm.out ?_)
    | (go_at_call 48; (with_reducible refine (hi.out).mono ?_); rintro e w1 ⟨rfl, hb⟩; have hB := hid hb; clear hb))
  go_ret
  exact ⟨rfl, hB.out⟩
set_option maxHeartbeats 1000000 in
set_option maxRecDepth 100000 in
theorem indexFuncM_gof (b : Nat) (w : World) (base : Nat) (v : Value) (M : List (List Int)) (h : Mat w base v M) (hl : M.length < 2000000) (p : List Int → Bool)
    (hcall : ∀ W, Below w.heap.size w W → ∀ r row, row ∈ M → Own W base 2 r (ints row) → Calls Try.prog 225 #[r, .pointer (some ⟨b, 0, none⟩)] W fun e w' => e = .returned (.bool (p row)) ∧ Below W.heap.size W w') :
    Calls Try.prog 190 #[v, .func (.func 225) #[] #[.pointer (some ⟨b, 0, none⟩)]] w fun e w' => e = .returned (.int .i64 (idxP p M 0)) ∧ Below w.heap.size w w' := by
  obtain ⟨rows, hO, hrl, hrow⟩ := h
  obtain ⟨A1, c1, rfl, _, _⟩ := hO.form
  rw [hrl] at hO ⊢
  have hcell := hid (fun (k : Nat) (x : List Int) (hx : M[k]? = some x) => (show ∃ g r, A1 = some ⟨g, 0, none⟩ ∧ ∀ W, Below w.heap.size w W → W.cell? ⟨g, k, none⟩ = some r ∧ Own W base 2 r (ints x) from by
    have hk := (List.getElem?_eq_some_iff.1 hx).1
    obtain ⟨g1, c2, he, _, hg1⟩ := hO.blk (fun e => by rw [e] at hrl; rw [← hrl] at hk; simp at hk)
    injection he with e1 e2 e3
    subst e1
    obtain ⟨r, hr⟩ : ∃ r, rows[k]? = some r := ⟨_, List.getElem?_eq_getElem (by rw [hrl]; exact hk)⟩
    exact ⟨g1, r, rfl, fun W hW => ⟨(hO.below hW).cellAt k _ hr, (hrow k r x hr hx).below hW⟩⟩))
  replace hcall := hid hcall
  clear hO hrow
  obtain ⟨R, hR⟩ : ∃ R, R = idxP p M 0 := ⟨_, rfl⟩
  rw [← hR]
  replace hR := hid hR
  generalize hn : M.length = n at *
  replace hn := hid hn
  go_enter Try.func190, Try.ntmps190
  go_wp2
  go_loopw [8] (fun i wr => ∃ k : Nat, k ≤ n ∧ i = .int .i64 k ∧ Hid (R = idxP p (M.drop k) k) ∧ Below w.heap.size w wr) (fun i _ => n - (intOf i).toNat)
  case atStart => exact ⟨0, Nat.zero_le _, rfl, hR, Below.refl _ _⟩
  case round =>
    obtain ⟨k, hk, rfl, hA, rB⟩ := hrel
    clear hR
    replace rB := hid rB
    by_cases hlt : k < n
    · obtain ⟨x, hx⟩ : ∃ x, M[k]? = some x := ⟨_, List.getElem?_eq_getElem (by rw [hn.out]; exact hlt)⟩
      obtain ⟨g, r, rfl, hc⟩ := hcell.out k x hx
      have d1 := (hc wr rB.out).1
      have hcl := hid (hcall.out wr rB.out r x (List.mem_of_getElem? hx) (hc wr rB.out).2)
      have hT := hid (fun hp => idxP_drop_t (p := p) hx hp k)
      have hF := hid (fun hp => idxP_drop_f (p := p) hx hp k)
      clear hc hx
      cases hp : p x with
      | true =>
        rw [hp] at hcl
        have hA2 := hid (hA.out.trans (hT.out hp))
        clear hp hT hF
        go_wp2_with (first
          | (go_at_call 225; (with_reducible refine (hcl.out).mono ?_); rintro e w1 ⟨rfl, hb⟩; replace rB := hid (rB.out.trans (hb.mono rB.out.size)); clear hb))
        go_ret
        exact ⟨retI (by rw [hA2.out]), rB.out⟩
      | false =>
        rw [hp] at hcl
        have hA2 := hid (hA.out.trans (hF.out hp))
        clear hp hT hF
        go_wp2_with (first
          | (go_at_call 225; (with_reducible refine (hcl.out).mono ?_); rintro e w1 ⟨rfl, hb⟩; replace rB := hid (rB.out.trans (hb.mono rB.out.size)); clear hb))
        go_roundw
        case rel => exact ⟨k + 1, by omega, by go_num, hA2, rB.out⟩
        case measure => simp [intOf]; omega
    · obtain rfl : k = n := by omega
      have hA2 := hid (hA.out.trans (show _ = (-1 : Int) by rw [List.drop_eq_nil_of_le (by rw [hn.out]; exact Nat.le_refl _)]; rfl))
      go_wp2
      go_ret
      exact ⟨retI (by rw [hA2.out]), rB.out⟩
set_option maxHeartbeats 1000000 in
theorem containsFuncM_gof (b : Nat) (w : World) (base : Nat) (v : Value) (M : List (List Int)) (h : Mat w base v M) (hl : M.length < 2000000) (p : List Int → Bool)
    (hcall : ∀ W, Below w.heap.size w W → ∀ r row, row ∈ M → Own W base 2 r (ints row) → Calls Try.prog 225 #[r, .pointer (some ⟨b, 0, none⟩)] W fun e w' => e = .returned (.bool (p row)) ∧ Below W.heap.size W w') :
    Calls Try.prog 206 #[v, .func (.func 225) #[] #[.pointer (some ⟨b, 0, none⟩)]] w fun e w' => e = .returned (.bool (M.any p)) ∧ Below w.heap.size w w' := by
  have hi := hid (indexFuncM_gof b w base v M h hl p hcall)
  have ha := hid (idxP_any p M 0 (Int.le_refl _))
  clear hcall h hl
  generalize idxP p M 0 = r at *
  generalize M.any p = c at *
  go_enter Try.func206, Try.ntmps206
  go_wp2_with (first
    | (go_at_call 190; (with_reducible refine (hi.out).mono ?_); rintro e w1 ⟨rfl, hb⟩; replace hb := hid hb))
  go_ret
  refine ⟨retB ?_, hb.out⟩
  have h := ha.out
  rw [Bool.eq_iff_iff, ← h]
  simp

set_option maxHeartbeats 2000000 in
set_option maxRecDepth 4000 in
/-- No group. -/
theorem groupOf_n (w : World) (m : Mach) (hk : m.Ok) (base : Nat) (v : Value) (M : List (List Int)) (h : Mat w base v M) (hl : M.length < 2000000) (hlr : ∀ row ∈ M, row.length < 2000000) (hbad : ¬ IsM m ∨ ∃ row ∈ M, ¬ IsGw m row) :
    Calls Try.prog 146 #[.agg (mcells m), v] w fun e w' => e = .returned (.tuple #[.pointer none, .int .i64 1]) ∧ Below w.heap.size w w' := by
  have hS := hid ((St.start w).newMB m 27)
  have hmf : ∀ (fn : Fn) (first cap : Array Value) (w : World), (Instr.makeFunc fn first cap).run Try.prog w = .ok (.func fn first cap) w := fun _ _ _ _ => rfl
  by_cases hm : IsM m
  · have hi := hid (fun W => IsMachine_any W m hk true ⟨fun _ => hm, fun _ => rfl⟩)
    have hany : M.any (badGw m) = true := by
      obtain ⟨row, hr, hb⟩ := hbad.resolve_left (fun h => h hm)
      rw [List.any_eq_true]
      exact ⟨row, hr, by unfold badGw; simpa using hb⟩
    have hc := hid (fun W (hW : Below w.heap.size w W) (hmb : MB W 27 w.heap.size m) => (by
      have h1 := containsFuncM_gof w.heap.size W base v M (h.below hW) hl (badGw m) (fun W' hW' r row hr hO => gof1_any w.heap.size W' m hk (hmb.below hW' hmb.lt) base r row hO (hlr row hr))
      rw [hany] at h1; exact h1 : Calls Try.prog 206 #[v, .func (.func 225) #[] #[.pointer (some ⟨w.heap.size, 0, none⟩)]] W fun e w' => e = .returned (.bool true) ∧ Below W.heap.size W w'))
    replace hk := hid hk; replace h := hid h; clear hbad hany hm
    go_enter Try.func146, Try.ntmps146
    go_wp2_with (first
      | ((with_reducible refine gate (N := 6) rfl ?_); refine load_mach rfl _ rfl w.heap.size rfl m hS.out.m0 ?_)
      | (go_at_call 65; (with_reducible refine (hi.out _).mono ?_); rintro e w1 ⟨rfl, hb⟩; replace hS := hid (hS.out.call hb); clear hb)
      | (go_at_call 206; (with_reducible refine (hc.out _ hS.out.bel hS.out.m0).mono ?_); rintro e w2 ⟨rfl, hb⟩; replace hS := hid (hS.out.call hb); clear hb))
    go_ret2
    exact ⟨rfl, hS.out.bel⟩
  · have hi := hid (fun W => IsMachine_any W m hk false ⟨fun h => (by cases h), fun h => absurd h hm⟩)
    replace hk := hid hk; replace h := hid h; clear hbad hm
    go_enter Try.func146, Try.ntmps146
    go_wp2_with (first
      | ((with_reducible refine gate (N := 6) rfl ?_); refine load_mach rfl _ rfl w.heap.size rfl m hS.out.m0 ?_)
      | (go_at_call 65; (with_reducible refine (hi.out _).mono ?_); rintro e w1 ⟨rfl, hb⟩; replace hS := hid (hS.out.call hb); clear hb))
    go_ret2
    exact ⟨rfl, hS.out.bel⟩

set_option maxHeartbeats 2000000 in
set_option maxRecDepth 4000 in
/-- The group. -/
theorem groupOf_y (w : World) (m : Mach) (hk : m.Ok) (base : Nat) (v : Value) (M : List (List Int)) (h : Mat w base v M) (hl : M.length < 2000000) (hlr : ∀ row ∈ M, row.length < 2000000) (l s : Nat) (g : Good m l s) (hall : ∀ row ∈ M, IsGw m row) :
    Calls Try.prog 146 #[.agg (mcells m), v] w fun e w' => ∃ G v1 v2, e = .returned (.tuple #[.pointer (some ⟨G, 0, none⟩), .int .i64 0]) ∧ w.heap.size ≤ G ∧ GrB w' G w.heap.size m l s v1 v2 ∧ Below w.heap.size w w' := by
  have hS := hid ((St.start w).newMB m 27)
  have hmf : ∀ (fn : Fn) (first cap : Array Value) (w : World), (Instr.makeFunc fn first cap).run Try.prog w = .ok (.func fn first cap) w := fun _ _ _ _ => rfl
  have hi := hid (fun W => IsMachine_any W m hk true ⟨fun _ => g.isM, fun _ => rfl⟩)
  have hany : M.any (badGw m) = false := by
    rw [List.any_eq_false]
    intro row hr
    unfold badGw; simpa using hall row hr
  have hc := hid (fun W (hW : Below w.heap.size w W) (hmb : MB W 27 w.heap.size m) => (by
    have h1 := containsFuncM_gof w.heap.size W base v M (h.below hW) hl (badGw m) (fun W' hW' r row hr hO => gof1_any w.heap.size W' m hk (hmb.below hW' hmb.lt) base r row hO (hlr row hr))
    rw [hany] at h1; exact h1 : Calls Try.prog 206 #[v, .func (.func 225) #[] #[.pointer (some ⟨w.heap.size, 0, none⟩)]] W fun e w' => e = .returned (.bool false) ∧ Below W.heap.size W w'))
  have hng := hid (fun W => newGroup_any W m hk l s g)
  replace hk := hid hk; replace h := hid h; replace g := hid g; clear hall hany
  go_enter Try.func146, Try.ntmps146
  go_wp2_with (first
    | ((with_reducible refine gate (N := 6) rfl ?_); refine load_mach rfl _ rfl w.heap.size rfl m hS.out.m0 ?_)
    | ((with_reducible refine gate (N := 14) rfl ?_); refine load_mach rfl _ rfl w.heap.size rfl m hS.out.m0 ?_)
    | (go_at_call 65; (with_reducible refine (hi.out _).mono ?_); rintro e w1 ⟨rfl, hb⟩; replace hS := hid (hS.out.call hb); clear hb)
    | (go_at_call 206; (with_reducible refine (hc.out _ hS.out.bel hS.out.m0).mono ?_); rintro e w2 ⟨rfl, hb⟩; replace hS := hid (hS.out.call hb); clear hb)
    | (go_at_call 226; (with_reducible refine (hng.out _).mono ?_); rintro e w3 ⟨G, v1, v2, rfl, hle, hGB, hb⟩; have hle2 := hid (Nat.le_trans hS.out.le hle); have hGB2 := hid (GrB.mk hGB.blk (hGB.of.mono hS.out.le) (hGB.tr.mono hS.out.le)); replace hS := hid (hS.out.call hb); clear hb hle hGB))
  go_ret2
  exact ⟨G, v1, v2, rfl, hle2.out, hGB2.out, hS.out.bel⟩
end Go.Proofs.Ytbmkkaecfogmoaa

/- The reference's machines with any number of states. -/
namespace Go.Proofs.Ytbmkkaecfogmoaa
open Go.RowKit
set_option linter.unusedVariables false
set_option linter.unusedSimpArgs false

/-- An element of several cells appended, at a step of a region that draws: it lies in a box. -/
theorem St.stepN {ops : Array Oper} {o : Oper} {act : Act} {W w0 : World} {K : Act → World → Prop} {Q : Exit → Act → World → Prop} {E : Prop} {L : List Asn} {base : Nat} (t e tb : TypeId) (z : Value) (sz bytes : Nat)
    (ht : Try.prog.underlying t = some (.slice e)) (hinfo : (Try.prog.info? e).map (fun i => (i.zero, i.size, i.bytes)) = some (some z, sz, bytes)) (hz : z.cells.size = sz) (hsz : 0 < sz) (hb : bytes ≤ 64)
    (hgd : o.guard = none) (s x : Operand) (ho : o.op = .call { callee := .builtin .append, args := #[s, x], argTypes := #[t, t] })
    (v : Value) (n : Nat) (cs : List Value) (hs : act.eval s = v) {B : Nat} {news : List Value} (hS : St base w0 (Asn.ownN base e sz v n cs :: Asn.blk B news.toArray tb :: L) W) (hnl : news.length = sz) (hc1 : ∀ u ∈ news, u.oneCell' = true)
    (hx : act.eval x = .slice (some ⟨B, 0, none⟩) 1 1) (hlen : n ≤ 1000000)
    (h : ∀ g cap w', St base w0 (Asn.ownN base e sz (.slice (some ⟨g, 0, none⟩) (n + 1) cap) (n + 1) (cs ++ news) :: Asn.blk B news.toArray tb :: L) w' → K (act.put o.dst (.slice (some ⟨g, 0, none⟩) (n + 1) cap)) w') :
    if Region.wanted o (yielded ops act.tmps) = true then Oper.wp Try.prog o act W K Q else E := by
  obtain ⟨i, hi, hz0, hz1, hz2⟩ := info_parts hinfo
  have hw : Region.wanted o (yielded ops act.tmps) = true := by simp [Region.wanted, hgd]
  rw [if_pos hw]
  have hown : OwnN W base e sz v n cs := hS.star.1
  refine wp_append_lies W s x t ho base e i z sz bytes ht hi hz0 hz1 hz2 hz hsz v n cs hs hown ⟨B, 0, none⟩ 1 1 news hx (by rw [hnl, Nat.one_mul])
    (fun j u hu => ?_) hc1 (by omega) (by simp only [maxLen]; omega) (Nat.le_trans (Nat.mul_le_mul_left _ hb) (by omega)) hS.le _ rfl ?_
  · rw [Addr.add_mid, Nat.zero_add, cell_of_row W B j _ _ _ hS.star.2.2.1]
    simpa using hu
  · intro g cap w' h1 h2 h3 h4
    have hold : ∀ k, k < W.heap.size → v.ownBlock ≠ some k → w'.heap[k]? = W.heap[k]? := fun k hk hne => h2.block k hk (fun e => hne e.symm)
    exact h g cap w' (hS.appdN h1 ⟨h2.os, h2.tape, h2.output, h2.size, fun k hk => hold k (by have := hS.le; omega) (fun e => by have := (hown.lt k e).1; omega)⟩ hold (h3.imp id (fun e => Nat.le_of_eq e.symm)))

theorem OwnN.oneCell {w : World} {b e sz n : Nat} {v : Value} {cs : List Value} (h : OwnN w b e sz v n cs) : v.oneCell' = true := by
  rcases h.2 with ⟨rfl, _⟩ | ⟨g, cap, cur, rfl, _⟩ <;> rfl
/-- A struct or an array in a block of its own is handed back. -/
theorem ret_blk {P : Program} {fn : Func} {R : Ending → World → Prop} {a : Act} {w : World} {p ty : Nat} (h : fn.results = #[.cell p ty]) {g t : Nat} {cs : Array Value} {d : TypeDesc}
    (hp : a.tmps.getD p undef = .pointer (some ⟨g, 0, none⟩)) (hb : w.heap[g]? = some (.cells cs t (0, 0))) (hu : P.underlying ty = some d) (hd : (match d with | .struct _ | .array _ _ => true | _ => false) = true)
    (hi : (P.info? ty).map (·.size) = some cs.size) (hdf : a.defers = []) (hR : R (.returned (.agg cs)) w) : bodyPost P fn R .ret a w :=
  bodyPost_ret (results_cell_row h a.tmps w g t _ _ d hp hb hu hd hi) hdf hR

/-- The rows of a function as cells, three a row. -/
def rcs (k : IntKind) (f : Nat → Nat → Nat) (L n : Nat) : List Value := (List.range (n * 3)).map fun p => .int k ((if p % 3 < L then f (p / 3) (p % 3) else 0 : Nat) : Int)
def rc1 (k : IntKind) (f : Nat → Nat → Nat) (L q : Nat) : List Value := (List.range 3).map fun x => .int k ((if x < L then f q x else 0 : Nat) : Int)
theorem rcs_length (k : IntKind) (f : Nat → Nat → Nat) (L n : Nat) : (rcs k f L n).length = n * 3 := by simp [rcs]
theorem rc1_one (k : IntKind) (f : Nat → Nat → Nat) (L q : Nat) : ∀ u ∈ rc1 k f L q, u.oneCell' = true := by
  intro u hu
  obtain ⟨x, _, rfl⟩ := List.mem_map.1 hu
  rfl
theorem rc1_lit (k : IntKind) (f : Nat → Nat → Nat) (L q : Nat) : ∃ a b c : Nat, rc1 k f L q = [.int k (a : Int), .int k (b : Int), .int k (c : Int)] := ⟨_, _, _, rfl⟩
theorem rc1_get (k : IntKind) (f : Nat → Nat → Nat) (L q x : Nat) (hx : x < 3) : (rc1 k f L q)[x]? = some (.int k ((if x < L then f q x else 0 : Nat) : Int)) := by simp [rc1, hx]
theorem rcs_snoc (k : IntKind) (f : Nat → Nat → Nat) (L n : Nat) : rcs k f L (n + 1) = rcs k f L n ++ rc1 k f L n := by
  unfold rcs rc1
  rw [show (n + 1) * 3 = n * 3 + 3 by omega, List.range_add, List.map_append, List.map_map]
  congr 1
  apply List.map_congr_left
  intro x hx
  have hx3 := List.mem_range.1 hx
  simp only [Function.comp]
  rw [show (n * 3 + x) % 3 = x by omega, show (n * 3 + x) / 3 = n by omega]
theorem rcs_get (k : IntKind) (f : Nat → Nat → Nat) (L n q x : Nat) (hq : q < n) (hx : x < 3) : (rcs k f L n)[q * 3 + x]? = some (.int k ((if x < L then f q x else 0 : Nat) : Int)) := by
  unfold rcs
  rw [List.getElem?_map, List.getElem?_range (by omega), Option.map_some, show (q * 3 + x) % 3 = x by omega, show (q * 3 + x) / 3 = q by omega]
theorem rcs_row (k : IntKind) (f : Nat → Nat → Nat) (L n q : Nat) (hq : q < n) : ∀ j, j < (rc1 k f L q).length → (rcs k f L n)[q * 3 + j]? = (rc1 k f L q)[j]? := fun j hj => by
  have hj3 : j < 3 := by simpa [rc1] using hj
  rw [rcs_get k f L n q j hq hj3, rc1_get k f L q j hj3]
theorem rcs_in (k : IntKind) (f : Nat → Nat → Nat) (L n q x : Nat) (hq : q < n) (hx : x < L) (hL : L ≤ 3) : (rcs k f L n)[q * 3 + x]? = some (.int k (f q x : Nat)) := by
  rw [rcs_get k f L n q x hq (by omega), if_pos hx]

theorem info_r3 : (Try.prog.info? 233).map (fun i => (i.zero, i.size, i.bytes)) = some (some (.agg #[.int .i64 0, .int .i64 0, .int .i64 0]), 3, 24) := by kernel_rfl
theorem info_b3 : (Try.prog.info? 24).map (fun i => (i.zero, i.size, i.bytes)) = some (some (.agg #[.int .u8 0, .int .u8 0, .int .u8 0]), 3, 3) := by kernel_rfl
theorem sz_r3 : (Try.prog.info? 233).map (·.size) = some 3 := by kernel_rfl
theorem sz_large : (Try.prog.info? 232).map (·.size) = some 3 := by kernel_rfl

/-- A large machine as a value: what it holds. -/
def LG (w : World) (base : Nat) (vN vO : Value) (T : Tab) : Prop :=
  OwnN w base 233 3 vN T.n (rcs .i64 T.nx T.L T.n) ∧ OwnN w base 24 3 vO T.n (rcs .u8 T.ot T.L T.n)
theorem LG.below {w w' : World} {base : Nat} {vN vO : Value} {T : Tab} (h : LG w base vN vO T) (hb : Below w.heap.size w w') : LG w' base vN vO T :=
  ⟨h.1.keep fun k hk => hb.block k (h.1.lt k hk).2, h.2.keep fun k hk => hb.block k (h.2.lt k hk).2⟩

/-- A row that is filled. -/
def fil3 (f : Nat → Nat → Nat) (q x : Nat) : Array Value := #[.int .i64 ((if 0 < x then f q 0 else 0 : Nat) : Int), .int .i64 ((if 1 < x then f q 1 else 0 : Nat) : Int), .int .i64 ((if 2 < x then f q 2 else 0 : Nat) : Int)]
theorem fil3_set (f : Nat → Nat → Nat) (q x : Nat) (hx : x < 3) : (fil3 f q x).setIfInBounds x (.int .i64 (f q x : Nat)) = fil3 f q (x + 1) := by
  have : x = 0 ∨ x = 1 ∨ x = 2 := by omega
  rcases this with rfl | rfl | rfl <;> simp [fil3, Array.setIfInBounds]
theorem fil3_all (f : Nat → Nat → Nat) (q L : Nat) : fil3 f q L = (rc1 .i64 f L q).toArray := rfl
theorem fil3_get (f : Nat → Nat → Nat) (q x j : Nat) (hj : j < 3) : ∃ u, (fil3 f q x)[j]? = some u := ⟨_, Array.getElem?_eq_getElem (by simpa [fil3] using hj)⟩

theorem mf_row {m : Mach} {l s : Nat} (g : Good m l s) (q : Nat) (hq : q < s) : ∀ j, j < 3 → mf m (50 + q * 3 + j) = .int .u8 ((if j < l then (tabOf m l s).ot q j else 0 : Nat) : Int) := fun j hj => by
  rw [mf_ot]
  by_cases h : j < l
  · rw [if_pos h]; rfl
  · rw [if_neg h, (g.z q j (by have := g.s16; omega) hj (fun hh => h hh.2)).2]

end Go.Proofs.Ytbmkkaecfogmoaa

/- Trivial states by rounds over an array: the plain part. -/
namespace Go.Proofs.Ytbmkkaecfogmoaa
set_option linter.unusedVariables false
set_option linter.unusedSimpArgs false

section
variable {T : Tab}
/-- One test of a state at a letter. -/
def tt1 (T : Tab) (bl : Nat → Bool) (q x : Nat) : Nat → Bool := fun j => if j = q then (bl q && (T.ot q x == x)) && bl (T.nx q x) else bl j
def ttR (T : Tab) (bl : Nat → Bool) (q : Nat) : Nat → Nat → Bool
  | 0 => bl
  | x + 1 => tt1 T (ttR T bl q x) q x
def ttQ (T : Tab) (bl : Nat → Bool) : Nat → Nat → Bool
  | 0 => bl
  | q + 1 => ttR T (ttQ T bl q) q T.L
def ttA (T : Tab) : Nat → Nat → Bool
  | 0 => fun j => decide (j < T.n)
  | r + 1 => ttQ T (ttA T r) T.n
/-- Nothing more is struck. -/
def Cl (T : Tab) (bl : Nat → Bool) : Prop := ∀ q, bl q = true → q < T.n ∧ ∀ x, x < T.L → T.ot q x = x ∧ bl (T.nx q x) = true
theorem tt1_le {bl : Nat → Bool} {q x j : Nat} (h : tt1 T bl q x j = true) : bl j = true := by
  unfold tt1 at h
  split at h
  · rename_i e; subst e
    simp only [Bool.and_eq_true] at h
    exact h.1.1
  · exact h
theorem ttR_le {bl : Nat → Bool} {q j : Nat} : ∀ x, ttR T bl q x j = true → bl j = true
  | 0, h => h
  | x + 1, h => ttR_le x (tt1_le h)
theorem ttQ_le {bl : Nat → Bool} {j : Nat} : ∀ q, ttQ T bl q j = true → bl j = true
  | 0, h => h
  | q + 1, h => ttQ_le q (ttR_le T.L h)
theorem ttR_mono {bl : Nat → Bool} {q j : Nat} {x y : Nat} (hxy : x ≤ y) (h : ttR T bl q y j = true) : ttR T bl q x j = true := by
  induction y with
  | zero =>
    have e : x = 0 := by omega
    rw [e]; exact h
  | succ y ih =>
    by_cases e : x = y + 1
    · subst e; exact h
    · exact ih (by omega) (tt1_le h)
theorem ttQ_mono {bl : Nat → Bool} {j p q : Nat} (hpq : p ≤ q) (h : ttQ T bl q j = true) : ttQ T bl p j = true := by
  induction q with
  | zero =>
    have e : p = 0 := by omega
    rw [e]; exact h
  | succ q ih =>
    by_cases e : p = q + 1
    · subst e; exact h
    · exact ih (by omega) (ttR_le T.L h)
/-- What stands at the end stood each test. -/
theorem ttQ_test {bl : Nat → Bool} {q n x : Nat} (hq : q < n) (hx : x < T.L) (h : ttQ T bl n q = true) : T.ot q x = x ∧ bl (T.nx q x) = true := by
  have h1 : ttR T (ttQ T bl q) q T.L q = true := ttQ_mono (p := q + 1) (by omega) h
  have h2 : tt1 T (ttR T (ttQ T bl q) q x) q x q = true := ttR_mono (x := x + 1) (by omega) h1
  unfold tt1 at h2
  rw [if_pos rfl] at h2
  simp only [Bool.and_eq_true, beq_iff_eq] at h2
  exact ⟨h2.1.2, ttQ_le q (ttR_le x h2.2)⟩
theorem Cl.tt1 {bl : Nat → Bool} (h : Cl T bl) {q x : Nat} (hx : x < T.L) : Go.Proofs.Ytbmkkaecfogmoaa.tt1 T bl q x = bl := by
  funext j
  unfold Go.Proofs.Ytbmkkaecfogmoaa.tt1
  split
  · rename_i e; subst e
    cases hb : bl j with
    | false => simp
    | true =>
      have := (h j hb).2 x hx
      simp [this.1, this.2]
  · rfl
theorem Cl.ttR {bl : Nat → Bool} (h : Cl T bl) (q : Nat) : ∀ x, x ≤ T.L → Go.Proofs.Ytbmkkaecfogmoaa.ttR T bl q x = bl
  | 0, _ => rfl
  | x + 1, hx => by
    show Go.Proofs.Ytbmkkaecfogmoaa.tt1 T (Go.Proofs.Ytbmkkaecfogmoaa.ttR T bl q x) q x = bl
    rw [h.ttR q x (by omega), h.tt1 (by omega)]
theorem Cl.ttQ {bl : Nat → Bool} (h : Cl T bl) : ∀ q, Go.Proofs.Ytbmkkaecfogmoaa.ttQ T bl q = bl
  | 0 => rfl
  | q + 1 => by
    show Go.Proofs.Ytbmkkaecfogmoaa.ttR T (Go.Proofs.Ytbmkkaecfogmoaa.ttQ T bl q) q T.L = bl
    rw [h.ttQ q, h.ttR q T.L (Nat.le_refl _)]
def cb (bl : Nat → Bool) : Nat → Nat
  | 0 => 0
  | n + 1 => cb bl n + if bl n then 1 else 0
theorem cb_le (bl : Nat → Bool) : ∀ n, cb bl n ≤ n
  | 0 => Nat.le_refl _
  | n + 1 => by have := cb_le bl n; unfold cb; split <;> omega
theorem cb_mono {b c : Nat → Bool} (h : ∀ j, b j = true → c j = true) : ∀ n, cb b n ≤ cb c n
  | 0 => Nat.le_refl _
  | n + 1 => by
    have := cb_mono h n
    unfold cb
    by_cases hb : b n = true
    · rw [if_pos hb, if_pos (h n hb)]; omega
    · rw [if_neg hb]; omega
theorem cb_lt {b c : Nat → Bool} (h : ∀ j, b j = true → c j = true) {j : Nat} (h1 : c j = true) (h2 : b j = false) : ∀ n, j < n → cb b n < cb c n
  | n + 1, hj => by
    have hm := cb_mono h n
    unfold cb
    by_cases e : j = n
    · subst e
      rw [if_neg (by rw [h2]; decide), if_pos h1]; omega
    · have := cb_lt h h1 h2 n (by omega)
      by_cases hb : b n = true
      · rw [if_pos hb, if_pos (h n hb)]; omega
      · rw [if_neg hb]; omega
theorem ttA_lt {r j : Nat} (h : ttA T r j = true) : j < T.n := by
  induction r with
  | zero => simpa [ttA] using h
  | succ r ih => exact ih (ttQ_le T.n h)
theorem ttA_cl : ∀ r, Cl T (ttA T r) ∨ cb (ttA T r) T.n + r ≤ T.n
  | 0 => .inr (by have := cb_le (ttA T 0) T.n; omega)
  | r + 1 => by
    rcases ttA_cl r with h | h
    · left
      show Cl T (ttQ T (ttA T r) T.n)
      rw [h.ttQ T.n]; exact h
    · by_cases hc : ∃ j, ttA T r j = true ∧ ttA T (r + 1) j = false
      · obtain ⟨j, h1, h2⟩ := hc
        have := cb_lt (b := ttA T (r + 1)) (c := ttA T r) (fun j hj => ttQ_le T.n hj) h1 h2 T.n (ttA_lt h1)
        right; omega
      · left
        have e : ttA T (r + 1) = ttA T r := by
          funext j
          cases h1 : ttA T r j with
          | false =>
            cases h2 : ttA T (r + 1) j with
            | false => rfl
            | true =>
              have h3 : ttA T r j = true := ttQ_le T.n h2
              rw [h1] at h3; cases h3
          | true =>
            cases h2 : ttA T (r + 1) j with
            | true => rfl
            | false => exact absurd ⟨j, h1, h2⟩ hc
        rw [e]
        intro q hq
        have hq' : ttQ T (ttA T r) T.n q = true := by rw [← e] at hq; exact hq
        exact ⟨ttA_lt hq, fun x hx => ttQ_test (ttA_lt hq) hx hq'⟩
theorem ttA_done : Cl T (ttA T (T.n + 1)) := by
  rcases ttA_cl (T := T) (T.n + 1) with h | h
  · exact h
  · omega
theorem tt1_tv {bl : Nat → Bool} (h : ∀ q, Tv T q → bl q = true) {q x : Nat} (hx : x < T.L) : ∀ j, Tv T j → tt1 T bl q x j = true := fun j hj => by
  unfold tt1
  split
  · rename_i e; subst e
    have := hj.keep x hx
    simp [h j hj, this.1, h _ this.2]
  · exact h j hj
theorem ttR_tv {bl : Nat → Bool} (h : ∀ q, Tv T q → bl q = true) (q : Nat) : ∀ x, x ≤ T.L → ∀ j, Tv T j → ttR T bl q x j = true
  | 0, _ => h
  | x + 1, hx => tt1_tv (ttR_tv h q x (by omega)) (by omega)
theorem ttQ_tv {bl : Nat → Bool} (h : ∀ q, Tv T q → bl q = true) : ∀ q, ∀ j, Tv T j → ttQ T bl q j = true
  | 0 => h
  | q + 1 => ttR_tv (ttQ_tv h q) q T.L (Nat.le_refl _)
theorem ttA_tv : ∀ r, ∀ j, Tv T j → ttA T r j = true
  | 0, j, h => by simpa [ttA] using h.lt
  | r + 1, j, h => ttQ_tv (ttA_tv r) T.n j h
/-- Behind all rounds the trivial states are left. -/
theorem ttA_iff (q : Nat) : ttA T (T.n + 1) q = true ↔ Tv T q := by
  constructor
  · intro h
    have hc := ttA_done (T := T)
    exact ⟨fun q => ttA T (T.n + 1) q = true, h, fun r hr => hc r hr⟩
  · exact ttA_tv _ q
end
end Go.Proofs.Ytbmkkaecfogmoaa
