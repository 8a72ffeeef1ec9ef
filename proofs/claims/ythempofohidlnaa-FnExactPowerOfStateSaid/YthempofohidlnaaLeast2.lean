/- The program's least equal states: all rounds. -/
import Derived.Test.YthempofohidlnaaLeast
import Derived.Deep.LoopGhost
namespace Go.Proofs.Ythempofohidlnaa
open Go.RowKit
set_option linter.unusedVariables false
set_option linter.unusedSimpArgs false

/-- A list that is filled from its beginning. -/
def filL (f : Nat → Nat) (q n : Nat) : List Nat := (List.range n).map fun j => if j < q then f j else 0
theorem filL_length (f : Nat → Nat) (q n : Nat) : (filL f q n).length = n := by simp [filL]
theorem filL_zero (f : Nat → Nat) (n : Nat) : List.replicate n (Value.int .i64 0) = nats (filL f 0 n) := by
  apply List.ext_getElem?
  intro i
  by_cases h : i < n
  · simp [nats, filL, h]
  · simp [nats, filL, h]
theorem filL_set (f : Nat → Nat) (q n : Nat) : (nats (filL f q n)).set q (.int .i64 (f q : Nat)) = nats (filL f (q + 1) n) := by
  apply List.ext_getElem?
  intro i
  rw [List.getElem?_set]
  by_cases hi : q = i
  · subst hi
    by_cases h : q < n
    · rw [if_pos rfl, if_pos (by simp [nats, filL]; exact h)]
      simp [nats, filL, h]
    · rw [if_pos rfl, if_neg (by simp [nats, filL]; omega)]
      simp [nats, filL, h]
  · rw [if_neg hi]
    by_cases h : i < n
    · simp only [nats, filL, List.getElem?_map, List.getElem?_range h, Option.map_some]
      by_cases hl : i < q
      · rw [if_pos hl, if_pos (by omega)]
      · rw [if_neg hl, if_neg (by omega)]
    · simp [nats, filL, h]
theorem filL_all (T : Tab) (k n : Nat) : filL (cls T k) n n = clsL T k n := by
  unfold filL clsL
  apply List.map_congr_left
  intro j hj
  rw [if_pos (List.mem_range.1 hj)]
theorem filL_get (f : Nat → Nat) (q n j : Nat) (h : j < n) : ∃ u, (nats (filL f q n))[j]? = some u := ⟨_, List.getElem?_eq_getElem (by rw [nats_length, filL_length]; exact h)⟩
theorem clsL_fix {T : Tab} (hT : T.Ok) {k : Nat} (hk : k ≤ T.n) (h : Stable T k) : clsL T k T.n = (List.range T.n).map (fix T) := by
  unfold clsL
  apply List.map_congr_left
  intro q hq
  exact (fix_of hT hk h q (List.mem_range.1 hq)).symm

set_option maxHeartbeats 8000000 in
set_option maxRecDepth 100000 in
theorem least_any (w : World) (G : Nat) (vN vO : Value) (T : Tab) (hT : T.Ok) (hL : T.L < 100) (hL0 : 0 < T.L) (hn : T.n < 100000) (hTB : TB w G vN vO T) :
    Calls Try.prog 153 #[.pointer (some ⟨G, 0, none⟩)] w fun e w' => ∃ v, e = .returned v ∧ Own w' w.heap.size 2 v (nats ((List.range T.n).map (fix T))) ∧ Below w.heap.size w w' := by
  obtain ⟨gO, cO, rfl, _, _⟩ := hTB.2.2.blk (fun e => by have h1 := congrArg List.length e; rw [tbL_length] at h1; simp at h1; have := hT.pos; omega)
  rw [tbL_length] at hTB
  have hS := hid ((St.start w).newBlk #[.pointer (some ⟨G, 0, none⟩)] 71)
  have hGlt := hTB.lt
  have c1 := (hTB.below (below_alloc (Below.refl w.heap.size w) (Nat.le_refl _) (.cells #[.pointer (some ⟨G, 0, none⟩)] 71))).c1
  have hidx := hid (fun W bt bq q hW h1 h2 hq => indexRows_any W bt bq G q vN (.slice (some ⟨gO, 0, none⟩) T.n cO) T hL hn hW h1 h2 hq)
  have hlike := hid (fun W q k base vof hW h1 hq => like_any W G q k base vN (.slice (some ⟨gO, 0, none⟩) T.n cO) vof T hT hL hL0 hn hW h1 hq)
  have hmk := fun W : World => run_make_row' (P := Try.prog) 22 2 (.int .i64 0) 8 Try.underlying22 info_i64 rfl .i64 .i64 T.n (by omega) (by omega) W
  have hmc := hid (toList_madeCells_one (.int .i64 0) T.n)
  generalize madeCells #[.int .i64 0] T.n = mc at *
  have hmcs := hid (show mc.size = T.n by rw [← Array.length_toList, hmc.out, List.length_replicate])
  have hmf : ∀ (fn : Fn) (first cap : Array Value) (w : World), (Instr.makeFunc fn first cap).run Try.prog w = .ok (.func fn first cap) w := fun _ _ _ _ => rfl
  have hcb := hid (fun k => cnt1_le T (k + 1) T.n)
  have hcp := hid (cnt1_pos T 0 T.n hT.pos)
  have hst := hid (fun k => stable_or T k)
  have hfx := hid (fun k hk h => clsL_fix hT (k := k) hk h)
  have hTB' := hid hTB
  replace hT := hid hT
  clear hTB
  have hTB := hTB'
  clear hTB'
  generalize hnn : T.n = n at *
  replace hnn := hid hnn
  go_enter Try.func153, Try.ntmps153
  go_upto_region 2 with (fail)
  clear c1
  have c1 : ((w.alloc (.cells #[.pointer (some ⟨G, 0, none⟩)] 71)).alloc (.cells mc 2)).cell? ⟨G, 1, none⟩ = some (.slice (some ⟨gO, 0, none⟩) n cO) := (hTB.out.below ((hS.out.alloc _).bel)).c1
  have hS1 := hid (hS.out.newArr mc n hmcs.out 2 (by omega))
  rw [hmc.out, filL_zero (cls T 1) n] at hS1
  clear hS
  have hbt := hid (show w.heap.size = w.heap.size from rfl)
  rw [heap_alloc_size] at hS1
  have e2 : ((w.alloc (.cells #[.pointer (some ⟨G, 0, none⟩)] 71)).alloc (.cells mc 2)).cell? ⟨w.heap.size, 0, none⟩ = some (.pointer (some ⟨G, 0, none⟩)) := cell_of_row _ _ 0 _ _ _ hS1.out.k1
  generalize (w.alloc (.cells #[.pointer (some ⟨G, 0, none⟩)] 71)).alloc (.cells mc 2) = W1 at *
  go_wp2
  clear e2 c1
  generalize hbt' : w.heap.size = bt at *
  replace hbt := hid hbt'
  clear hbt'
  go_loopw [19] (fun i wr => ∃ q : Nat, q ≤ n ∧ i = .int .i64 q ∧ St bt w [Asn.own bt 2 (.slice (some ⟨bt + 1, 0, none⟩) n n) (nats (filL (cls T 1) q n)), Asn.blk bt #[.pointer (some ⟨G, 0, none⟩)] 71] wr) (fun i _ => n - (intOf i).toNat)
  case atStart => exact ⟨0, Nat.zero_le _, rfl, hS1.out⟩
  case round =>
    obtain ⟨q, hq, rfl, rS⟩ := hrel
    clear hS1
    replace rS := hid rS
    by_cases hqn : q < n
    · go_upto_region 5 with (fail)
      have yS := hid (rS.out.newBlk #[.int .i64 (q : Int)] 3)
      clear rS
      generalize wr.alloc (.cells #[.int .i64 (q : Int)] 3) = wa at *
      generalize wr.heap.size = bq at *
      have hTd := hid (hTB.out.below (by have h := yS.out.drew.bel; rw [← hbt.out] at h; exact h))
      have zS := hid yS.out.drew
      clear yS
      have hw0 : (∃ md, wa.drew = wa.drew.drewN md) := ⟨0, rfl⟩
      refine wp_region_heldL (L := [(9, (fun w' : World => ∃ md, w' = wa.drew.drewN md))]) (by kernel_rfl) (HeldL.cons (fun _ => hw0) HeldL.nil) (fun hHeld => ?_)
      clear hw0
      generalize wa.drew = wb at *
      have e1 : wb.cell? ⟨bq, 0, none⟩ = some (.int .i64 (q : Int)) := cell_of_row _ _ 0 _ _ _ zS.out.k0
      have e2 : wb.cell? ⟨bt, 0, none⟩ = some (.pointer (some ⟨G, 0, none⟩)) := cell_of_row _ _ 0 _ _ _ zS.out.k2
      have e3 := hTd.out.c1
      have hi := hid (hidx.out wb bt bq q hTd.out e2 e1 hqn)
      obtain ⟨u, hu⟩ := filL_get (cls T 1) q n q hqn
      have co := Own.cellAt zS.out.o1 q u hu
      have fo := Own.frozenAt zS.out.o1 (by rw [nats_length, filL_length]) q
      have hs := hid (filL_set (cls T 1) q n)
      clear hu hTd
      generalize cls T 1 q = cq at *
      refine wpAnyL_take0 (i := 0) (v := ?_) rfl (by kernel_rfl) (by kernel_rfl) (by kernel_rfl) (by rfl) (fun _ _ _ h => h) (Or.inl ⟨by rfl, ?_⟩) (by assumption) ?_
      rotate_left
      · (intro W _; go_simp; (with_reducible rfl))
      intro hHeld'
      clear hHeld; have hHeld := hHeld'; clear hHeld'
      try simp only [Act.put, List.setIfInBounds_toArray, List.set_cons_zero, List.set_cons_succ]
      refine wpAnyL_takeP (i := 1) 9 [] (v := ?_) (fun w' : World => ∃ md, w' = wb.drewN md) rfl (by kernel_rfl) (by kernel_rfl) (by kernel_rfl) (by rfl) (by kernel_rfl) (by simp) (fun _ _ _ h => h) (Or.inl ⟨by rfl, ?_⟩) (by assumption) ?_
      rotate_left
      · (intro W hW; (obtain ⟨md, rfl⟩ := hW); go_simp; (with_reducible rfl))
      intro hHeld'
      clear hHeld; have hHeld := hHeld'; clear hHeld'
      try simp only [Act.put, List.setIfInBounds_toArray, List.set_cons_zero, List.set_cons_succ]
      refine wpAnyL_takeP (i := 2) 9 [] (v := ?_) (fun w' : World => ∃ md, w' = wb.drewN md) rfl (by kernel_rfl) (by kernel_rfl) (by kernel_rfl) (by rfl) (by kernel_rfl) (by simp) (fun _ _ _ h => h) (Or.inl ⟨by rfl, ?_⟩) (by assumption) ?_
      rotate_left
      · (intro W hW; (obtain ⟨md, rfl⟩ := hW); go_simp; (with_reducible rfl))
      intro hHeld'
      clear hHeld; have hHeld := hHeld'; clear hHeld'
      try simp only [Act.put, List.setIfInBounds_toArray, List.set_cons_zero, List.set_cons_succ]
      refine wpAnyL_take0 (i := 3) (v := ?_) rfl (by kernel_rfl) (by kernel_rfl) (by kernel_rfl) (by rfl) (fun _ _ _ h => h) (Or.inl ⟨by rfl, ?_⟩) (by assumption) ?_
      rotate_left
      · (intro W _; go_simp; (with_reducible rfl))
      intro hHeld'
      clear hHeld; have hHeld := hHeld'; clear hHeld'
      try simp only [Act.put, List.setIfInBounds_toArray, List.set_cons_zero, List.set_cons_succ]
      refine wpAnyL_take0 (i := 4) (v := ?_) rfl (by kernel_rfl) (by kernel_rfl) (by kernel_rfl) (by rfl) (fun _ _ _ h => h) (Or.inl ⟨by rfl, ?_⟩) (by assumption) ?_
      rotate_left
      · (intro W _; go_simp; (with_reducible rfl))
      intro hHeld'
      clear hHeld; have hHeld := hHeld'; clear hHeld'
      try simp only [Act.put, List.setIfInBounds_toArray, List.set_cons_zero, List.set_cons_succ]
      refine wpAnyL_takeP (i := 5) 9 [] (v := ?_) (fun w' : World => ∃ md, w' = wb.drewN md) rfl (by kernel_rfl) (by kernel_rfl) (by kernel_rfl) (by rfl) (by kernel_rfl) (by simp) (fun _ _ _ h => h) (Or.inl ⟨by rfl, ?_⟩) (by assumption) ?_
      rotate_left
      · (intro W hW; (obtain ⟨md, rfl⟩ := hW); go_simp; (with_reducible rfl))
      intro hHeld'
      clear hHeld; have hHeld := hHeld'; clear hHeld'
      try simp only [Act.put, List.setIfInBounds_toArray, List.set_cons_zero, List.set_cons_succ]
      refine wpAnyL_take0 (i := 6) (v := ?_) rfl (by kernel_rfl) (by kernel_rfl) (by kernel_rfl) (by rfl) (fun _ _ _ h => h) (Or.inl ⟨by rfl, ?_⟩) (by assumption) ?_
      rotate_left
      · (intro W _; go_simp; (with_reducible rfl))
      intro hHeld'
      clear hHeld; have hHeld := hHeld'; clear hHeld'
      try simp only [Act.put, List.setIfInBounds_toArray, List.set_cons_zero, List.set_cons_succ]
      refine wpAnyL_ready (rs := [7]) (by kernel_rfl) (by simp) ?_
      refine AllReadyL.cons rfl (fun K hK => ?_) AllReadyL.nil
      go_simp
      go_at_call 121
      (with_reducible refine (hi.out).mono ?_)
      rintro e w1 ⟨rfl, d, rfl⟩
      go_simp
      refine hK.out _ _ (HeldL.cons (fun _ => ⟨d, rfl⟩) HeldL.nil) (fun hHeld' => ?_)
      clear hK K hHeld; have hHeld := hHeld'; clear hHeld'
      try simp only [Act.put, List.setIfInBounds_toArray, List.set_cons_zero, List.set_cons_succ]
      clear e1 e2 e3
      refine wpAnyL_take0 (i := 8) (v := ?_) rfl (by kernel_rfl) (by kernel_rfl) (by kernel_rfl) (by rfl) (fun _ _ _ h => h) (Or.inl ⟨by rfl, ?_⟩) (by assumption) ?_
      rotate_left
      · (intro W _; go_simp; (with_reducible rfl))
      intro hHeld'
      clear hHeld; have hHeld := hHeld'; clear hHeld'
      try simp only [Act.put, List.setIfInBounds_toArray, List.set_cons_zero, List.set_cons_succ]
      refine wpAnyL_ready (rs := [9]) (by kernel_rfl) (by simp) ?_
      refine AllReadyL.cons rfl (fun K hK => ?_) AllReadyL.nil
      go_simp
      have zS2 := hid ((zS.out.drewN d).drop.setOwn (by rw [nats_length, filL_length]) q (.int .i64 (cq : Int)) hqn)
      rw [hs.out] at zS2
      refine hK.out _ _ (HeldL.cons (fun h => absurd h (by decide +kernel)) HeldL.nil) (fun hHeld' => ?_)
      clear hK K hHeld; have hHeld := hHeld'; clear hHeld'
      try simp only [Act.put, List.setIfInBounds_toArray, List.set_cons_zero, List.set_cons_succ]
      refine wpAnyL_done (by kernel_rfl) ?_ _
      go_wp2
      go_roundw
      case rel => exact ⟨q + 1, by omega, by go_num, zS2.out⟩
      case measure => simp [intOf]; omega
    · obtain rfl : n = q := by omega
      have hS2 := rS.out
      rw [← hnn.out, filL_all, hnn.out] at hS2
      replace hS2 := hid hS2
      clear rS
      go_wp2
      go_loopg [3] n (fun gk v wr => ∃ k, k + 1 ≤ cnt1 T (k + 1) n ∧ gk = n - k ∧ St bt w [Asn.own bt 2 v (nats (clsL T (k + 1) n)), Asn.blk bt #[.pointer (some ⟨G, 0, none⟩)] 71] wr)
      case atStart => exact ⟨0, hcp.out, by omega, hS2.out⟩
      case round =>
        obtain ⟨k, hk, rfl, rS⟩ := hrel
        clear hS2
        have hkn : k < n := by have := hcb.out k; omega
        obtain ⟨g1, c1, rfl, _, _⟩ := rS.o0.blk (fun e => by have h1 := congrArg List.length e; rw [nats_length, clsL_length] at h1; simp at h1; omega)
        rw [nats_length, clsL_length] at rS ⊢
        have yS := hid (rS.newArr mc n hmcs.out 2 (by omega))
        rw [hmc.out, filL_zero (cls T (k + 2)) n] at yS
        clear rS
        go_wp2
        generalize wr.alloc (.cells mc 2) = wa at *
        generalize wr.heap.size = g2 at *
        go_loopw [6, 37] (fun s i wr => ∃ q : Nat, q ≤ n ∧ i = .int .i64 q ∧ s = .bool (alls q fun j => cls T (k + 2) j == cls T (k + 1) j) ∧ St bt w [Asn.own bt 2 (.slice (some ⟨g2, 0, none⟩) n n) (nats (filL (cls T (k + 2)) q n)), Asn.own bt 2 (.slice (some ⟨g1, 0, none⟩) n c1) (nats (clsL T (k + 1) n)), Asn.blk bt #[.pointer (some ⟨G, 0, none⟩)] 71] wr) (fun _ i _ => n - (intOf i).toNat)
        case atStart => exact ⟨0, Nat.zero_le _, rfl, rfl, yS.out⟩
        case round =>
          obtain ⟨q, hq, rfl, rfl, zS⟩ := hrel
          clear yS
          by_cases hqn : q < n
          · have e2 : wr.cell? ⟨bt, 0, none⟩ = some (.pointer (some ⟨G, 0, none⟩)) := cell_of_row _ _ 0 _ _ _ zS.k2
            have hTa := hid (hTB.out.below (by have h := zS.bel; rw [← hbt.out] at h; exact h))
            have hl := hid (hlike.out wr q k bt (.slice (some ⟨g1, 0, none⟩) n c1) hTa.out (by have h := zS.o1; exact h) hqn)
            obtain ⟨u, hu⟩ := filL_get (cls T (k + 2)) q n q hqn
            have co := Own.cellAt zS.o0 q u hu
            have fo := Own.frozenAt zS.o0 (by rw [nats_length, filL_length]) q
            have hs := hid (filL_set (cls T (k + 2)) q n)
            have hsame := hid (alls_succ q fun j => cls T (k + 2) j == cls T (k + 1) j)
            have hnew := hid (show (nats (filL (cls T (k + 2)) (q + 1) n))[q]? = some (.int .i64 (cls T (k + 2) q : Nat)) by simp [nats, filL, hqn])
            have hold := hid (clsL_get T (k + 1) n q hqn)
            replace zS := hid zS
            clear hu hTa
            generalize cls T (k + 2) q = ca at *
            generalize cls T (k + 1) q = cb at *
            go_upto_region 13 with (go_at_call 167; (with_reducible refine (hl.out).mono ?_); rintro e w1 ⟨rfl, d, rfl⟩)
            have zS2 := hid ((zS.out.drewN d).setOwn (by rw [nats_length, filL_length]) q (.int .i64 (ca : Int)) hqn)
            rw [hs.out] at zS2
            clear co fo zS hl e2
            generalize ((wr.drewN d).setCell ⟨g2, q, none⟩ (.int .i64 (ca : Int))) = wc at *
            have e3 := Own.cellAt zS2.out.o0 q _ hnew.out
            have e4 := Own.cellAt zS2.out.o1 q _ hold.out
            have hbeq : (((ca : Nat) : Int) == ((cb : Nat) : Int)) = (ca == cb) := by
              by_cases e : ca = cb
              · subst e; simp
              · have h1 : (ca == cb) = false := by simpa using e
                rw [h1]
                have : ((ca : Nat) : Int) ≠ ((cb : Nat) : Int) := by omega
                simpa using this
            replace hbeq := hid hbeq
            cases hal : alls q fun j => cls T (k + 2) j == cls T (k + 1) j with
            | true =>
              rw [hal] at hsame
              clear hal
              go_quiet (fail)
              go_wp2
              go_roundw
              case rel => exact ⟨q + 1, by omega, by go_num, by rw [hsame.out]; simp; first | exact hbeq.out | (rw [← hbeq.out]; simp), zS2.out.drewN _⟩
              case measure => simp [intOf]; omega
            | false =>
              rw [hal] at hsame
              clear hal
              go_quiet (fail)
              go_wp2
              go_roundw
              case rel => exact ⟨q + 1, by omega, by go_num, by rw [hsame.out]; rfl, zS2.out.drewN _⟩
              case measure => simp [intOf]; omega
          · obtain rfl : n = q := by omega
            have hS2 := zS
            rw [← hnn.out, filL_all, hnn.out] at hS2
            replace hS2 := hid hS2
            clear zS
            cases hal : alls n fun j => cls T (k + 2) j == cls T (k + 1) j with
            | true =>
              have hstab := hid (show Stable T (k + 1) from fun q hq => by have h := (alls_iff n _).1 hal q (by rw [← hnn.out]; exact hq); simpa using h)
              have hf := hid (hfx.out (k + 1) (by omega) hstab.out)
              clear hal
              go_wp2
              go_ret
              exact ⟨_, rfl, by rw [hbt.out, ← hf.out]; exact hS2.out.o1, by rw [hbt.out]; exact hS2.out.bel⟩
            | false =>
              have hns := hid (show ¬ Stable T (k + 1) from fun h => by
                rw [(alls_iff n _).2 (fun q hq => by simpa using h q (by rw [hnn.out]; exact hq))] at hal
                cases hal)
              have hcn := hid (hst.out k hns.out)
              clear hal
              go_wp2
              go_roundg (n - (k + 1))
              case measure => omega
              case rel => exact ⟨k + 1, by have h1 := hcn.out; show k + 1 + 1 ≤ cnt1 T (k + 2) n; omega, rfl, hS2.out.f1.drop⟩
end Go.Proofs.Ythempofohidlnaa
