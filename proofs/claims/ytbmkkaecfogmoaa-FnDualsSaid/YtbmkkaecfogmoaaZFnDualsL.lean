/- What the proof of FnDuals leans on, part 12 of 26. -/
import Derived.Test.YtbmkkaecfogmoaaZFnDualsK
import Derived.Deep.LoopGhost
/- The program's least equal states: all rounds. -/
namespace Go.Proofs.Ytbmkkaecfogmoaa
open Go.RowKit
set_option linter.unusedVariables false
set_option linter.unusedSimpArgs false

/-- A list that is filled from its beginning. -/
def filL (f : Nat → Nat) (q n : Nat) : List Nat := (List.range n).map fun j => if j < q then f j else 0
theorem filL_length (f : Nat → Nat) (q n : Nat) : (filL f q n).length = n := by simp [filL]
theorem filL_zero (f : Nat → Nat) (n : Nat) : List.replicate n (Value.int .i64 0) = nats (filL f 0 n) := by
  apply List.ext_getElem?
  intro i
  by_cases h : i < n
  · simp [nats, filL, h]
  · simp [nats, filL, h]
theorem filL_set (f : Nat → Nat) (q n : Nat) : (nats (filL f q n)).set q (.int .i64 (f q : Nat)) = nats (filL f (q + 1) n) := by
  apply List.ext_getElem?
  intro i
  rw [List.getElem?_set]
  by_cases hi : q = i
  · subst hi
    by_cases h : q < n
    · rw [if_pos rfl, if_pos (by simp [nats, filL]; exact h)]
      simp [nats, filL, h]
    · rw [if_pos rfl, if_neg (by simp [nats, filL]; omega)]
      simp [nats, filL, h]
  · rw [if_neg hi]
    by_cases h : i < n
    · simp only [nats, filL, List.getElem?_map, List.getElem?_range h, Option.map_some]
      by_cases hl : i < q
      · rw [if_pos hl, if_pos (by omega)]
      · rw [if_neg hl, if_neg (by omega)]
    · simp [nats, filL, h]
theorem filL_all (T : Tab) (k n : Nat) : filL (cls T k) n n = clsL T k n := by
  unfold filL clsL
  apply List.map_congr_left
  intro j hj
  rw [if_pos (List.mem_range.1 hj)]
theorem filL_get (f : Nat → Nat) (q n j : Nat) (h : j < n) : ∃ u, (nats (filL f q n))[j]? = some u := ⟨_, List.getElem?_eq_getElem (by rw [nats_length, filL_length]; exact h)⟩
theorem clsL_fix {T : Tab} (hT : T.Ok) {k : Nat} (hk : k ≤ T.n) (h : Stable T k) : clsL T k T.n = (List.range T.n).map (fix T) := by
  unfold clsL
  apply List.map_congr_left
  intro q hq
  exact (fix_of hT hk h q (List.mem_range.1 hq)).symm

set_option maxHeartbeats 8000000 in
set_option maxRecDepth 100000 in
theorem least_any (w : World) (G : Nat) (vN vO : Value) (T : Tab) (hT : T.Ok) (hL : T.L < 100) (hL0 : 0 < T.L) (hn : T.n < 100000) (hTB : TB w G vN vO T) :
    Calls Try.prog 90 #[.pointer (some ⟨G, 0, none⟩)] w fun e w' => ∃ v, e = .returned v ∧ Own w' w.heap.size 2 v (nats ((List.range T.n).map (fix T))) ∧ Below w.heap.size w w' := by
  obtain ⟨gO, cO, rfl, _, _⟩ := hTB.2.2.blk (fun e => by have h1 := congrArg List.length e; rw [tbL_length] at h1; simp at h1; have := hT.pos; omega)
  rw [tbL_length] at hTB
  have hS := hid ((St.start w).newBlk #[.pointer (some ⟨G, 0, none⟩)] 91)
  have hGlt := hTB.lt
  have c1 := (hTB.below (below_alloc (Below.refl w.heap.size w) (Nat.le_refl _) (.cells #[.pointer (some ⟨G, 0, none⟩)] 91))).c1
  have hidx := hid (fun W bt bq q hW h1 h2 hq => indexRows_any W bt bq G q vN (.slice (some ⟨gO, 0, none⟩) T.n cO) T hL hn hW h1 h2 hq)
  have hlike := hid (fun W q k base vof hW h1 hq => like_any W G q k base vN (.slice (some ⟨gO, 0, none⟩) T.n cO) vof T hT hL hL0 hn hW h1 hq)
  have hmk := fun W : World => run_make_row' (P := Try.prog) 29 2 (.int .i64 0) 8 Try.underlying29 info_i64 rfl .i64 .i64 T.n (by omega) (by omega) W
  have hmc := hid (toList_madeCells_one (.int .i64 0) T.n)
  generalize madeCells #[.int .i64 0] T.n = mc at *
  have hmcs := hid (show mc.size = T.n by rw [← Array.length_toList, hmc.out, List.length_replicate])
  have hmf : ∀ (fn : Fn) (first cap : Array Value) (w : World), (Instr.makeFunc fn first cap).run Try.prog w = .ok (.func fn first cap) w := fun _ _ _ _ => rfl
  have hcb := hid (fun k => cnt1_le T (k + 1) T.n)
  have hcp := hid (cnt1_pos T 0 T.n hT.pos)
  have hst := hid (fun k => stable_or T k)
  have hfx := hid (fun k hk h => clsL_fix hT (k := k) hk h)
  have hTB' := hid hTB
  replace hT := hid hT
  clear hTB
  have hTB := hTB'
  clear hTB'
  generalize hnn : T.n = n at *
  replace hnn := hid hnn
  go_enter Try.func90, Try.ntmps90
  go_upto_region 2 with (fail)
  clear c1
  have c1 : ((w.alloc (.cells #[.pointer (some ⟨G, 0, none⟩)] 91)).alloc (.cells mc 2)).cell? ⟨G, 1, none⟩ = some (.slice (some ⟨gO, 0, none⟩) n cO) := (hTB.out.below ((hS.out.alloc _).bel)).c1
  have hS1 := hid (hS.out.newArr mc n hmcs.out 2 (by omega))
  rw [hmc.out, filL_zero (cls T 1) n] at hS1
  clear hS
  have hbt := hid (show w.heap.size = w.heap.size from rfl)
  rw [heap_alloc_size] at hS1
  have e2 : ((w.alloc (.cells #[.pointer (some ⟨G, 0, none⟩)] 91)).alloc (.cells mc 2)).cell? ⟨w.heap.size, 0, none⟩ = some (.pointer (some ⟨G, 0, none⟩)) := cell_of_row _ _ 0 _ _ _ hS1.out.k1
  generalize (w.alloc (.cells #[.pointer (some ⟨G, 0, none⟩)] 91)).alloc (.cells mc 2) = W1 at *
  go_wp2
  clear e2 c1
  generalize hbt' : w.heap.size = bt at *
  replace hbt := hid hbt'
  clear hbt'
  go_loopw [19] (fun i wr => ∃ q : Nat, q ≤ n ∧ i = .int .i64 q ∧ St bt w [Asn.own bt 2 (.slice (some ⟨bt + 1, 0, none⟩) n n) (nats (filL (cls T 1) q n)), Asn.blk bt #[.pointer (some ⟨G, 0, none⟩)] 91] wr) (fun i _ => n - (intOf i).toNat)
  case atStart => exact ⟨0, Nat.zero_le _, rfl, hS1.out⟩
  case round =>
    obtain ⟨q, hq, rfl, rS⟩ := hrel
    clear hS1
    replace rS := hid rS
    by_cases hqn : q < n
    · go_upto_region 5 with (fail)
      have yS := hid (rS.out.newBlk #[.int .i64 (q : Int)] 3)
      clear rS
      generalize wr.alloc (.cells #[.int .i64 (q : Int)] 3) = wa at *
      generalize wr.heap.size = bq at *
      have hTd := hid (hTB.out.below (by have h := yS.out.drew.bel; rw [← hbt.out] at h; exact h))
      have zS := hid yS.out.drew
      clear yS
      have hw0 : (∃ md, wa.drew = wa.drew.drewN md) := ⟨0, rfl⟩
      refine wp_region_heldL (L := [(9, (fun w' : World => ∃ md, w' = wa.drew.drewN md))]) (by kernel_rfl) (HeldL.cons (fun _ => hw0) HeldL.nil) (fun hHeld => ?_)
      clear hw0
      generalize wa.drew = wb at *
      have e1 : wb.cell? ⟨bq, 0, none⟩ = some (.int .i64 (q : Int)) := cell_of_row _ _ 0 _ _ _ zS.out.k0
      have e2 : wb.cell? ⟨bt, 0, none⟩ = some (.pointer (some ⟨G, 0, none⟩)) := cell_of_row _ _ 0 _ _ _ zS.out.k2
      have e3 := hTd.out.c1
      have hi := hid (hidx.out wb bt bq q hTd.out e2 e1 hqn)
      obtain ⟨u, hu⟩ := filL_get (cls T 1) q n q hqn
      have co := Own.cellAt zS.out.o1 q u hu
      have fo := Own.frozenAt zS.out.o1 (by rw [nats_length, filL_length]) q
      have hs := hid (filL_set (cls T 1) q n)
      clear hu hTd
      generalize cls T 1 q = cq at *
      refine wpAnyL_take0 (i := 0) (v := ?_) rfl (by kernel_rfl) (by kernel_rfl) (by kernel_rfl) (by rfl) (fun _ _ _ h => h) (Or.inl ⟨by rfl, ?_⟩) (by assumption) ?_
      rotate_left
      · (intro W _; go_simp; (with_reducible rfl))
      intro hHeld'
      clear hHeld; have hHeld := hHeld'; clear hHeld'
      try simp only [Act.put, List.setIfInBounds_toArray, List.set_cons_zero, List.set_cons_succ]
      refine wpAnyL_takeP (i := 1) 9 [] (v := ?_) (fun w' : World => ∃ md, w' = wb.drewN md) rfl (by kernel_rfl) (by kernel_rfl) (by kernel_rfl) (by rfl) (by kernel_rfl) (by simp) (fun _ _ _ h => h) (Or.inl ⟨by rfl, ?_⟩) (by assumption) ?_
      rotate_left
      · (intro W hW; (obtain ⟨md, rfl⟩ := hW); go_simp; (with_reducible rfl))
      intro hHeld'
      clear hHeld; have hHeld := hHeld'; clear hHeld'
      try simp only [Act.put, List.setIfInBounds_toArray, List.set_cons_zero, List.set_cons_succ]
      refine wpAnyL_takeP (i := 2) 9 [] (v := ?_) (fun w' : World => ∃ md, w' = wb.drewN md) rfl (by kernel_rfl) (by kernel_rfl) (by kernel_rfl) (by rfl) (by kernel_rfl) (by simp) (fun _ _ _ h => h) (Or.inl ⟨by rfl, ?_⟩) (by assumption) ?_
      rotate_left
      · (intro W hW; (obtain ⟨md, rfl⟩ := hW); go_simp; (with_reducible rfl))
      intro hHeld'
      clear hHeld; have hHeld := hHeld'; clear hHeld'
      try simp only [Act.put, List.setIfInBounds_toArray, List.set_cons_zero, List.set_cons_succ]
      refine wpAnyL_take0 (i := 3) (v := ?_) rfl (by kernel_rfl) (by kernel_rfl) (by kernel_rfl) (by rfl) (fun _ _ _ h => h) (Or.inl ⟨by rfl, ?_⟩) (by assumption) ?_
      rotate_left
      · (intro W _; go_simp; (with_reducible rfl))
      intro hHeld'
      clear hHeld; have hHeld := hHeld'; clear hHeld'
      try simp only [Act.put, List.setIfInBounds_toArray, List.set_cons_zero, List.set_cons_succ]
      refine wpAnyL_take0 (i := 4) (v := ?_) rfl (by kernel_rfl) (by kernel_rfl) (by kernel_rfl) (by rfl) (fun _ _ _ h => h) (Or.inl ⟨by rfl, ?_⟩) (by assumption) ?_
      rotate_left
      · (intro W _; go_simp; (with_reducible rfl))
      intro hHeld'
      clear hHeld; have hHeld := hHeld'; clear hHeld'
      try simp only [Act.put, List.setIfInBounds_toArray, List.set_cons_zero, List.set_cons_succ]
      refine wpAnyL_takeP (i := 5) 9 [] (v := ?_) (fun w' : World => ∃ md, w' = wb.drewN md) rfl (by kernel_rfl) (by kernel_rfl) (by kernel_rfl) (by rfl) (by kernel_rfl) (by simp) (fun _ _ _ h => h) (Or.inl ⟨by rfl, ?_⟩) (by assumption) ?_
      rotate_left
      · (intro W hW; (obtain ⟨md, rfl⟩ := hW); go_simp; (with_reducible rfl))
      intro hHeld'
      clear hHeld; have hHeld := hHeld'; clear hHeld'
      try simp only [Act.put, List.setIfInBounds_toArray, List.set_cons_zero, List.set_cons_succ]
      refine wpAnyL_take0 (i := 6) (v := ?_) rfl (by kernel_rfl) (by kernel_rfl) (by kernel_rfl) (by rfl) (fun _ _ _ h => h) (Or.inl ⟨by rfl, ?_⟩) (by assumption) ?_
      rotate_left
      · (intro W _; go_simp; (with_reducible rfl))
      intro hHeld'
      clear hHeld; have hHeld := hHeld'; clear hHeld'
      try simp only [Act.put, List.setIfInBounds_toArray, List.set_cons_zero, List.set_cons_succ]
      refine wpAnyL_ready (rs := [7]) (by kernel_rfl) (by simp) ?_
      refine AllReadyL.cons rfl (fun K hK => ?_) AllReadyL.nil
      go_simp
      go_at_call 190
      (with_reducible refine (hi.out).mono ?_)
      rintro e w1 ⟨rfl, d, rfl⟩
      go_simp
      refine hK.out _ _ (HeldL.cons (fun _ => ⟨d, rfl⟩) HeldL.nil) (fun hHeld' => ?_)
      clear hK K hHeld; have hHeld := hHeld'; clear hHeld'
      try simp only [Act.put, List.setIfInBounds_toArray, List.set_cons_zero, List.set_cons_succ]
      clear e1 e2 e3
      refine wpAnyL_take0 (i := 8) (v := ?_) rfl (by kernel_rfl) (by kernel_rfl) (by kernel_rfl) (by rfl) (fun _ _ _ h => h) (Or.inl ⟨by rfl, ?_⟩) (by assumption) ?_
      rotate_left
      · (intro W _; go_simp; (with_reducible rfl))
      intro hHeld'
      clear hHeld; have hHeld := hHeld'; clear hHeld'
      try simp only [Act.put, List.setIfInBounds_toArray, List.set_cons_zero, List.set_cons_succ]
      refine wpAnyL_ready (rs := [9]) (by kernel_rfl) (by simp) ?_
      refine AllReadyL.cons rfl (fun K hK => ?_) AllReadyL.nil
      go_simp
      have zS2 := hid ((zS.out.drewN d).drop.setOwn (by rw [nats_length, filL_length]) q (.int .i64 (cq : Int)) hqn)
      rw [hs.out] at zS2
      refine hK.out _ _ (HeldL.cons (fun h => absurd h (by decide +kernel)) HeldL.nil) (fun hHeld' => ?_)
      clear hK K hHeld; have hHeld := hHeld'; clear hHeld'
      try simp only [Act.put, List.setIfInBounds_toArray, List.set_cons_zero, List.set_cons_succ]
      refine wpAnyL_done (by kernel_rfl) ?_ _
      go_wp2
      go_roundw
      case rel => exact ⟨q + 1, by omega, by go_num, zS2.out⟩
      case measure => simp [intOf]; omega
    · obtain rfl : n = q := by omega
      have hS2 := rS.out
      rw [← hnn.out, filL_all, hnn.out] at hS2
      replace hS2 := hid hS2
      clear rS
      go_wp2
      go_loopg [3] n (fun gk v wr => ∃ k, k + 1 ≤ cnt1 T (k + 1) n ∧ gk = n - k ∧ St bt w [Asn.own bt 2 v (nats (clsL T (k + 1) n)), Asn.blk bt #[.pointer (some ⟨G, 0, none⟩)] 91] wr)
      case atStart => exact ⟨0, hcp.out, by omega, hS2.out⟩
      case round =>
        obtain ⟨k, hk, rfl, rS⟩ := hrel
        clear hS2
        have hkn : k < n := by have := hcb.out k; omega
        obtain ⟨g1, c1, rfl, _, _⟩ := rS.o0.blk (fun e => by have h1 := congrArg List.length e; rw [nats_length, clsL_length] at h1; simp at h1; omega)
        rw [nats_length, clsL_length] at rS ⊢
        have yS := hid (rS.newArr mc n hmcs.out 2 (by omega))
        rw [hmc.out, filL_zero (cls T (k + 2)) n] at yS
        clear rS
        go_wp2
        generalize wr.alloc (.cells mc 2) = wa at *
        generalize wr.heap.size = g2 at *
        go_loopw [6, 37] (fun s i wr => ∃ q : Nat, q ≤ n ∧ i = .int .i64 q ∧ s = .bool (alls q fun j => cls T (k + 2) j == cls T (k + 1) j) ∧ St bt w [Asn.own bt 2 (.slice (some ⟨g2, 0, none⟩) n n) (nats (filL (cls T (k + 2)) q n)), Asn.own bt 2 (.slice (some ⟨g1, 0, none⟩) n c1) (nats (clsL T (k + 1) n)), Asn.blk bt #[.pointer (some ⟨G, 0, none⟩)] 91] wr) (fun _ i _ => n - (intOf i).toNat)
        case atStart => exact ⟨0, Nat.zero_le _, rfl, rfl, yS.out⟩
        case round =>
          obtain ⟨q, hq, rfl, rfl, zS⟩ := hrel
          clear yS
          by_cases hqn : q < n
          · have e2 : wr.cell? ⟨bt, 0, none⟩ = some (.pointer (some ⟨G, 0, none⟩)) := cell_of_row _ _ 0 _ _ _ zS.k2
            have hTa := hid (hTB.out.below (by have h := zS.bel; rw [← hbt.out] at h; exact h))
            have hl := hid (hlike.out wr q k bt (.slice (some ⟨g1, 0, none⟩) n c1) hTa.out (by have h := zS.o1; exact h) hqn)
            obtain ⟨u, hu⟩ := filL_get (cls T (k + 2)) q n q hqn
            have co := Own.cellAt zS.o0 q u hu
            have fo := Own.frozenAt zS.o0 (by rw [nats_length, filL_length]) q
            have hs := hid (filL_set (cls T (k + 2)) q n)
            have hsame := hid (alls_succ q fun j => cls T (k + 2) j == cls T (k + 1) j)
            have hnew := hid (show (nats (filL (cls T (k + 2)) (q + 1) n))[q]? = some (.int .i64 (cls T (k + 2) q : Nat)) by simp [nats, filL, hqn])
            have hold := hid (clsL_get T (k + 1) n q hqn)
            replace zS := hid zS
            clear hu hTa
            generalize cls T (k + 2) q = ca at *
            generalize cls T (k + 1) q = cb at *
            go_upto_region 13 with (go_at_call 193; (with_reducible refine (hl.out).mono ?_); rintro e w1 ⟨rfl, d, rfl⟩)
            have zS2 := hid ((zS.out.drewN d).setOwn (by rw [nats_length, filL_length]) q (.int .i64 (ca : Int)) hqn)
            rw [hs.out] at zS2
            clear co fo zS hl e2
            generalize ((wr.drewN d).setCell ⟨g2, q, none⟩ (.int .i64 (ca : Int))) = wc at *
            have e3 := Own.cellAt zS2.out.o0 q _ hnew.out
            have e4 := Own.cellAt zS2.out.o1 q _ hold.out
            have hbeq : (((ca : Nat) : Int) == ((cb : Nat) : Int)) = (ca == cb) := by
              by_cases e : ca = cb
              · subst e; simp
              · have h1 : (ca == cb) = false := by simpa using e
                rw [h1]
                have : ((ca : Nat) : Int) ≠ ((cb : Nat) : Int) := by omega
                simpa using this
            replace hbeq := hid hbeq
            cases hal : alls q fun j => cls T (k + 2) j == cls T (k + 1) j with
            | true =>
              rw [hal] at hsame
              clear hal
              go_quiet (fail)
              go_wp2
              go_roundw
              case rel => exact ⟨q + 1, by omega, by go_num, by rw [hsame.out]; simp; first | exact hbeq.out | (rw [← hbeq.out]; simp), zS2.out.drewN _⟩
              case measure => simp [intOf]; omega
            | false =>
              rw [hal] at hsame
              clear hal
              go_quiet (fail)
              go_wp2
              go_roundw
              case rel => exact ⟨q + 1, by omega, by go_num, by rw [hsame.out]; rfl, zS2.out.drewN _⟩
              case measure => simp [intOf]; omega
          · obtain rfl : n = q := by omega
            have hS2 := zS
            rw [← hnn.out, filL_all, hnn.out] at hS2
            replace hS2 := hid hS2
            clear zS
            cases hal : alls n fun j => cls T (k + 2) j == cls T (k + 1) j with
            | true =>
              have hstab := hid (show Stable T (k + 1) from fun q hq => by have h := (alls_iff n _).1 hal q (by rw [← hnn.out]; exact hq); simpa using h)
              have hf := hid (hfx.out (k + 1) (by omega) hstab.out)
              clear hal
              go_wp2
              go_ret
              exact ⟨_, rfl, by rw [hbt.out, ← hf.out]; exact hS2.out.o1, by rw [hbt.out]; exact hS2.out.bel⟩
            | false =>
              have hns := hid (show ¬ Stable T (k + 1) from fun h => by
                rw [(alls_iff n _).2 (fun q hq => by simpa using h q (by rw [hnn.out]; exact hq))] at hal
                cases hal)
              have hcn := hid (hst.out k hns.out)
              clear hal
              go_wp2
              go_roundg (n - (k + 1))
              case measure => omega
              case rel => exact ⟨k + 1, by have h1 := hcn.out; show k + 1 + 1 ≤ cnt1 T (k + 2) n; omega, rfl, hS2.out.f1.drop⟩
end Go.Proofs.Ytbmkkaecfogmoaa

/- The machine of a state of a table, as the program makes it. -/
namespace Go.Proofs.Ytbmkkaecfogmoaa
open Go.RowKit
set_option linter.unusedVariables false
set_option linter.unusedSimpArgs false

theorem idxZ_nat {l : List Nat} {c : Nat} (h : c ∈ l) : idxZ (l.map Int.ofNat) ((c : Nat) : Int) = ((l.idxOf c : Nat) : Int) := by
  have hlt := List.idxOf_lt_length_of_mem h
  refine idxZ_at ?_ (fun j hj e => ?_)
  · rw [List.getElem?_map, List.getElem?_eq_getElem hlt, List.getElem_idxOf hlt]; rfl
  · rw [List.getElem?_map] at e
    have hj' : j < l.length := by omega
    rw [List.getElem?_eq_getElem hj'] at e
    have h1 : l[j] = c := by
      have h2 : ((l[j] : Nat) : Int) = (c : Int) := by simpa using e
      omega
    have := List.not_of_lt_findIdx (p := (· == c)) (xs := l) hj
    simp [h1] at this

set_option maxHeartbeats 1000000 in
theorem from1_any (w : World) (bs bo r base n : Nat) (vs vo : Value) (st F : List Nat) (c : Nat) (hbs : w.cell? ⟨bs, 0, none⟩ = some vs) (hbo : w.cell? ⟨bo, 0, none⟩ = some vo) (hs : Own w base 2 vs (nats st)) (ho : Own w base 2 vo (nats F))
    (hr : F[r]? = some c) (hc : c ∈ st) (hl : st.length < 1000000) (hF : F.length < 1000000) :
    Calls Try.prog 245 #[.int .i64 r, .pointer (some ⟨bs, 0, none⟩), .pointer (some ⟨bo, 0, none⟩)] w fun e w' => e = .returned (.int .i64 (st.idxOf c : Nat)) ∧ ∃ d, w' = w.drewN d := by
  have hrl := (List.getElem?_eq_some_iff.1 hr).1
  have hpos : 0 < st.length := List.length_pos_of_mem hc
  obtain ⟨go, co, rfl, _, _⟩ := ho.blk (fun e => by have h1 := congrArg List.length e; rw [nats_length, List.length_nil] at h1; first | omega | (rw [List.length_map, List.length_range] at h1; omega))
  obtain ⟨gs, cs, rfl, _, _⟩ := hs.blk (fun e => by have h1 := congrArg List.length e; rw [nats_length, List.length_nil] at h1; first | omega | (rw [List.length_map, List.length_range] at h1; omega))
  have cr := ho.cellAt r (.int .i64 (c : Nat)) (by simp [nats, hr])
  rw [nats_length] at hbo hbs hs
  have hi := hid (fun n => slIndex_any (w.drewN n) base (.slice (some ⟨gs, 0, none⟩) st.length cs) (st.map Int.ofNat) (c : Int) (by rw [← nats_ints]; exact hs.drewN n) (by simpa using hl))
  rw [idxZ_nat hc] at hi
  clear hs ho hr hc
  generalize F.length = nF at *
  go_enter Try.func245, Try.ntmps245
  go_wp2
  go_quiet ((go_at_call 182; exact quiet_same (hi.out _)))
  go_wp2
  go_ret
  exact ⟨rfl, _, rfl⟩

theorem u8_in (n : Nat) (h : n < 256) : IntKind.u8.wrap (n : Int) = (n : Int) := by
  have h1 : IntKind.u8.wrap (n : Int) = (n : Int) % 256 := by first | rfl | (unfold IntKind.wrap; simp)
  rw [h1]; omega
set_option maxHeartbeats 8000000 in
set_option maxRecDepth 100000 in
theorem gathered_any (w : World) (G bs bo base : Nat) (vN vO vs vo : Value) (T : Tab) (st : List Nat) (hT : T.Ok) (hL : T.L ≤ 3) (hL0 : 0 < T.L) (hn : T.n < 100000) (hTB : TB w G vN vO T) (hot : ∀ q x, q < T.n → x < T.L → T.ot q x < 256)
    (hbs : w.cell? ⟨bs, 0, none⟩ = some vs) (hbo : w.cell? ⟨bo, 0, none⟩ = some vo) (hbsl : bs < w.heap.size) (hbol : bo < w.heap.size) (hs : Own w base 2 vs (nats st)) (ho : Own w base 2 vo (nats ((List.range T.n).map (fix T))))
    (hlt : ∀ s ∈ st, s < T.n) (hcl : ∀ s ∈ st, ∀ x, x < T.L → fix T (T.nx s x) ∈ st) (hl : st.length ≤ 16) :
    Calls Try.prog 183 #[.pointer (some ⟨G, 0, none⟩), .int .i64 T.L, vs, .func (.func 245) #[] #[.pointer (some ⟨bs, 0, none⟩), .pointer (some ⟨bo, 0, none⟩)]] w fun e w' => e = .returned (.agg (mcells (gth T (fix T) st))) ∧ Below w.heap.size w w' := by
  have hz := zero_mach
  have hcall := hid (fun W (hb : Below w.heap.size w W) r c (hr : ((List.range T.n).map (fix T))[r]? = some c) (hc : c ∈ st) => from1_any W bs bo r base T.n vs vo st _ c ((hb.cell (p := ⟨bs, 0, none⟩) hbsl).trans hbs) ((hb.cell (p := ⟨bo, 0, none⟩) hbol).trans hbo) (hs.below hb) (ho.below hb) hr hc (by omega) (by simp; omega))
  obtain ⟨gN, cN, rfl, _, _⟩ := hTB.2.1.blk (fun e => by have h1 := congrArg List.length e; rw [tbL_length] at h1; simp at h1; have := hT.pos; omega)
  obtain ⟨gO, cO, rfl, _, _⟩ := hTB.2.2.blk (fun e => by have h1 := congrArg List.length e; rw [tbL_length] at h1; simp at h1; have := hT.pos; omega)
  rw [tbL_length, tbL_length] at hTB
  have hread := hid (fun W (hb : Below w.heap.size w W) => (show W.cell? ⟨G, 0, none⟩ = some (.slice (some ⟨gN, 0, none⟩) T.n cN) ∧ W.cell? ⟨G, 1, none⟩ = some (.slice (some ⟨gO, 0, none⟩) T.n cO) from ⟨(hTB.below hb).c0, (hTB.below hb).c1⟩))
  have hrowN := hid (fun q (hq : q < T.n) => (show ∃ g c, ∀ W, Below w.heap.size w W → W.cell? ⟨gN, q, none⟩ = some (.slice (some ⟨g, 0, none⟩) T.L c) ∧ ∀ x, x < T.L → W.cell? ⟨g, x, none⟩ = some (.int .i64 (T.nx q x : Nat)) from by
    obtain ⟨rows, hO, hlr, hall⟩ := hTB.2.1
    have hi : q < rows.length := by rw [hlr, tbL_length]; exact hq
    obtain ⟨r, hr⟩ : ∃ r, rows[q]? = some r := ⟨_, List.getElem?_eq_getElem hi⟩
    have hrow := hall q r _ hr (tbL_get T.nx T.n T.L q hq)
    obtain ⟨g, c, rfl, _, _⟩ := hrow.blk (fun e => by have h1 := congrArg List.length e; rw [ints_length, rwI_length] at h1; simp at h1; omega)
    rw [ints_length, rwI_length] at hr hrow
    exact ⟨g, c, fun W hb => ⟨(hO.below hb).cellAt q _ hr, fun x hx => (hrow.below hb).cellAt x _ (by simp [ints, rwI_get _ _ _ _ hx])⟩⟩))
  have hrowO := hid (fun q (hq : q < T.n) => (show ∃ g c, ∀ W, Below w.heap.size w W → W.cell? ⟨gO, q, none⟩ = some (.slice (some ⟨g, 0, none⟩) T.L c) ∧ ∀ x, x < T.L → W.cell? ⟨g, x, none⟩ = some (.int .i64 (T.ot q x : Nat)) from by
    obtain ⟨rows, hO, hlr, hall⟩ := hTB.2.2
    have hi : q < rows.length := by rw [hlr, tbL_length]; exact hq
    obtain ⟨r, hr⟩ : ∃ r, rows[q]? = some r := ⟨_, List.getElem?_eq_getElem hi⟩
    have hrow := hall q r _ hr (tbL_get T.ot T.n T.L q hq)
    obtain ⟨g, c, rfl, _, _⟩ := hrow.blk (fun e => by have h1 := congrArg List.length e; rw [ints_length, rwI_length] at h1; simp at h1; omega)
    rw [ints_length, rwI_length] at hr hrow
    exact ⟨g, c, fun W hb => ⟨(hO.below hb).cellAt q _ hr, fun x hx => (hrow.below hb).cellAt x _ (by simp [ints, rwI_get _ _ _ _ hx])⟩⟩))
  have hst := hid (fun W (hb : Below w.heap.size w W) i s (hi : st[i]? = some s) => (show ∃ g c, vs = .slice (some ⟨g, 0, none⟩) st.length c ∧ W.cell? ⟨g, i, none⟩ = some (.int .i64 (s : Nat)) from by
    have hpos : 0 < st.length := Nat.lt_of_le_of_lt (Nat.zero_le i) (List.getElem?_eq_some_iff.1 hi).1
    obtain ⟨g, c, rfl, _, _⟩ := (hs.below hb).blk (fun e => by have h1 := congrArg List.length e; rw [nats_length, List.length_nil] at h1; first | omega | (rw [List.length_map, List.length_range] at h1; omega))
    rw [nats_length] at *
    exact ⟨g, c, rfl, (hs.below hb).cellAt i _ (by simp [nats, hi])⟩))
  obtain ⟨As, cs, hvs, _, _⟩ := hs.form
  rw [nats_length] at hvs
  subst hvs
  have hnx := hid (fun q x (hq : q < T.n) (hx : x < T.L) => hT.nx q x hq hx)
  replace hot := hid hot; replace hlt := hid hlt; replace hcl := hid hcl
  have hstep := hid (fun i x s hx hs => gthP_step T (fix T) st i x s hx hL hs)
  have hrow := hid (fun i => gthP_row T (fix T) st i hL)
  have h00 := hid (gthP_zero T (fix T) st)
  have hS := hid (((St.start w).newMB ⟨0, 0, fun _ => 0, fun _ => 0⟩ 27).newMB ⟨0, 0, fun _ => 0, fun _ => 0⟩ 27)
  rw [heap_alloc_size] at hS
  clear hTB hs ho hbs hbo
  generalize hfin : gth T (fix T) st = gm at *
  have hfin' := hid (show gthP T (fix T) st st.length 0 = gm from hfin)
  clear hfin
  generalize hLL : T.L = L at *
  replace hLL := hid hLL
  generalize hlen : st.length = N at *
  replace hlen := hid hlen
  generalize mcells ⟨0, 0, fun _ => 0, fun _ => 0⟩ = zs at *
  go_enter Try.func183, Try.ntmps183
  go_wp2_with (first
    | ((with_reducible refine gate (N := 17) rfl ?_); refine build_mach rfl _ _ rfl (L : Int) (N : Int) rfl rfl ?_)
    | ((with_reducible refine gateOp (op := .store 27 (.tmp 9) (.tmp 17)) rfl ?_); refine store_mach rfl _ _ rfl (w.heap.size + 1) rfl ⟨(L : Int), (N : Int), fun _ => 0, fun _ => 0⟩ rfl 27 _ hS.out.m0 ?_; intro W1 p3 ho hsz hbl; replace hS := hid (hS.out.setM (Nat.le_succ _) p3 ho hbl); clear p3 ho hsz hbl))
  go_loopw [20] (fun i wr => ∃ i' : Nat, i' ≤ N ∧ i = .int .i64 i' ∧ St w.heap.size w [Asn.mb 27 (w.heap.size + 1) (gthP T (fix T) st i' 0), Asn.mb 27 w.heap.size ⟨0, 0, fun _ => 0, fun _ => 0⟩] wr) (fun i _ => N - (intOf i).toNat)
  case atStart => exact ⟨0, Nat.zero_le _, rfl, by rw [h00.out]; exact hS.out⟩
  case round =>
    obtain ⟨i, hi, rfl, rS⟩ := hrel
    clear hS
    by_cases hiN : i < N
    · obtain ⟨s, hs⟩ : ∃ s, st[i]? = some s := ⟨_, List.getElem?_eq_getElem (by rw [hlen.out]; exact hiN)⟩
      have hsm : s ∈ st := List.mem_of_getElem? hs
      have hsn := hlt.out s hsm
      obtain ⟨gs, cs2, hvs, cst⟩ := hst.out wr rS.bel i s hs
      injection hvs with hvs hnn hcc
      subst hvs
      subst hcc
      clear hnn
      obtain ⟨e0, _⟩ := hread.out wr rS.bel
      obtain ⟨g1, c1, hr1⟩ := hrowN.out s hsn
      obtain ⟨g2, c2, hr2⟩ := hrowO.out s hsn
      have e1 := (hr1 wr rS.bel).1
      replace hr1 := hid hr1; replace hr2 := hid hr2
      replace rS := hid rS
      replace hs := hid hs; replace hsm := hid hsm
      go_wp2
      clear cst e0 e1
      go_loopw [33] (fun j wr => ∃ x : Nat, x ≤ L ∧ j = .int .i64 x ∧ St w.heap.size w [Asn.mb 27 (w.heap.size + 1) (gthP T (fix T) st i x), Asn.mb 27 w.heap.size ⟨0, 0, fun _ => 0, fun _ => 0⟩] wr) (fun j _ => L - (intOf j).toNat)
      case atStart => exact ⟨0, Nat.zero_le _, rfl, rS.out⟩
      case round =>
        obtain ⟨x, hx, rfl, yS⟩ := hrel
        clear rS
        by_cases hxL : x < L
        · have e1 := (hr1.out wr yS.bel).2 x hxL
          have hnxn := hnx.out s x hsn hxL
          have hcm := hid (hcl.out s hsm.out x hxL)
          have hotx := hot.out s x hsn hxL
          have hidx := List.idxOf_lt_length_of_mem hcm.out
          rw [hlen.out] at hidx
          have hst2 := hid (hstep.out i x s hxL hs.out)
          go_upto_region 8 with (fail)
          clear e1
          replace yS := hid yS
          have zS := hid yS.out.drew
          clear yS
          have hT0 : wr.drew.cell? ⟨G, 1, none⟩ = some (.slice (some ⟨gO, 0, none⟩) T.n cO) ∧ wr.drew.cell? ⟨gO, s, none⟩ = some (.slice (some ⟨g2, 0, none⟩) L c2) ∧ wr.drew.cell? ⟨g2, x, none⟩ = some (.int .i64 (T.ot s x : Nat)) := ⟨(hread.out _ zS.out.bel).2, (hr2.out _ zS.out.bel).1, (hr2.out _ zS.out.bel).2 x hxL⟩
          refine wp_region_heldL (L := [(26, (fun w' : World => w'.cell? ⟨G, 1, none⟩ = some (.slice (some ⟨gO, 0, none⟩) T.n cO) ∧ w'.cell? ⟨gO, s, none⟩ = some (.slice (some ⟨g2, 0, none⟩) L c2) ∧ w'.cell? ⟨g2, x, none⟩ = some (.int .i64 (T.ot s x : Nat))))]) (by kernel_rfl) (HeldL.cons (fun _ => hT0) HeldL.nil) (fun hHeld => ?_)
          clear hT0
          generalize wr.drew = wa at *
          have hc := hid (fun W hb => hcall.out W hb (T.nx s x) (fix T (T.nx s x)) (by simp [hnxn]) hcm.out)
          generalize T.nx s x = r at *
          generalize hci : st.idxOf (fix T r) = ci at *
          replace hci := hid hci
          generalize hoe : T.ot s x = ot at *
          replace hoe := hid hoe
          have xm : ((ci : Int) % 256) = ci := by omega
          have xo : ((ot : Int) % 256) = ot := by omega
          have xm2 : IntKind.u8.wrap (ci : Int) = (ci : Int) := u8_in ci (by omega)
          have xo2 : IntKind.u8.wrap (ot : Int) = (ot : Int) := u8_in ot (by omega)
          have xi0 : (0 : Int) ≤ (i : Int) := Int.natCast_nonneg _
          have xi1 : (i : Int) < 16 := by omega
          have xx0 : (0 : Int) ≤ (x : Int) := Int.natCast_nonneg _
          have xx1 : (x : Int) < 3 := by omega
          refine wpAnyL_take0 (i := 0) (v := ?_) rfl (by kernel_rfl) (by kernel_rfl) (by kernel_rfl) (by rfl) (fun _ _ _ h => h) (Or.inl ⟨by rfl, ?_⟩) (by assumption) ?_
          rotate_left
          · (intro W _; go_simp; (with_reducible rfl))
          intro hHeld'
          clear hHeld; have hHeld := hHeld'; clear hHeld'
          try simp only [Act.put, List.setIfInBounds_toArray, List.set_cons_zero, List.set_cons_succ]
          refine wpAnyL_take0 (i := 1) (v := ?_) rfl (by kernel_rfl) (by kernel_rfl) (by kernel_rfl) (by rfl) (fun _ _ _ h => h) (Or.inl ⟨by rfl, ?_⟩) (by assumption) ?_
          rotate_left
          · (intro W _; go_simp; (with_reducible rfl))
          intro hHeld'
          clear hHeld; have hHeld := hHeld'; clear hHeld'
          try simp only [Act.put, List.setIfInBounds_toArray, List.set_cons_zero, List.set_cons_succ]
          refine wpAnyL_take0 (i := 2) (v := ?_) rfl (by kernel_rfl) (by kernel_rfl) (by kernel_rfl) (by rfl) (fun _ _ _ h => h) (Or.inl ⟨by rfl, ?_⟩) (by assumption) ?_
          rotate_left
          · (intro W _; go_simp; (with_reducible rfl))
          intro hHeld'
          clear hHeld; have hHeld := hHeld'; clear hHeld'
          try simp only [Act.put, List.setIfInBounds_toArray, List.set_cons_zero, List.set_cons_succ]
          refine wpAnyL_take0 (i := 3) (v := ?_) rfl (by kernel_rfl) (by kernel_rfl) (by kernel_rfl) (by rfl) (fun _ _ _ h => h) (Or.inl ⟨by rfl, ?_⟩) (by assumption) ?_
          rotate_left
          · (intro W _; go_simp; (with_reducible rfl))
          intro hHeld'
          clear hHeld; have hHeld := hHeld'; clear hHeld'
          try simp only [Act.put, List.setIfInBounds_toArray, List.set_cons_zero, List.set_cons_succ]
          refine wpAnyL_take0 (i := 4) (v := ?_) rfl (by kernel_rfl) (by kernel_rfl) (by kernel_rfl) (by rfl) (fun _ _ _ h => h) (Or.inl ⟨by rfl, ?_⟩) (by assumption) ?_
          rotate_left
          · (intro W _; go_simp; (with_reducible rfl))
          intro hHeld'
          clear hHeld; have hHeld := hHeld'; clear hHeld'
          try simp only [Act.put, List.setIfInBounds_toArray, List.set_cons_zero, List.set_cons_succ]
          refine wpAnyL_take0 (i := 5) (v := ?_) rfl (by kernel_rfl) (by kernel_rfl) (by kernel_rfl) (by rfl) (fun _ _ _ h => h) (Or.inl ⟨by rfl, ?_⟩) (by assumption) ?_
          rotate_left
          · (intro W _; go_simp; (with_reducible rfl))
          intro hHeld'
          clear hHeld; have hHeld := hHeld'; clear hHeld'
          try simp only [Act.put, List.setIfInBounds_toArray, List.set_cons_zero, List.set_cons_succ]
          refine wpAnyL_take0 (i := 8) (v := ?_) rfl (by kernel_rfl) (by kernel_rfl) (by kernel_rfl) (by rfl) (fun _ _ _ h => h) (Or.inl ⟨by rfl, ?_⟩) (by assumption) ?_
          rotate_left
          · (intro W _; go_simp; (with_reducible rfl))
          intro hHeld'
          clear hHeld; have hHeld := hHeld'; clear hHeld'
          try simp only [Act.put, List.setIfInBounds_toArray, List.set_cons_zero, List.set_cons_succ]
          refine wpAnyL_take0 (i := 9) (v := ?_) rfl (by kernel_rfl) (by kernel_rfl) (by kernel_rfl) (by rfl) (fun _ _ _ h => h) (Or.inl ⟨by rfl, ?_⟩) (by assumption) ?_
          rotate_left
          · (intro W _; go_simp; (with_reducible rfl))
          intro hHeld'
          clear hHeld; have hHeld := hHeld'; clear hHeld'
          try simp only [Act.put, List.setIfInBounds_toArray, List.set_cons_zero, List.set_cons_succ]
          refine wpAnyL_take0 (i := 10) (v := ?_) rfl (by kernel_rfl) (by kernel_rfl) (by kernel_rfl) (by rfl) (fun _ _ _ h => h) (Or.inl ⟨by rfl, ?_⟩) (by assumption) ?_
          rotate_left
          · (intro W _; go_simp; (with_reducible rfl))
          intro hHeld'
          clear hHeld; have hHeld := hHeld'; clear hHeld'
          try simp only [Act.put, List.setIfInBounds_toArray, List.set_cons_zero, List.set_cons_succ]
          refine wpAnyL_takeP (i := 11) 26 [] (v := ?_) (fun w' : World => w'.cell? ⟨G, 1, none⟩ = some (.slice (some ⟨gO, 0, none⟩) T.n cO) ∧ w'.cell? ⟨gO, s, none⟩ = some (.slice (some ⟨g2, 0, none⟩) L c2) ∧ w'.cell? ⟨g2, x, none⟩ = some (.int .i64 (ot : Nat))) rfl (by kernel_rfl) (by kernel_rfl) (by kernel_rfl) (by rfl) (by kernel_rfl) (by simp) (fun _ _ _ h => h) (Or.inl ⟨by rfl, ?_⟩) (by assumption) ?_
          rotate_left
          · (intro W hW; (obtain ⟨h1, h2, h3⟩ := hW); go_simp; (with_reducible rfl))
          intro hHeld'
          clear hHeld; have hHeld := hHeld'; clear hHeld'
          try simp only [Act.put, List.setIfInBounds_toArray, List.set_cons_zero, List.set_cons_succ]
          refine wpAnyL_take0 (i := 12) (v := ?_) rfl (by kernel_rfl) (by kernel_rfl) (by kernel_rfl) (by rfl) (fun _ _ _ h => h) (Or.inl ⟨by rfl, ?_⟩) (by assumption) ?_
          rotate_left
          · (intro W _; go_simp; (with_reducible rfl))
          intro hHeld'
          clear hHeld; have hHeld := hHeld'; clear hHeld'
          try simp only [Act.put, List.setIfInBounds_toArray, List.set_cons_zero, List.set_cons_succ]
          refine wpAnyL_take0 (i := 13) (v := ?_) rfl (by kernel_rfl) (by kernel_rfl) (by kernel_rfl) (by rfl) (fun _ _ _ h => h) (Or.inl ⟨by rfl, ?_⟩) (by assumption) ?_
          rotate_left
          · (intro W _; go_simp; (with_reducible rfl))
          intro hHeld'
          clear hHeld; have hHeld := hHeld'; clear hHeld'
          try simp only [Act.put, List.setIfInBounds_toArray, List.set_cons_zero, List.set_cons_succ]
          refine wpAnyL_takeP (i := 14) 26 [] (v := ?_) (fun w' : World => w'.cell? ⟨G, 1, none⟩ = some (.slice (some ⟨gO, 0, none⟩) T.n cO) ∧ w'.cell? ⟨gO, s, none⟩ = some (.slice (some ⟨g2, 0, none⟩) L c2) ∧ w'.cell? ⟨g2, x, none⟩ = some (.int .i64 (ot : Nat))) rfl (by kernel_rfl) (by kernel_rfl) (by kernel_rfl) (by rfl) (by kernel_rfl) (by simp) (fun _ _ _ h => h) (Or.inl ⟨by rfl, ?_⟩) (by assumption) ?_
          rotate_left
          · (intro W hW; (obtain ⟨h1, h2, h3⟩ := hW); go_simp; (with_reducible rfl))
          intro hHeld'
          clear hHeld; have hHeld := hHeld'; clear hHeld'
          try simp only [Act.put, List.setIfInBounds_toArray, List.set_cons_zero, List.set_cons_succ]
          refine wpAnyL_take0 (i := 15) (v := ?_) rfl (by kernel_rfl) (by kernel_rfl) (by kernel_rfl) (by rfl) (fun _ _ _ h => h) (Or.inl ⟨by rfl, ?_⟩) (by assumption) ?_
          rotate_left
          · (intro W _; go_simp; (with_reducible rfl))
          intro hHeld'
          clear hHeld; have hHeld := hHeld'; clear hHeld'
          try simp only [Act.put, List.setIfInBounds_toArray, List.set_cons_zero, List.set_cons_succ]
          refine wpAnyL_take0 (i := 16) (v := ?_) rfl (by kernel_rfl) (by kernel_rfl) (by kernel_rfl) (by rfl) (fun _ _ _ h => h) (Or.inl ⟨by rfl, ?_⟩) (by assumption) ?_
          rotate_left
          · (intro W _; go_simp; (with_reducible rfl))
          intro hHeld'
          clear hHeld; have hHeld := hHeld'; clear hHeld'
          try simp only [Act.put, List.setIfInBounds_toArray, List.set_cons_zero, List.set_cons_succ]
          refine wpAnyL_takeP (i := 17) 26 [] (v := ?_) (fun w' : World => w'.cell? ⟨G, 1, none⟩ = some (.slice (some ⟨gO, 0, none⟩) T.n cO) ∧ w'.cell? ⟨gO, s, none⟩ = some (.slice (some ⟨g2, 0, none⟩) L c2) ∧ w'.cell? ⟨g2, x, none⟩ = some (.int .i64 (ot : Nat))) rfl (by kernel_rfl) (by kernel_rfl) (by kernel_rfl) (by rfl) (by kernel_rfl) (by simp) (fun _ _ _ h => h) (Or.inl ⟨by rfl, ?_⟩) (by assumption) ?_
          rotate_left
          · (intro W hW; (obtain ⟨h1, h2, h3⟩ := hW); go_simp; (with_reducible rfl))
          intro hHeld'
          clear hHeld; have hHeld := hHeld'; clear hHeld'
          try simp only [Act.put, List.setIfInBounds_toArray, List.set_cons_zero, List.set_cons_succ]
          refine wpAnyL_take0 (i := 18) (v := ?_) rfl (by kernel_rfl) (by kernel_rfl) (by kernel_rfl) (by rfl) (fun _ _ _ h => h) (Or.inl ⟨by rfl, ?_⟩) (by assumption) ?_
          rotate_left
          · (intro W _; go_simp; (with_reducible rfl))
          intro hHeld'
          clear hHeld; have hHeld := hHeld'; clear hHeld'
          try simp only [Act.put, List.setIfInBounds_toArray, List.set_cons_zero, List.set_cons_succ]
          refine wpAnyL_take0 (i := 19) (v := ?_) rfl (by kernel_rfl) (by kernel_rfl) (by kernel_rfl) (by rfl) (fun _ _ _ h => h) (Or.inl ⟨by rfl, ?_⟩) (by assumption) ?_
          rotate_left
          · (intro W _; go_simp; (with_reducible rfl))
          intro hHeld'
          clear hHeld; have hHeld := hHeld'; clear hHeld'
          try simp only [Act.put, List.setIfInBounds_toArray, List.set_cons_zero, List.set_cons_succ]
          refine wpAnyL_take0 (i := 20) (v := ?_) rfl (by kernel_rfl) (by kernel_rfl) (by kernel_rfl) (by rfl) (fun _ _ _ h => h) (Or.inl ⟨by rfl, ?_⟩) (by assumption) ?_
          rotate_left
          · (intro W _; go_simp; (with_reducible rfl))
          intro hHeld'
          clear hHeld; have hHeld := hHeld'; clear hHeld'
          try simp only [Act.put, List.setIfInBounds_toArray, List.set_cons_zero, List.set_cons_succ]
          refine wpAnyL_take0 (i := 23) (v := ?_) rfl (by kernel_rfl) (by kernel_rfl) (by kernel_rfl) (by rfl) (fun _ _ _ h => h) (Or.inl ⟨by rfl, ?_⟩) (by assumption) ?_
          rotate_left
          · (intro W _; go_simp; (with_reducible rfl))
          intro hHeld'
          clear hHeld; have hHeld := hHeld'; clear hHeld'
          try simp only [Act.put, List.setIfInBounds_toArray, List.set_cons_zero, List.set_cons_succ]
          refine wpAnyL_take0 (i := 24) (v := ?_) rfl (by kernel_rfl) (by kernel_rfl) (by kernel_rfl) (by rfl) (fun _ _ _ h => h) (Or.inl ⟨by rfl, ?_⟩) (by assumption) ?_
          rotate_left
          · (intro W _; go_simp; (with_reducible rfl))
          intro hHeld'
          clear hHeld; have hHeld := hHeld'; clear hHeld'
          try simp only [Act.put, List.setIfInBounds_toArray, List.set_cons_zero, List.set_cons_succ]
          refine wpAnyL_ready (rs := [6]) (by kernel_rfl) (by simp) ?_
          refine AllReadyL.cons rfl (fun K hK => ?_) AllReadyL.nil
          go_simp
          go_at_call 245
          (with_reducible refine (hc.out _ zS.out.bel).mono ?_)
          rintro e w1 ⟨rfl, d, rfl⟩
          go_simp
          replace zS := hid (zS.out.drewN d)
          generalize wa.drewN d = wb at *
          refine hK.out _ _ (HeldL.cons (fun _ => ⟨(hread.out _ zS.out.bel).2, (hr2.out _ zS.out.bel).1, by rw [← hoe.out]; exact (hr2.out _ zS.out.bel).2 x hxL⟩) HeldL.nil) (fun hHeld' => ?_)
          clear hK K hHeld; have hHeld := hHeld'; clear hHeld'
          try simp only [Act.put, List.setIfInBounds_toArray, List.set_cons_zero, List.set_cons_succ]
          refine wpAnyL_take0 (i := 7) (v := ?_) rfl (by kernel_rfl) (by kernel_rfl) (by kernel_rfl) (by rfl) (fun _ _ _ h => h) (Or.inl ⟨by rfl, ?_⟩) (by assumption) ?_
          rotate_left
          · (intro W _; go_simp; (with_reducible rfl))
          intro hHeld'
          clear hHeld; have hHeld := hHeld'; clear hHeld'
          try simp only [Act.put, List.setIfInBounds_toArray, List.set_cons_zero, List.set_cons_succ]
          refine wpAnyL_take0 (i := 21) (v := ?_) rfl (by kernel_rfl) (by kernel_rfl) (by kernel_rfl) (by rfl) (fun _ _ _ h => h) (Or.inl ⟨by rfl, ?_⟩) (by assumption) ?_
          rotate_left
          · (intro W _; go_simp; (with_reducible rfl))
          intro hHeld'
          clear hHeld; have hHeld := hHeld'; clear hHeld'
          try simp only [Act.put, List.setIfInBounds_toArray, List.set_cons_zero, List.set_cons_succ]
          obtain ⟨vn, cn⟩ : ∃ u, wb.cell? ⟨w.heap.size + 1, 2 + i * 3 + x, none⟩ = some u := ⟨_, zS.out.m0.cnx i x (by omega) (by omega)⟩
          have fn : wb.frozen? ⟨w.heap.size + 1, 2 + i * 3 + x, none⟩ = false := World.rowIs.frozen zS.out.m0 _
          refine wpAnyL_ready (rs := [22]) (by kernel_rfl) (by simp) ?_
          refine AllReadyL.cons rfl (fun K hK => ?_) AllReadyL.nil
          go_simp
          replace zS := hid (zS.out.setNx (Nat.le_succ _) i x ci (by omega) (by omega))
          clear cn fn
          generalize wb.setCell ⟨w.heap.size + 1, 2 + i * 3 + x, none⟩ (.int .u8 (ci : Nat)) = wc at *
          refine hK.out _ _ (HeldL.cons (fun _ => ⟨(hread.out _ zS.out.bel).2, (hr2.out _ zS.out.bel).1, by rw [← hoe.out]; exact (hr2.out _ zS.out.bel).2 x hxL⟩) HeldL.nil) (fun hHeld' => ?_)
          clear hK K hHeld; have hHeld := hHeld'; clear hHeld'
          try simp only [Act.put, List.setIfInBounds_toArray, List.set_cons_zero, List.set_cons_succ]
          refine wpAnyL_take0 (i := 25) (v := ?_) rfl (by kernel_rfl) (by kernel_rfl) (by kernel_rfl) (by rfl) (fun _ _ _ h => h) (Or.inl ⟨by rfl, ?_⟩) (by assumption) ?_
          rotate_left
          · (intro W _; go_simp; (with_reducible rfl))
          intro hHeld'
          clear hHeld; have hHeld := hHeld'; clear hHeld'
          try simp only [Act.put, List.setIfInBounds_toArray, List.set_cons_zero, List.set_cons_succ]
          obtain ⟨vn, cn⟩ : ∃ u, wc.cell? ⟨w.heap.size + 1, 50 + i * 3 + x, none⟩ = some u := ⟨_, zS.out.m0.cot i x (by omega) (by omega)⟩
          have fn : wc.frozen? ⟨w.heap.size + 1, 50 + i * 3 + x, none⟩ = false := World.rowIs.frozen zS.out.m0 _
          refine wpAnyL_ready (rs := [26]) (by kernel_rfl) (by simp) ?_
          refine AllReadyL.cons rfl (fun K hK => ?_) AllReadyL.nil
          go_simp
          replace zS := hid (zS.out.setOt (Nat.le_succ _) i x ot (by omega) (by omega))
          clear cn fn
          refine hK.out _ _ (HeldL.cons (fun h => absurd h (by decide +kernel)) HeldL.nil) (fun hHeld' => ?_)
          clear hK K hHeld; have hHeld := hHeld'; clear hHeld'
          try simp only [Act.put, List.setIfInBounds_toArray, List.set_cons_zero, List.set_cons_succ]
          refine wpAnyL_done (by kernel_rfl) ?_ _
          go_wp2
          go_roundw
          case rel => exact ⟨x + 1, by omega, by go_num, by rw [hst2.out]; exact zS.out⟩
          case measure => simp [intOf]; omega
        · obtain rfl : L = x := by omega
          replace yS := hid yS
          go_wp2
          go_roundw
          case rel => exact ⟨i + 1, by omega, by go_num, by rw [← hrow.out]; exact yS.out⟩
          case measure => simp [intOf]; omega
    · obtain rfl : N = i := by omega
      rw [hfin'.out] at rS
      replace rS := hid rS
      go_wp2_with (first
        | ((with_reducible refine gate (N := 65) rfl ?_); refine load_mach rfl _ rfl (w.heap.size + 1) rfl _ rS.out.m0 ?_)
        | ((with_reducible refine gateOp (op := .store 27 (.tmp 8) (.tmp 65)) rfl ?_); refine store_mach rfl _ _ rfl w.heap.size rfl _ rfl 27 _ rS.out.m1 ?_; intro W3 p2 ho hsz hbl; have pB := hid (hbl _ _ (Nat.le_refl _) rS.out.bel); replace p2 := hid p2; clear ho hsz hbl))
      exact ret_mach rfl rfl p2.out rfl ⟨rfl, pB.out⟩
end Go.Proofs.Ytbmkkaecfogmoaa

/- The machine of a state of a table: the program's search. -/
namespace Go.Proofs.Ytbmkkaecfogmoaa
open Go.RowKit
set_option linter.unusedVariables false
set_option linter.unusedSimpArgs false

set_option maxHeartbeats 8000000 in
set_option maxRecDepth 100000 in
theorem machineFrom_any (w : World) (G q : Nat) (vN vO : Value) (T : Tab) (hT : T.Ok) (hL : T.L ≤ 3) (hL0 : 0 < T.L) (hn : T.n < 100000) (hTB : TB w G vN vO T) (hot : ∀ q x, q < T.n → x < T.L → T.ot q x < 256) (hq : q < T.n) :
    Calls Try.prog 236 #[.pointer (some ⟨G, 0, none⟩), .int .i64 T.L, .int .i64 q] w fun e w' => e = .returned (.tuple #[.agg (mcells (fromM T q)), .int .i64 (fromC T q)]) ∧ Below w.heap.size w w' := by
  have hz := zero_mach
  have hS := hid ((St.start w).newMB ⟨0, 0, fun _ => 0, fun _ => 0⟩ 27)
  have hB0 := hid (hS.out.bel)
  have hTB1 := hid (hTB.below hB0.out)
  have hls := hid (fun W hW => least_any W G vN vO T hT (by omega) hL0 hn hW)
  have hgt := hid (fun W bs bo base vs vo st hW => gathered_any W G bs bo base vN vO vs vo T st hT hL hL0 hn hW hot)
  have hfl := hid (fun j (hj : j < T.n) => (show (nats ((List.range T.n).map (fix T)))[j]? = some (.int .i64 (fix T j : Nat)) by simp [nats, hj]))
  have hfn := hid (show (nats ((List.range T.n).map (fix T))).length = T.n by simp [nats])
  have huq := hid (bfs_uniq hT (fun q hq => fix_lt q hq) q hq)
  have hfin := hid (fun i hi => fin_of hT (c := fix T) (fun q hq => fix_lt q hq) (q := q) (i := i) hq hi)
  have hclo := hid (fin_closed hT (c := fix T) (fun q hq => fix_lt q hq) hq)
  have hsm := hid (fun i s hi => bfs_some T (fix T) (q := q) (i := i) (s := s) hi)
  have hnx := hid (fun q x (hq : q < T.n) (hx : x < T.L) => hT.nx q x hq hx)
  have hpos := hT.pos
  obtain ⟨gN, cN, rfl, _, _⟩ := hTB.2.1.blk (fun e => by have h1 := congrArg List.length e; rw [tbL_length, List.length_nil] at h1; omega)
  have hrd := hid (fun W (hb : Below w.heap.size w W) => (hTB.below hb))
  have hread := hid (fun W (hb : Below w.heap.size w W) => (show W.cell? ⟨G, 0, none⟩ = some (.slice (some ⟨gN, 0, none⟩) T.n cN) from by have h := (hTB.below hb).c0; rw [tbL_length] at h; exact h))
  have hrowN := hid (fun q (hq : q < T.n) => (show ∃ g c, ∀ W, Below w.heap.size w W → W.cell? ⟨gN, q, none⟩ = some (.slice (some ⟨g, 0, none⟩) T.L c) ∧ ∀ x, x < T.L → W.cell? ⟨g, x, none⟩ = some (.int .i64 (T.nx q x : Nat)) from by
    obtain ⟨rows, hO, hlr, hall⟩ := hTB.2.1
    have hi : q < rows.length := by rw [hlr, tbL_length]; exact hq
    obtain ⟨r, hr⟩ : ∃ r, rows[q]? = some r := ⟨_, List.getElem?_eq_getElem hi⟩
    have hrow := hall q r _ hr (tbL_get T.nx T.n T.L q hq)
    obtain ⟨g, c, rfl, _, _⟩ := hrow.blk (fun e => by have h1 := congrArg List.length e; rw [ints_length, rwI_length, List.length_nil] at h1; omega)
    rw [ints_length, rwI_length] at hr hrow
    exact ⟨g, c, fun W hb => ⟨(hO.below hb).cellAt q _ hr, fun x hx => (hrow.below hb).cellAt x _ (by simp [ints, rwI_get _ _ _ _ hx])⟩⟩))
  replace hT := hid hT; replace hot := hid hot
  clear hTB
  generalize hFL : nats ((List.range T.n).map (fix T)) = FL at *
  replace hFL := hid hFL
  generalize hLL : T.L = L at *
  replace hLL := hid hLL
  generalize hnn : T.n = n at *
  replace hnn := hid hnn
  generalize hzs : mcells ⟨0, 0, fun _ => 0, fun _ => 0⟩ = zs at *
  replace hzs := hid hzs
  go_enter Try.func236, Try.ntmps236
  go_upto_region 3 with (go_at_call 90; (with_reducible refine (hls.out _ hTB1.out).mono ?_); rintro e w1 ⟨vof, rfl, hO, hb⟩; replace hS := hid (hS.out.callOwn hb hO); obtain ⟨gf, cf, rfl, _, _⟩ := hO.blk (fun e => by have h1 := congrArg List.length e; rw [hfn.out, List.length_nil] at h1; omega); rw [hfn.out] at hS ⊢; have cq := (hS.out.alloc (.cells #[.slice (some ⟨gf, 0, none⟩) n cf] 29)).o0.cellAt q _ (hfl.out q hq); clear hO hb hls)
  have hS2 := hid (((hS.out.newBlk #[.slice (some ⟨gf, 0, none⟩) n cf] 29).newOwn [.int .i64 (fix T q : Nat)] 2 (by simp)).newBlk #[.slice (some ⟨w1.heap.size + 1, 0, none⟩) 1 1] 29)
  simp only [heap_alloc_size, List.length_cons, List.length_nil] at hS2
  have hS1le := hid hS.out.le
  clear hS cq
  generalize ((w1.alloc (.cells #[.slice (some ⟨gf, 0, none⟩) n cf] 29)).alloc (.cells #[.int .i64 (fix T q : Nat)] 2)).alloc (.cells #[.slice (some ⟨w1.heap.size + 1, 0, none⟩) 1 1] 29) = w3 at *
  have h0 : bfs T (fix T) q 0 = [fix T q] := rfl
  have hS3 := hid (show St w.heap.size w [Asn.blk (w1.heap.size + 1 + 1) #[.slice (some ⟨w1.heap.size + 1, 0, none⟩) 1 1] 29, Asn.own w.heap.size 2 (.slice (some ⟨w1.heap.size + 1, 0, none⟩) 1 1) (nats (bfs T (fix T) q 0)), Asn.blk w1.heap.size #[.slice (some ⟨gf, 0, none⟩) n cf] 29, Asn.own w.heap.size 2 (.slice (some ⟨gf, 0, none⟩) n cf) FL, Asn.mb 27 w.heap.size ⟨0, 0, fun _ => 0, fun _ => 0⟩] w3 from hS2.out)
  clear hS2 h0 hB0
  have hle : w.heap.size ≤ w1.heap.size + 1 + 1 := by have := hS1le.out; omega
  replace hle := hid hle
  generalize w1.heap.size + 1 + 1 = bs at *
  generalize w1.heap.size = bo at *
  go_wp2
  go_loopw [10] (fun i wr => ∃ i' N : Nat, i = .int .i64 i' ∧ i' ≤ N ∧ (bfs T (fix T) q i').length = N ∧ ∃ g1 c1, St w.heap.size w [Asn.blk bs #[.slice (some ⟨g1, 0, none⟩) N c1] 29, Asn.own w.heap.size 2 (.slice (some ⟨g1, 0, none⟩) N c1) (nats (bfs T (fix T) q i')), Asn.blk bo #[.slice (some ⟨gf, 0, none⟩) n cf] 29, Asn.own w.heap.size 2 (.slice (some ⟨gf, 0, none⟩) n cf) FL, Asn.mb 27 w.heap.size ⟨0, 0, fun _ => 0, fun _ => 0⟩] wr) (fun i _ => n - (intOf i).toNat)
  case atStart => exact ⟨0, 1, rfl, by omega, rfl, _, _, hS3.out⟩
  case round =>
    obtain ⟨i, N, rfl, hiN, hN, g1, c1, rS⟩ := hrel
    clear hS3
    have hNn := (huq.out i).len
    rw [hN] at hNn
    have e1 : wr.cell? ⟨bs, 0, none⟩ = some (.slice (some ⟨g1, 0, none⟩) N c1) := cell_of_row _ _ 0 _ _ _ rS.k0
    replace hN := hid hN
    replace rS := hid rS
    by_cases hlt : i < N
    · obtain ⟨s, hs⟩ : ∃ s, (bfs T (fix T) q i)[i]? = some s := ⟨_, List.getElem?_eq_getElem (by rw [hN.out]; exact hlt)⟩
      have hsn := (huq.out i).2 s (List.mem_of_getElem? hs)
      have e2 := rS.out.o1.cellAt i (.int .i64 (s : Nat)) (by simp [nats, hs])
      have e3 := hread.out wr rS.out.bel
      obtain ⟨gr, cr, hr⟩ := hrowN.out s hsn
      have e4 := (hr wr rS.out.bel).1
      have hms := hid (hsm.out i s hs)
      have dlt : decide ((i : Int) < (N : Int)) = true := decide_eq_true (by omega)
      have huqi := hid (huq.out i)
      have huqm := hid (fun x (hx : x ≤ L) => by
        have h := Uniq.meets (T := T) (c := fix T) hT.out (fun q hq => fix_lt q hq) (s := s) (by rw [hnn.out]; exact hsn) (by rw [hnn.out]; exact huqi.out) x (by rw [hLL.out]; exact hx)
        rw [hnn.out] at h
        exact h)
      replace hr := hid hr
      clear hs
      go_upto_region 6 with (fail)
      go_quiet (fail)
      go_wp2
      clear e1 e2 e3 e4
      go_loopw [37] (fun j wr => ∃ x N : Nat, x ≤ L ∧ j = .int .i64 x ∧ (meets T (fix T) s (bfs T (fix T) q i) x).length = N ∧ i < N ∧ ∃ g1 c1, St w.heap.size w [Asn.blk bs #[.slice (some ⟨g1, 0, none⟩) N c1] 29, Asn.own w.heap.size 2 (.slice (some ⟨g1, 0, none⟩) N c1) (nats (meets T (fix T) s (bfs T (fix T) q i) x)), Asn.blk bo #[.slice (some ⟨gf, 0, none⟩) n cf] 29, Asn.own w.heap.size 2 (.slice (some ⟨gf, 0, none⟩) n cf) FL, Asn.mb 27 w.heap.size ⟨0, 0, fun _ => 0, fun _ => 0⟩] wr) (fun j _ => L - (intOf j).toNat)
      case atStart => exact ⟨0, N, Nat.zero_le _, rfl, hN.out, hlt, _, _, rS.out.drewN _⟩
      case round =>
        obtain ⟨x, N2, hx, rfl, hN2, hiN2, g2, c2, yS⟩ := hrel
        clear rS
        replace yS := hid yS
        by_cases hxL : x < L
        · have e5 := (hr.out wr yS.out.bel).2 x hxL
          have hrn := hnx.out s x hsn hxL
          have hsucc := hid (show meets T (fix T) s (bfs T (fix T) q i) (x + 1) = meet (meets T (fix T) s (bfs T (fix T) q i) x) (fix T (T.nx s x)) from rfl)
          have hum := hid (huqm.out x hx)
          have hN2n := hum.out.len
          rw [hN2] at hN2n
          have hffl := hfl.out _ hrn
          generalize T.nx s x = r at *
          generalize hmx : meets T (fix T) s (bfs T (fix T) q i) x = ms at *
          replace hmx := hid hmx
          generalize hfr : fix T r = fr at *
          replace hfr := hid hfr
          have e1 : wr.cell? ⟨bs, 0, none⟩ = some (.slice (some ⟨g2, 0, none⟩) N2 c2) := cell_of_row _ _ 0 _ _ _ yS.out.k0
          have e2 : wr.cell? ⟨bo, 0, none⟩ = some (.slice (some ⟨gf, 0, none⟩) n cf) := cell_of_row _ _ 0 _ _ _ yS.out.k2
          have e3 := yS.out.o3.cellAt r _ hffl
          have hN2' := hid hN2
          clear hN2
          by_cases hmem : fr ∈ ms
          · have hcn := hid (fun d => slContains_any (wr.drewN d) _ _ (ms.map Int.ofNat) (fr : Int) (by rw [← nats_ints]; exact yS.out.o1.drewN d) (by rw [List.length_map, hN2'.out]; omega) true ⟨fun _ => List.mem_map.2 ⟨fr, hmem, rfl⟩, fun _ => rfl⟩)
            have hsame := hid (show meet ms fr = ms from if_pos hmem)
            clear hmem hffl
            go_upto_region 9 with (fail)
            go_quiet ((go_at_call 212; exact quiet_same (hcn.out _)))
            go_wp2
            go_roundw
            case rel => exact ⟨x + 1, N2, by omega, by go_num, by rw [hsucc.out, hsame.out]; exact hN2'.out, hiN2, _, _, by rw [hsucc.out, hsame.out]; exact yS.out.drewN _⟩
            case measure => simp [intOf]; omega
          · have hcn := hid (fun d => slContains_any (wr.drewN d) _ _ (ms.map Int.ofNat) (fr : Int) (by rw [← nats_ints]; exact yS.out.o1.drewN d) (by rw [List.length_map, hN2'.out]; omega) false ⟨fun h => (by cases h), fun h => by
              obtain ⟨a, ha, e⟩ := List.mem_map.1 h
              have e2 : a = fr := Int.ofNat.inj e
              subst e2
              exact absurd ha hmem⟩)
            have hsame := hid (show meet ms fr = ms ++ [fr] from if_neg hmem)
            clear hmem hffl
            go_upto_region 9 with (fail)
            go_quiet ((go_at_call 212; exact quiet_same (hcn.out _)))
            go_upto_region 10 with (fail)
            clear e1 e2 e3 e5
            have zS := hid (yS.out.drewN nq).drew
            clear yS hcn
            have hlnat := hid (show (nats ms).length = N2 by rw [nats_length]; exact hN2'.out)
            have hsnoc := hid (show nats (ms ++ [fr]) = nats ms ++ [.int .i64 (fr : Int)] by simp [nats])
            have hff := hid (show FL[r]? = some (.int .i64 (fr : Nat)) by have h := hfl.out r hrn; rw [hfr.out] at h; exact h)
            have hT0 : (wr.drewN nq).drew.cell? ⟨bs, 0, none⟩ = some (.slice (some ⟨g2, 0, none⟩) N2 c2) ∧ (wr.drewN nq).drew.cell? ⟨bo, 0, none⟩ = some (.slice (some ⟨gf, 0, none⟩) n cf) ∧ (wr.drewN nq).drew.cell? ⟨gf, r, none⟩ = some (.int .i64 (fr : Nat)) := ⟨cell_of_row _ _ 0 _ _ _ zS.out.k0, cell_of_row _ _ 0 _ _ _ zS.out.k2, zS.out.o3.cellAt r _ hff.out⟩
            refine wp_region_heldL (L := [(7, (fun w' : World => w'.cell? ⟨bs, 0, none⟩ = some (.slice (some ⟨g2, 0, none⟩) N2 c2) ∧ w'.cell? ⟨bo, 0, none⟩ = some (.slice (some ⟨gf, 0, none⟩) n cf) ∧ w'.cell? ⟨gf, r, none⟩ = some (.int .i64 (fr : Nat))))]) (by kernel_rfl) (HeldL.cons (fun _ => hT0) HeldL.nil) (fun hHeld => ?_)
            clear hT0
            generalize (wr.drewN nq).drew = wa at *
            refine wpAnyL_takeP (i := 0) 7 [] (v := ?_) (fun w' : World => w'.cell? ⟨bs, 0, none⟩ = some (.slice (some ⟨g2, 0, none⟩) N2 c2) ∧ w'.cell? ⟨bo, 0, none⟩ = some (.slice (some ⟨gf, 0, none⟩) n cf) ∧ w'.cell? ⟨gf, r, none⟩ = some (.int .i64 (fr : Nat))) rfl (by kernel_rfl) (by kernel_rfl) (by kernel_rfl) (by rfl) (by kernel_rfl) (by simp) (fun _ _ _ h => h) (Or.inl ⟨by rfl, ?_⟩) (by assumption) ?_
            rotate_left
            · (intro W hW; (obtain ⟨h1, h2, h3⟩ := hW); go_simp; (with_reducible rfl))
            intro hHeld'
            clear hHeld; have hHeld := hHeld'; clear hHeld'
            try simp only [Act.put, List.setIfInBounds_toArray, List.set_cons_zero, List.set_cons_succ]
            refine wpAnyL_takeP (i := 1) 7 [] (v := ?_) (fun w' : World => w'.cell? ⟨bs, 0, none⟩ = some (.slice (some ⟨g2, 0, none⟩) N2 c2) ∧ w'.cell? ⟨bo, 0, none⟩ = some (.slice (some ⟨gf, 0, none⟩) n cf) ∧ w'.cell? ⟨gf, r, none⟩ = some (.int .i64 (fr : Nat))) rfl (by kernel_rfl) (by kernel_rfl) (by kernel_rfl) (by rfl) (by kernel_rfl) (by simp) (fun _ _ _ h => h) (Or.inl ⟨by rfl, ?_⟩) (by assumption) ?_
            rotate_left
            · (intro W hW; (obtain ⟨h1, h2, h3⟩ := hW); go_simp; (with_reducible rfl))
            intro hHeld'
            clear hHeld; have hHeld := hHeld'; clear hHeld'
            try simp only [Act.put, List.setIfInBounds_toArray, List.set_cons_zero, List.set_cons_succ]
            refine wpAnyL_take0 (i := 2) (v := ?_) rfl (by kernel_rfl) (by kernel_rfl) (by kernel_rfl) (by rfl) (fun _ _ _ h => h) (Or.inl ⟨by rfl, ?_⟩) (by assumption) ?_
            rotate_left
            · (intro W _; go_simp; (with_reducible rfl))
            intro hHeld'
            clear hHeld; have hHeld := hHeld'; clear hHeld'
            try simp only [Act.put, List.setIfInBounds_toArray, List.set_cons_zero, List.set_cons_succ]
            refine wpAnyL_take0 (i := 3) (v := ?_) rfl (by kernel_rfl) (by kernel_rfl) (by kernel_rfl) (by rfl) (fun _ _ _ h => h) (Or.inl ⟨by rfl, ?_⟩) (by assumption) ?_
            rotate_left
            · (intro W _; go_simp; (with_reducible rfl))
            intro hHeld'
            clear hHeld; have hHeld := hHeld'; clear hHeld'
            try simp only [Act.put, List.setIfInBounds_toArray, List.set_cons_zero, List.set_cons_succ]
            refine wpAnyL_takeP (i := 4) 7 [] (v := ?_) (fun w' : World => w'.cell? ⟨bs, 0, none⟩ = some (.slice (some ⟨g2, 0, none⟩) N2 c2) ∧ w'.cell? ⟨bo, 0, none⟩ = some (.slice (some ⟨gf, 0, none⟩) n cf) ∧ w'.cell? ⟨gf, r, none⟩ = some (.int .i64 (fr : Nat))) rfl (by kernel_rfl) (by kernel_rfl) (by kernel_rfl) (by rfl) (by kernel_rfl) (by simp) (fun _ _ _ h => h) (Or.inl ⟨by rfl, ?_⟩) (by assumption) ?_
            rotate_left
            · (intro W hW; (obtain ⟨h1, h2, h3⟩ := hW); go_simp; (with_reducible rfl))
            intro hHeld'
            clear hHeld; have hHeld := hHeld'; clear hHeld'
            try simp only [Act.put, List.setIfInBounds_toArray, List.set_cons_zero, List.set_cons_succ]
            refine wpAnyL_ready (rs := [5]) (by kernel_rfl) (by simp) ?_
            refine AllReadyL.cons rfl (fun K hK => ?_) AllReadyL.nil
            go_simp
            replace zS := hid (zS.out.newBlk #[.int .i64 (fr : Int)] 2)
            generalize wa.heap.size = bB at *
            generalize wa.alloc (.cells #[.int .i64 (fr : Int)] 2) = wb at *
            refine hK.out _ _ (HeldL.cons (fun _ => ⟨cell_of_row _ _ 0 _ _ _ zS.out.k1, cell_of_row _ _ 0 _ _ _ zS.out.k3, zS.out.o4.cellAt r _ hff.out⟩) HeldL.nil) (fun hHeld' => ?_)
            clear hK K hHeld; have hHeld := hHeld'; clear hHeld'
            try simp only [Act.put, List.setIfInBounds_toArray, List.set_cons_zero, List.set_cons_succ]
            refine wpAnyL_ready (rs := [6]) (by kernel_rfl) (by simp) ?_
            refine AllReadyL.cons rfl (fun K hK => ?_) AllReadyL.nil
            refine St.step1 29 2 2 (.int .i64 0) 8 Try.underlying29 info_i64 rfl (by omega) rfl _ _ rfl _ _ rfl (zS.out.f2) rfl rfl _ hlnat.out (by omega) ?_
            intro gn cn wc zS'
            replace zS := hid zS'.f1.drop; clear zS'
            refine hK.out _ _ (HeldL.cons (fun _ => ⟨cell_of_row _ _ 0 _ _ _ zS.out.k1, cell_of_row _ _ 0 _ _ _ zS.out.k2, zS.out.o3.cellAt r _ hff.out⟩) HeldL.nil) (fun hHeld' => ?_)
            clear hK K hHeld; have hHeld := hHeld'; clear hHeld'
            try simp only [Act.put, List.setIfInBounds_toArray, List.set_cons_zero, List.set_cons_succ]
            have q1 : wc.cell? ⟨bs, 0, none⟩ = some (.slice (some ⟨g2, 0, none⟩) N2 c2) := cell_of_row _ _ 0 _ _ _ zS.out.k1
            have q2 := frozen_of_row _ _ 0 _ _ zS.out.k1
            refine wpAnyL_ready (rs := [7]) (by kernel_rfl) (by simp) ?_
            refine AllReadyL.cons rfl (fun K hK => ?_) AllReadyL.nil
            go_simp
            replace zS := hid (show St w.heap.size w (Asn.blk bs #[.slice (some ⟨gn, 0, none⟩) (N2 + 1) cn] 29 :: _) _ from zS.out.f1.setBlk hle.out 0 (.slice (some ⟨gn, 0, none⟩) (N2 + 1) cn)); clear q1 q2
            refine hK.out _ _ (HeldL.cons (fun h => absurd h (by decide +kernel)) HeldL.nil) (fun hHeld' => ?_)
            clear hK K hHeld; have hHeld := hHeld'; clear hHeld'
            try simp only [Act.put, List.setIfInBounds_toArray, List.set_cons_zero, List.set_cons_succ]
            refine wpAnyL_done (by kernel_rfl) ?_ _
            go_wp2
            go_roundw
            case rel => exact ⟨x + 1, N2 + 1, by omega, by go_num, by rw [hsucc.out, hsame.out, List.length_append, hN2'.out]; rfl, by omega, _, _, by rw [hsucc.out, hsame.out, hsnoc.out]; exact zS.out⟩
            case measure => simp [intOf]; omega
        · obtain rfl : L = x := by omega
          have hN2' := hid hN2
          clear hN2
          go_wp2
          go_roundw
          case rel => exact ⟨i + 1, N2, by go_num, by omega, by rw [hms.out]; exact hN2'.out, _, _, by rw [hms.out]; exact yS.out⟩
          case measure => simp [intOf]; omega
    · obtain rfl : N = i := by omega
      have hf := hid (hfin.out N hN.out)
      have hA := hid (show fromM T q = if (bfs T (fix T) q N).length ≤ 16 then gth T (fix T) (bfs T (fix T) q N) else ⟨0, 0, fun _ => 0, fun _ => 0⟩ by unfold fromM; rw [hf.out])
      have hC := hid (show fromC T q = if (bfs T (fix T) q N).length ≤ 16 then 0 else 3 by unfold fromC; rw [hf.out])
      rw [hN.out] at hA hC
      by_cases h16 : N ≤ 16
      · have hg := hid (hgt.out wr bs bo w.heap.size (.slice (some ⟨g1, 0, none⟩) N c1) (.slice (some ⟨gf, 0, none⟩) n cf) (bfs T (fix T) q N) (hrd.out wr rS.out.bel) e1 (cell_of_row _ _ 0 _ _ _ rS.out.k2)
          ((Array.getElem?_eq_some_iff.1 rS.out.k0).1) ((Array.getElem?_eq_some_iff.1 rS.out.k2).1) rS.out.o1 rS.out.o3 (huq.out N).2 (by rw [← hf.out]; exact hclo.out) (by rw [hN.out]; exact h16))
        rw [if_pos h16] at hA hC
        generalize gth T (fix T) (bfs T (fix T) q N) = gm at *
        have hmf : ∀ (fn : Fn) (first cap : Array Value) (w : World), (Instr.makeFunc fn first cap).run Try.prog w = .ok (.func fn first cap) w := fun _ _ _ _ => rfl
        have d16 : decide ((N : Int) > 16) = false := decide_eq_false (by omega)
        clear hf hN
        go_wp2_with (first
          | (go_at_call 183; (with_reducible refine (hg.out).mono ?_); rintro e w5 ⟨rfl, hb⟩; replace rS := hid (rS.out.call hb).f4; clear hb hg)
          | ((with_reducible refine gateOp (op := .store 27 (.tmp 6) (.tmp 64)) rfl ?_); refine store_mach rfl _ _ rfl w.heap.size rfl gm rfl 27 _ rS.out.m0 ?_; intro W3 p2 ho hsz hbl; have pB := hid (hbl _ _ (Nat.le_refl _) rS.out.bel); replace p2 := hid p2; clear ho hsz hbl))
        exact ret_mach_i rfl rfl rfl p2.out rfl ⟨by rw [hA.out, hC.out], pB.out⟩
      · rw [if_neg h16] at hA hC
        have d16 : decide ((N : Int) > 16) = true := decide_eq_true (by omega)
        replace rS := hid rS.out.f4
        clear hf hN
        go_wp2_with (first
          | ((with_reducible refine gate (N := 59) rfl ?_); refine build_zero rfl rfl ?_)
          | ((with_reducible refine gateOp (op := .store 27 (.tmp 6) (.tmp 59)) rfl ?_); refine store_mach rfl _ _ rfl w.heap.size rfl ⟨0, 0, fun _ => 0, fun _ => 0⟩ rfl 27 _ rS.out.m0 ?_; intro W3 p2 ho hsz hbl; have pB := hid (hbl _ _ (Nat.le_refl _) rS.out.bel); replace p2 := hid p2; clear ho hsz hbl))
        exact ret_mach_i rfl rfl rfl p2.out rfl ⟨by rw [hA.out, hC.out], pB.out⟩
end Go.Proofs.Ytbmkkaecfogmoaa

/- The machine of a state of a machine: the program's side. -/
namespace Go.Proofs.Ytbmkkaecfogmoaa
open Go.RowKit
set_option linter.unusedVariables false
set_option linter.unusedSimpArgs false

/-- A machine stored, at a step of a region that draws. -/
theorem step_store_mach {ops : Array Oper} {o : Oper} {a : Act} {w : World} {K : Act → World → Prop} {Q : Exit → Act → World → Prop} {E : Prop} (hgd : o.guard = none) (x y : Operand) (ho : o.op = .store 27 x y)
    (b : Nat) (hx : a.eval x = .pointer (some ⟨b, 0, none⟩)) (m : Mach) (hy : a.eval y = .agg (mcells m)) (t : Nat) (f : Nat → Value) (hrow : w.rowIs b t 98 f)
    (h : ∀ w', MB w' t b m → (∀ k, k ≠ b → w'.heap[k]? = w.heap[k]?) → (∀ (B : Nat) (a : World), B ≤ b → Below B a w → Below B a w') → K (a.put o.dst undef) w') :
    if Region.wanted o (yielded ops a.tmps) = true then Oper.wp Try.prog o a w K Q else E := by
  have hw : Region.wanted o (yielded ops a.tmps) = true := by simp [Region.wanted, hgd]
  rw [if_pos hw]
  refine wp_store_mid 27 x y ho b 0 (mcells m) hx hy (by rw [size_mcells]; exact rowIs_there hrow _ _ (by omega)) (by rw [size_mcells]; exact sz_mach) (one_mach m) ?_
  exact h _ (World.rowIs.congr (rowIs_setCells _ _ _ _ hrow) fun i hi => put_all _ _ _ _ hi) (fun k hk => block_setCells hk _ _ _) (fun B a hB hb => below_setCells hB _ _ hb)
theorem ot256 {m : Mach} {l s : Nat} (g : Good m l s) : ∀ q x, q < (tabOf m l s).n → x < (tabOf m l s).L → (tabOf m l s).ot q x < 256 := fun q x hq hx => by
  have h1 : (tabOf m l s).ot q x < l := g.ot q x hq hx
  have h2 := g.l3
  omega

end Go.Proofs.Ytbmkkaecfogmoaa

/- The reference's machines with any number of states. -/
namespace Go.Proofs.Ytbmkkaecfogmoaa
open Go.RowKit
set_option linter.unusedVariables false
set_option linter.unusedSimpArgs false

/-- An element of several cells appended, at a step of a region that draws: it lies in a box. -/
theorem St.stepN {ops : Array Oper} {o : Oper} {act : Act} {W w0 : World} {K : Act → World → Prop} {Q : Exit → Act → World → Prop} {E : Prop} {L : List Asn} {base : Nat} (t e tb : TypeId) (z : Value) (sz bytes : Nat)
    (ht : Try.prog.underlying t = some (.slice e)) (hinfo : (Try.prog.info? e).map (fun i => (i.zero, i.size, i.bytes)) = some (some z, sz, bytes)) (hz : z.cells.size = sz) (hsz : 0 < sz) (hb : bytes ≤ 64)
    (hgd : o.guard = none) (s x : Operand) (ho : o.op = .call { callee := .builtin .append, args := #[s, x], argTypes := #[t, t] })
    (v : Value) (n : Nat) (cs : List Value) (hs : act.eval s = v) {B : Nat} {news : List Value} (hS : St base w0 (Asn.ownN base e sz v n cs :: Asn.blk B news.toArray tb :: L) W) (hnl : news.length = sz) (hc1 : ∀ u ∈ news, u.oneCell' = true)
    (hx : act.eval x = .slice (some ⟨B, 0, none⟩) 1 1) (hlen : n ≤ 1000000)
    (h : ∀ g cap w', St base w0 (Asn.ownN base e sz (.slice (some ⟨g, 0, none⟩) (n + 1) cap) (n + 1) (cs ++ news) :: Asn.blk B news.toArray tb :: L) w' → K (act.put o.dst (.slice (some ⟨g, 0, none⟩) (n + 1) cap)) w') :
    if Region.wanted o (yielded ops act.tmps) = true then Oper.wp Try.prog o act W K Q else E := by
  obtain ⟨i, hi, hz0, hz1, hz2⟩ := info_parts hinfo
  have hw : Region.wanted o (yielded ops act.tmps) = true := by simp [Region.wanted, hgd]
  rw [if_pos hw]
  have hown : OwnN W base e sz v n cs := hS.star.1
  refine wp_append_lies W s x t ho base e i z sz bytes ht hi hz0 hz1 hz2 hz hsz v n cs hs hown ⟨B, 0, none⟩ 1 1 news hx (by rw [hnl, Nat.one_mul])
    (fun j u hu => ?_) hc1 (by omega) (by simp only [maxLen]; omega) (Nat.le_trans (Nat.mul_le_mul_left _ hb) (by omega)) hS.le _ rfl ?_
  · rw [Addr.add_mid, Nat.zero_add, cell_of_row W B j _ _ _ hS.star.2.2.1]
    simpa using hu
  · intro g cap w' h1 h2 h3 h4
    have hold : ∀ k, k < W.heap.size → v.ownBlock ≠ some k → w'.heap[k]? = W.heap[k]? := fun k hk hne => h2.block k hk (fun e => hne e.symm)
    exact h g cap w' (hS.appdN h1 ⟨h2.os, h2.tape, h2.output, h2.size, fun k hk => hold k (by have := hS.le; omega) (fun e => by have := (hown.lt k e).1; omega)⟩ hold (h3.imp id (fun e => Nat.le_of_eq e.symm)))

theorem OwnN.oneCell {w : World} {b e sz n : Nat} {v : Value} {cs : List Value} (h : OwnN w b e sz v n cs) : v.oneCell' = true := by
  rcases h.2 with ⟨rfl, _⟩ | ⟨g, cap, cur, rfl, _⟩ <;> rfl
/-- A struct or an array in a block of its own is handed back. -/
theorem ret_blk {P : Program} {fn : Func} {R : Ending → World → Prop} {a : Act} {w : World} {p ty : Nat} (h : fn.results = #[.cell p ty]) {g t : Nat} {cs : Array Value} {d : TypeDesc}
    (hp : a.tmps.getD p undef = .pointer (some ⟨g, 0, none⟩)) (hb : w.heap[g]? = some (.cells cs t (0, 0))) (hu : P.underlying ty = some d) (hd : (match d with | .struct _ | .array _ _ => true | _ => false) = true)
    (hi : (P.info? ty).map (·.size) = some cs.size) (hdf : a.defers = []) (hR : R (.returned (.agg cs)) w) : bodyPost P fn R .ret a w :=
  bodyPost_ret (results_cell_row h a.tmps w g t _ _ d hp hb hu hd hi) hdf hR

/-- The rows of a function as cells, three a row. -/
def rcs (k : IntKind) (f : Nat → Nat → Nat) (L n : Nat) : List Value := (List.range (n * 3)).map fun p => .int k ((if p % 3 < L then f (p / 3) (p % 3) else 0 : Nat) : Int)
def rc1 (k : IntKind) (f : Nat → Nat → Nat) (L q : Nat) : List Value := (List.range 3).map fun x => .int k ((if x < L then f q x else 0 : Nat) : Int)
theorem rcs_length (k : IntKind) (f : Nat → Nat → Nat) (L n : Nat) : (rcs k f L n).length = n * 3 := by simp [rcs]
theorem rc1_one (k : IntKind) (f : Nat → Nat → Nat) (L q : Nat) : ∀ u ∈ rc1 k f L q, u.oneCell' = true := by
  intro u hu
  obtain ⟨x, _, rfl⟩ := List.mem_map.1 hu
  rfl
theorem rc1_lit (k : IntKind) (f : Nat → Nat → Nat) (L q : Nat) : ∃ a b c : Nat, rc1 k f L q = [.int k (a : Int), .int k (b : Int), .int k (c : Int)] := ⟨_, _, _, rfl⟩
theorem rc1_get (k : IntKind) (f : Nat → Nat → Nat) (L q x : Nat) (hx : x < 3) : (rc1 k f L q)[x]? = some (.int k ((if x < L then f q x else 0 : Nat) : Int)) := by simp [rc1, hx]
theorem rcs_snoc (k : IntKind) (f : Nat → Nat → Nat) (L n : Nat) : rcs k f L (n + 1) = rcs k f L n ++ rc1 k f L n := by
  unfold rcs rc1
  rw [show (n + 1) * 3 = n * 3 + 3 by omega, List.range_add, List.map_append, List.map_map]
  congr 1
  apply List.map_congr_left
  intro x hx
  have hx3 := List.mem_range.1 hx
  simp only [Function.comp]
  rw [show (n * 3 + x) % 3 = x by omega, show (n * 3 + x) / 3 = n by omega]
theorem rcs_get (k : IntKind) (f : Nat → Nat → Nat) (L n q x : Nat) (hq : q < n) (hx : x < 3) : (rcs k f L n)[q * 3 + x]? = some (.int k ((if x < L then f q x else 0 : Nat) : Int)) := by
  unfold rcs
  rw [List.getElem?_map, List.getElem?_range (by omega), Option.map_some, show (q * 3 + x) % 3 = x by omega, show (q * 3 + x) / 3 = q by omega]
theorem rcs_row (k : IntKind) (f : Nat → Nat → Nat) (L n q : Nat) (hq : q < n) : ∀ j, j < (rc1 k f L q).length → (rcs k f L n)[q * 3 + j]? = (rc1 k f L q)[j]? := fun j hj => by
  have hj3 : j < 3 := by simpa [rc1] using hj
  rw [rcs_get k f L n q j hq hj3, rc1_get k f L q j hj3]
theorem rcs_in (k : IntKind) (f : Nat → Nat → Nat) (L n q x : Nat) (hq : q < n) (hx : x < L) (hL : L ≤ 3) : (rcs k f L n)[q * 3 + x]? = some (.int k (f q x : Nat)) := by
  rw [rcs_get k f L n q x hq (by omega), if_pos hx]

theorem info_r3 : (Try.prog.info? 233).map (fun i => (i.zero, i.size, i.bytes)) = some (some (.agg #[.int .i64 0, .int .i64 0, .int .i64 0]), 3, 24) := by kernel_rfl
theorem info_b3 : (Try.prog.info? 24).map (fun i => (i.zero, i.size, i.bytes)) = some (some (.agg #[.int .u8 0, .int .u8 0, .int .u8 0]), 3, 3) := by kernel_rfl
theorem sz_r3 : (Try.prog.info? 233).map (·.size) = some 3 := by kernel_rfl
theorem sz_large : (Try.prog.info? 232).map (·.size) = some 3 := by kernel_rfl

/-- A large machine as a value: what it holds. -/
def LG (w : World) (base : Nat) (vN vO : Value) (T : Tab) : Prop :=
  OwnN w base 233 3 vN T.n (rcs .i64 T.nx T.L T.n) ∧ OwnN w base 24 3 vO T.n (rcs .u8 T.ot T.L T.n)
theorem LG.below {w w' : World} {base : Nat} {vN vO : Value} {T : Tab} (h : LG w base vN vO T) (hb : Below w.heap.size w w') : LG w' base vN vO T :=
  ⟨h.1.keep fun k hk => hb.block k (h.1.lt k hk).2, h.2.keep fun k hk => hb.block k (h.2.lt k hk).2⟩

/-- A row that is filled. -/
def fil3 (f : Nat → Nat → Nat) (q x : Nat) : Array Value := #[.int .i64 ((if 0 < x then f q 0 else 0 : Nat) : Int), .int .i64 ((if 1 < x then f q 1 else 0 : Nat) : Int), .int .i64 ((if 2 < x then f q 2 else 0 : Nat) : Int)]
theorem fil3_set (f : Nat → Nat → Nat) (q x : Nat) (hx : x < 3) : (fil3 f q x).setIfInBounds x (.int .i64 (f q x : Nat)) = fil3 f q (x + 1) := by
  have : x = 0 ∨ x = 1 ∨ x = 2 := by omega
  rcases this with rfl | rfl | rfl <;> simp [fil3, Array.setIfInBounds]
theorem fil3_all (f : Nat → Nat → Nat) (q L : Nat) : fil3 f q L = (rc1 .i64 f L q).toArray := rfl
theorem fil3_get (f : Nat → Nat → Nat) (q x j : Nat) (hj : j < 3) : ∃ u, (fil3 f q x)[j]? = some u := ⟨_, Array.getElem?_eq_getElem (by simpa [fil3] using hj)⟩

theorem mf_row {m : Mach} {l s : Nat} (g : Good m l s) (q : Nat) (hq : q < s) : ∀ j, j < 3 → mf m (50 + q * 3 + j) = .int .u8 ((if j < l then (tabOf m l s).ot q j else 0 : Nat) : Int) := fun j hj => by
  rw [mf_ot]
  by_cases h : j < l
  · rw [if_pos h]; rfl
  · rw [if_neg h, (g.z q j (by have := g.s16; omega) hj (fun hh => h hh.2)).2]

end Go.Proofs.Ytbmkkaecfogmoaa
