/- What the proof of FnStates leans on, part 29 of 29. -/
import Derived.Test.YthmcdfjijkecfaaGreatZFnStatesZB
import Derived.Deep.CutBlock
/- FnStates: the walk. -/
namespace Go.Proofs.YthmcdfjijkecfaaGreat
open Go.RowKit
set_option linter.unusedVariables false
set_option linter.unusedSimpArgs false
-- @LONG

theorem sea_good {m : Mach} {l s q : Nat} {u : List Nat} (g : Good m l s) (hq : q < s) (hu : ∀ x ∈ u, x < l) (hl : u.length ≤ 40) : seaAns m (q : Int) (wstr u) = (((sec m q u : Nat) : Int), 0) := by
  have l3 := g.l3
  have hw : IsWd l (wstr u) := isWd_wstr (fun x hx => by have := hu x hx; omega) (by omega) hl
  have h0 : codeI m (wstr u) [(q : Int)] = 0 := codeI_0 g hw (fun x hx => by simp at hx; subst hx; omega)
  unfold seaAns
  rw [if_pos h0, lets_wstr0 (fun x hx => by have := hu x hx; omega)]; rfl
theorem sgnAns_len {d n : Int} {g : List Int} (h : n ≤ 10) : (sgnAns d n g).1.length ≤ 1000000 := by
  unfold sgnAns
  split
  · simp only [sgL_length]; omega
  · simp
theorem sopAns_len (d n : Int) (g : List Int) (ws : ByteArray) : (sopAns d n g ws).1.length ≤ 1000000 := by
  rcases pcode_cases d n g with hp | hp | ⟨hp, d, n, rfl, rfl, hd, hn1, hn4, hgp⟩
  · unfold sopAns; rw [hp, if_neg (by decide)]; simp
  · unfold sopAns; rw [hp, if_neg (by decide)]; simp
  · rw [sopAns_0 hp]
    split
    · split
      · simp only [byL_length]
        have := (start_le hd (show n - ws.size ≤ 4 by omega)).1
        omega
      · simp
    · simp
set_option maxHeartbeats 20000000 in
set_option maxRecDepth 100000 in
theorem states_law (w : World) (v : Value) (l : List Nat) (hv : ArgB w v l) :
    Calls Tryz.prog 6 #[v] w fun e w' => e = .returned (.bool true) ∧ Below w.heap.size w w' := by
  have hbg := hid (big_any w v l hv)
  by_cases hl : l.length ≤ 4096
  · have dl : decide (4096 < l.length) = false := decide_eq_false (by omega)
    rw [dl] at hbg
    have hdr := hid (fun W (hW : Below w.heap.size w W) => drPof_any W v l (hv.below hW) hl)
    have hdr2 := hid (fun W (hW : Below w.heap.size w W) => drMul_any W v l (hv.below hW) hl)
    have hdr3 := hid (fun W (hW : Below w.heap.size w W) => drSgn_any W v l (hv.below hW) hl)
    have hdr4 := hid (fun W (hW : Below w.heap.size w W) => drOne_any W v l (hv.below hW) hl)
    have hdr5 := hid (fun W (hW : Below w.heap.size w W) => drSop_any W v l (hv.below hW) hl)
    have hwd := hid (fun W (hW : Below w.heap.size w W) (d n : Nat) h1 h2 h3 => word5_any W v l (hv.below hW) hl d n h1 h2 h3)
    have hip := hid implPof_any
    have hsp := hid specPof_any
    have hlk := hid likeInts_any
    have hac := hid implActp_any
    have hia := hid implAow_any
    have hie := hid implSeA_any
    have his := hid implSop_any
    have hss := hid specSop_any
    have hmu := hid implMul_any
    have hig := hid implSgn_any
    have hsg := hid specSgn_any
    have hio := hid implOop_any
    have hso := hid specOop_any
    have hi1 := hid implOne_any
    have hs1 := hid specOne_any
    have hs0 := hid (St.start w)
    have hz := zeroM_run
    have hz1 := hid (fun L W (h : St w.heap.size w L W) => h.newMB zeroM 27)
    have hcy := hid (fun (x : Int) => (show (x != x) = false by simp))
    replace hv := hid hv
    obtain ⟨A0, c0, rfl, _⟩ := hv.out
    go_enter Tryz.func6, Tryz.ntmps6
    go_upto_region 6 with (first
      | (go_at_call 8; (with_reducible refine (hbg.out).mono ?_); rintro e w1 ⟨rfl, rfl⟩)
      | (go_at_call 44; (with_reducible refine (hdr.out _ (Below.refl _ _)).mono ?_); rintro e w1 ⟨m, q, n, rfl, hF, hb⟩; have hle := hid hb.size; replace hS := hid (hz1.out _ _ (hs0.out.call hb)); clear hb)
      | ((with_reducible refine gateOp (op := .store 27 (.tmp 3) (.tmp 67)) rfl ?_); refine store_mach rfl _ _ rfl w1.heap.size rfl m rfl 27 _ hS.out.m0 ?_; intro w2 p3 ho hsz hbl; replace hS := hid (hS.out.setM hle.out p3 ho hbl); clear p3 ho hsz hbl)
      | ((with_reducible refine gate (N := 71) rfl ?_); refine load_mach rfl _ rfl w1.heap.size rfl m hS.out.m0 ?_)
      | (go_at_call 12; (with_reducible refine (hip.out _ m hF.out.1.ok q n).mono ?_); rintro e w3 ⟨v1, rfl, hO, hb⟩; replace hS := hid (hS.out.callOwn hb hO); clear hb hO)
      | ((with_reducible refine gate (N := 78) rfl ?_); refine load_mach rfl _ rfl w1.heap.size rfl m hS.out.m1 ?_)
      | (go_at_call 45; (with_reducible refine (hsp.out _ m hF.out.1.ok q n).mono ?_); rintro e w3 ⟨v2, rfl, hO, hb⟩; replace hS := hid (hS.out.callOwn hb hO); clear hb hO))
    generalize w1.heap.size = b3 at *
    have hP := hid (fun h => pof_law (m := m) (q := q) (n := n) h)
    have q1 := hcy.out (pofAns m q n).2
    have hPl := hid (show (pofAns m q n).1.length ≤ 1000000 from by
      by_cases h : (pofAns m q n).2 = 0
      · obtain ⟨l, s, q', n', g, rfl, hq, rfl, h1, h4, e⟩ := hP.out h
        have l2 := g.l2
        have l3 := g.l3
        rw [e, (prtM_isP (n := n') g hq).1]
        have := (start_le (d := l) (n := n') (by omega) h4).1
        omega
      · rcases codeI1 m q with ⟨h1, _⟩ | ⟨h1, _⟩ | ⟨h1, l, s, k, g, rfl, hk⟩
        · rw [pofAns_c h1 (by decide)]; simp
        · rw [pofAns_c h1 (by decide)]; simp
        · by_cases hn : 1 ≤ n ∧ n ≤ 4
          · obtain ⟨n, rfl⟩ := Int.eq_ofNat_of_zero_le (show 0 ≤ n by omega)
            rw [pofAns_0 g h1 (by omega)] at h
            exact absurd rfl h
          · rw [pofAns_2 h1 hn]; simp)
    obtain ⟨PP, hPP⟩ : ∃ PP, PP = (pofAns m q n).1 := ⟨_, rfl⟩
    rw [← hPP] at hP hPl hS
    generalize (pofAns m q n).2 = pc at *
    clear hPP
    go_upto_if 94 with (
      (go_at_call 18; (with_reducible refine (hlk.out _ _ _ _ _ PP hS.out.o1 hS.out.o0 hPl.out).mono ?_); rintro e w7 ⟨rfl, hb⟩; replace hS := hid (hS.out.call hb).drop; clear hb))
    clear q1
    go_cut [10, 11, 12, 13, 14, 15, 16, 17, 18, 19, 20] from 95 (fun _ _ _ _ _ _ _ _ _ _ _ wr => Below w.heap.size w wr)
    case first =>
      as_aux_lemma =>
        by_cases h0 : pc = 0
        · subst h0
          obtain ⟨d, s, q, n, g, rfl, hq, rfl, hn1, hn4, hPe⟩ := hP.out rfl
          subst hPe
          have d2 := g.l2
          have d3 := g.l3
          have hd : d = 2 ∨ d = 3 := by omega
          have hgP := prtM_isP (n := n) g hq
          have hmk := hid hF.out.1.ok
          have cL := hS.out.m1.cL
          rw [g.L] at cL
          clear hP hF
          go_upto_region 10 with (
            (go_at_call 46; (with_reducible refine (hwd.out _ hS.out.bel d n (by omega) d3 (by omega)).mono ?_); rintro e w10 ⟨u, rfl, hu1, hu2, hb⟩; replace hS := hid (hS.out.call hb); clear hb cL))
          have cL := hS.out.m1.cL
          rw [g.L] at cL
          have pA := hid (fun W b v1 (h : Own W b 2 v1 (ints (prtM m d q n))) => (by have h := hac.out W d n hd hn1 hn4 b v1 _ h hgP u hu2 (by omega); rw [act_prtM g hq hu2 (by omega)] at h; exact h : Calls Tryz.prog 47 #[.int .i64 d, .int .i64 n, v1, .string (wstr u)] W fun e w' => e = .returned (.tuple #[.string (wstr (img m q u)), .int .i64 0]) ∧ Below W.heap.size W w'))
          have pB := hid (fun W => (by have h := hia.out W m hmk.out q (wstr u) (by rw [wstr_size]; omega); rw [aow_good g hq hu2 (by omega)] at h; exact h : Calls Tryz.prog 48 #[.agg (mcells m), .int .i64 q, .string (wstr u)] W fun e w' => e = .returned (.tuple #[.string (wstr (img m q u)), .int .i64 0]) ∧ Below W.heap.size W w'))
          obtain ⟨x, t, rfl⟩ : ∃ x t, u = x :: t := by
            cases u with
            | nil => simp at hu1; omega
            | cons x t => exact ⟨x, t, rfl⟩
          have hx : x < d := hu2 x (by simp)
          have ews : (wstr (x :: t)).extract 0 1 = wstr [x] := by rw [wstr_take]; rfl
          have hxl : ∀ y ∈ [x], y < d := fun y hy => by rw [List.mem_singleton.1 hy]; exact hx
          have pC := hid (fun W => (by have h := hie.out W m hmk.out q (wstr [x]) (by rw [wstr_size]; simp); rw [sea_good g hq hxl (by simp), ← ews] at h; exact h : Calls Tryz.prog 49 #[.agg (mcells m), .int .i64 q, .string ((wstr (x :: t)).extract 0 1)] W fun e w' => e = .returned (.tuple #[.int .i64 (sec m q [x] : Nat), .int .i64 0]) ∧ Below W.heap.size W w'))
          have hsz : 1 ≤ (wstr (x :: t)).size := by rw [wstr_size]; simp
          by_cases h1 : n = 1
          · have dn : decide ((1 : Int) < (n : Int)) = false := decide_eq_false (by omega)
            have dn2 : ¬ 1 < n := by omega
            replace h1 := hid h1
            clear pC ews
            generalize wstr (img m q (x :: t)) = y at *
            generalize wstr (x :: t) = z at *
            go_wp2_with (first
              | (go_at_call 47; (with_reducible refine (pA.out _ _ _ hS.out.o0).mono ?_); rintro e w11 ⟨rfl, hb⟩; replace hS := hid (hS.out.call hb); clear hb cL)
              | ((with_reducible refine gate (N := 110) rfl ?_); refine load_mach rfl _ rfl b3 rfl m hS.out.m1 ?_)
              | (go_at_call 48; (with_reducible refine (pB.out _).mono ?_); rintro e w12 ⟨rfl, hb⟩; replace hS := hid (hS.out.call hb); clear hb))
            go_meet
            case rel => exact hS.out.bel
          · have hk1 : 1 ≤ n - 1 := by omega
            have dn : decide ((1 : Int) < (n : Int)) = true := decide_eq_true (by omega)
            have dn2 : 1 < n := by omega
            have hso := sop_pof (n := n - 1) g hq hk1 (by omega) hx
            rw [Nat.sub_add_cancel hn1] at hso
            have pD := hid (fun W b v1 (h : Own W b 2 v1 (ints (prtM m d q n))) => (by have h := his.out W (d : Int) (n : Int) b v1 _ h (by rw [hgP.1]; have := (start_le hd hn4).1; omega) (wstr [x]) (by rw [wstr_size]; simp); rw [hso, ← ews] at h; exact h : Calls Tryz.prog 50 #[.int .i64 d, .int .i64 n, v1, .string ((wstr (x :: t)).extract 0 1)] W fun e w' => ∃ v', e = .returned (.tuple #[v', .int .i64 0]) ∧ Own w' W.heap.size 2 v' (ints (prtM m d (sec m q [x]) (n - 1))) ∧ Below W.heap.size W w'))
            have hr := sec_lt g [x] q hq hxl
            have pE := hid (fun W => (by have h := hip.out W m hmk.out (sec m q [x] : Nat) ((n - 1 : Nat) : Int); rw [pof_good g hr hk1 (by omega)] at h; exact h : Calls Tryz.prog 12 #[.agg (mcells m), .int .i64 (sec m q [x] : Nat), .int .i64 ((n - 1 : Nat) : Int)] W fun e w' => ∃ v', e = .returned (.tuple #[v', .int .i64 0]) ∧ Own w' W.heap.size 2 v' (ints (prtM m d (sec m q [x]) (n - 1))) ∧ Below W.heap.size W w'))
            have hql : (prtM m d (sec m q [x]) (n - 1)).length ≤ 1000000 := by rw [(prtM_isP (n := n - 1) g hr).1]; have := (start_le hd (show n - 1 ≤ 4 by omega)).1; omega
            have en : IntKind.i64.wrap ((n : Int) - 1) = ((n - 1 : Nat) : Int) := by rw [show (n : Int) - 1 = ((n - 1 : Nat) : Int) by omega]; exact IntWalk.i64_in _ (by omega)
            have s0 : (0 : Int) ≤ 1 := by omega
            have s1 : (1 : Int) ≤ ((wstr (x :: t)).size : Int) := by omega
            have hcL := hid (fun W (h : MB W 27 b3 m) => (by have h2 := h.cL; rw [g.L] at h2; exact h2 : W.cell? ⟨b3, 0, none⟩ = some (.int .i64 (d : Nat))))
            replace h1 := hid h1
            clear hso ews hxl hx
            replace g := hid g; replace hgP := hid hgP
            generalize prtM m d (sec m q [x]) (n - 1) = R at *
            generalize prtM m d q n = P at *
            generalize sec m q [x] = r at *
            generalize wstr (img m q (x :: t)) = y at *
            generalize wstr (x :: t) = z at *
            generalize n - 1 = k at *
            generalize hzx : z.extract 0 1 = zx at *
            replace hzx := hid hzx
            have hzx2 := hzx.out
            go_upto_region 15 with (first
              | (go_at_call 47; (with_reducible refine (pA.out _ _ _ hS.out.o0).mono ?_); rintro e w11 ⟨rfl, hb⟩; replace hS := hid (hS.out.call hb); clear hb cL)
              | ((with_reducible refine gate (N := 110) rfl ?_); refine load_mach rfl _ rfl b3 rfl m hS.out.m1 ?_)
              | (go_at_call 48; (with_reducible refine (pB.out _).mono ?_); rintro e w12 ⟨rfl, hb⟩; replace hS := hid (hS.out.call hb); clear hb))
            refine wp_region_heldL (L := [(4, (fun w' : World => MB w' 27 b3 m))]) (by kernel_rfl) (HeldL.cons (fun _ => hS.out.drew.m1) HeldL.nil) (fun hHeld => ?_)
            replace hS := hid hS.out.drew
            generalize World.drew _ = wd at *
            refine wpAnyL_takeP (i := 0) 4 [] (v := (.agg (mcells m))) (fun w' : World => MB w' 27 b3 m) rfl (by kernel_rfl) (by kernel_rfl) (by kernel_rfl) (by rfl) (by kernel_rfl) (by simp) (fun _ _ _ h => h) (Or.inl ⟨by rfl, ?_⟩) (by assumption) ?_
            · (intro W hW; exact exec_load _ rfl rfl (load_run hW))
            intro hHeld'
            clear hHeld; have hHeld := hHeld'; clear hHeld'
            try simp only [Act.put, List.getElem_toArray, List.getElem_cons_succ, List.getElem_cons_zero, List.setIfInBounds_toArray, List.set_cons_zero, List.set_cons_succ]
            refine wpAnyL_take0 (i := 1) (v := ?_) rfl (by kernel_rfl) (by kernel_rfl) (by kernel_rfl) (by rfl) (fun _ _ _ h => h) (Or.inl ⟨by rfl, ?_⟩) (by assumption) ?_
            rotate_left
            · (intro W _; go_simp; (with_reducible rfl))
            intro hHeld'
            clear hHeld; have hHeld := hHeld'; clear hHeld'
            try simp only [Act.put, List.getElem_toArray, List.getElem_cons_succ, List.getElem_cons_zero, List.setIfInBounds_toArray, List.set_cons_zero, List.set_cons_succ]
            refine wpAnyL_take0 (i := 2) (v := ?_) rfl (by kernel_rfl) (by kernel_rfl) (by kernel_rfl) (by rfl) (fun _ _ _ h => h) (Or.inl ⟨by rfl, ?_⟩) (by assumption) ?_
            rotate_left
            · (intro W _; go_simp; (with_reducible rfl))
            intro hHeld'
            clear hHeld; have hHeld := hHeld'; clear hHeld'
            try simp only [Act.put, List.getElem_toArray, List.getElem_cons_succ, List.getElem_cons_zero, List.setIfInBounds_toArray, List.set_cons_zero, List.set_cons_succ]
            refine wpAnyL_take0 (i := 3) (v := (.string zx)) rfl (by kernel_rfl) (by kernel_rfl) (by kernel_rfl) (by rfl) (fun _ _ _ h => h) (Or.inl ⟨by rfl, ?_⟩) (by assumption) ?_
            · (intro W _; (go_simp; try rw [hzx2]))
            intro hHeld'
            clear hHeld; have hHeld := hHeld'; clear hHeld'
            try simp only [Act.put, List.getElem_toArray, List.getElem_cons_succ, List.getElem_cons_zero, List.setIfInBounds_toArray, List.set_cons_zero, List.set_cons_succ]
            refine wpAnyL_ready (rs := [4]) (by kernel_rfl) (by simp) ?_
            refine AllReadyL.cons rfl (fun K hK => ?_) AllReadyL.nil
            go_simp
            (with_reducible refine (pC.out _).mono ?_)
            rintro e w6 ⟨rfl, hb⟩
            replace hS := hid (hS.out.call hb)
            clear hb
            go_simp
            refine hK.out _ _ (HeldL.cons (fun h => absurd h (by decide +kernel)) HeldL.nil) (fun hHeld' => ?_)
            clear hK K hHeld; have hHeld := hHeld'; clear hHeld'
            try simp only [Act.put, List.getElem_toArray, List.getElem_cons_succ, List.getElem_cons_zero, List.setIfInBounds_toArray, List.set_cons_zero, List.set_cons_succ]
            refine wpAnyL_take0 (i := 5) (v := ?_) rfl (by kernel_rfl) (by kernel_rfl) (by kernel_rfl) (by rfl) (fun _ _ _ h => h) (Or.inl ⟨by rfl, ?_⟩) (by assumption) ?_
            rotate_left
            · (intro W _; go_simp; (with_reducible rfl))
            intro hHeld'
            clear hHeld; have hHeld := hHeld'; clear hHeld'
            try simp only [Act.put, List.getElem_toArray, List.getElem_cons_succ, List.getElem_cons_zero, List.setIfInBounds_toArray, List.set_cons_zero, List.set_cons_succ]
            refine wpAnyL_take0 (i := 6) (v := ?_) rfl (by kernel_rfl) (by kernel_rfl) (by kernel_rfl) (by rfl) (fun _ _ _ h => h) (Or.inl ⟨by rfl, ?_⟩) (by assumption) ?_
            rotate_left
            · (intro W _; go_simp; (with_reducible rfl))
            intro hHeld'
            clear hHeld; have hHeld := hHeld'; clear hHeld'
            try simp only [Act.put, List.getElem_toArray, List.getElem_cons_succ, List.getElem_cons_zero, List.setIfInBounds_toArray, List.set_cons_zero, List.set_cons_succ]
            refine wpAnyL_take0 (i := 7) (v := ?_) rfl (by kernel_rfl) (by kernel_rfl) (by kernel_rfl) (by rfl) (fun _ _ _ h => h) (Or.inl ⟨by rfl, ?_⟩) (by assumption) ?_
            rotate_left
            · (intro W _; go_simp; (with_reducible rfl))
            intro hHeld'
            clear hHeld; have hHeld := hHeld'; clear hHeld'
            try simp only [Act.put, List.getElem_toArray, List.getElem_cons_succ, List.getElem_cons_zero, List.setIfInBounds_toArray, List.set_cons_zero, List.set_cons_succ]
            refine wpAnyL_take0 (i := 8) (v := ?_) rfl (by kernel_rfl) (by kernel_rfl) (by kernel_rfl) (by rfl) (fun _ _ _ h => h) (Or.inl ⟨by rfl, ?_⟩) (by assumption) ?_
            rotate_left
            · (intro W _; go_simp; (with_reducible rfl))
            intro hHeld'
            clear hHeld; have hHeld := hHeld'; clear hHeld'
            try simp only [Act.put, List.getElem_toArray, List.getElem_cons_succ, List.getElem_cons_zero, List.setIfInBounds_toArray, List.set_cons_zero, List.set_cons_succ]
            refine wpAnyL_take0 (i := 9) (v := ?_) rfl (by kernel_rfl) (by kernel_rfl) (by kernel_rfl) (by rfl) (fun _ _ _ h => h) (Or.inl ⟨by rfl, ?_⟩) (by assumption) ?_
            rotate_left
            · (intro W _; go_simp; (with_reducible rfl))
            intro hHeld'
            clear hHeld; have hHeld := hHeld'; clear hHeld'
            try simp only [Act.put, List.getElem_toArray, List.getElem_cons_succ, List.getElem_cons_zero, List.setIfInBounds_toArray, List.set_cons_zero, List.set_cons_succ]
            refine wpAnyL_done (by kernel_rfl) ?_ _
            go_upto_region 16 with (fail)
            refine wp_region_heldL (L := [(6, (fun w' : World => MB w' 27 b3 m))]) (by kernel_rfl) (HeldL.cons (fun _ => hS.out.drew.m1) HeldL.nil) (fun hHeld => ?_)
            replace hS := hid hS.out.drew
            generalize World.drew _ = we at *
            refine wpAnyL_take0 (i := 0) (v := ?_) rfl (by kernel_rfl) (by kernel_rfl) (by kernel_rfl) (by rfl) (fun _ _ _ h => h) (Or.inl ⟨by rfl, ?_⟩) (by assumption) ?_
            rotate_left
            · (intro W _; go_simp; (with_reducible rfl))
            intro hHeld'
            clear hHeld; have hHeld := hHeld'; clear hHeld'
            try simp only [Act.put, List.getElem_toArray, List.getElem_cons_succ, List.getElem_cons_zero, List.setIfInBounds_toArray, List.set_cons_zero, List.set_cons_succ]
            refine wpAnyL_takeP (i := 1) 6 [] (v := (.int .i64 (d : Nat))) (fun w' : World => MB w' 27 b3 m) rfl (by kernel_rfl) (by kernel_rfl) (by kernel_rfl) (by rfl) (by kernel_rfl) (by simp) (fun _ _ _ h => h) (Or.inl ⟨by rfl, ?_⟩) (by assumption) ?_
            · (intro W hW; (replace hW := hcL.out _ hW); go_simp)
            intro hHeld'
            clear hHeld; have hHeld := hHeld'; clear hHeld'
            try simp only [Act.put, List.getElem_toArray, List.getElem_cons_succ, List.getElem_cons_zero, List.setIfInBounds_toArray, List.set_cons_zero, List.set_cons_succ]
            refine wpAnyL_take0 (i := 2) (v := ?_) rfl (by kernel_rfl) (by kernel_rfl) (by kernel_rfl) (by rfl) (fun _ _ _ h => h) (Or.inl ⟨by rfl, ?_⟩) (by assumption) ?_
            rotate_left
            · (intro W _; go_simp; (with_reducible rfl))
            intro hHeld'
            clear hHeld; have hHeld := hHeld'; clear hHeld'
            try simp only [Act.put, List.getElem_toArray, List.getElem_cons_succ, List.getElem_cons_zero, List.setIfInBounds_toArray, List.set_cons_zero, List.set_cons_succ]
            refine wpAnyL_take0 (i := 3) (v := ?_) rfl (by kernel_rfl) (by kernel_rfl) (by kernel_rfl) (by rfl) (fun _ _ _ h => h) (Or.inl ⟨by rfl, ?_⟩) (by assumption) ?_
            rotate_left
            · (intro W _; go_simp; (with_reducible rfl))
            intro hHeld'
            clear hHeld; have hHeld := hHeld'; clear hHeld'
            try simp only [Act.put, List.getElem_toArray, List.getElem_cons_succ, List.getElem_cons_zero, List.setIfInBounds_toArray, List.set_cons_zero, List.set_cons_succ]
            refine wpAnyL_take0 (i := 4) (v := ?_) rfl (by kernel_rfl) (by kernel_rfl) (by kernel_rfl) (by rfl) (fun _ _ _ h => h) (Or.inl ⟨by rfl, ?_⟩) (by assumption) ?_
            rotate_left
            · (intro W _; go_simp; (with_reducible rfl))
            intro hHeld'
            clear hHeld; have hHeld := hHeld'; clear hHeld'
            try simp only [Act.put, List.getElem_toArray, List.getElem_cons_succ, List.getElem_cons_zero, List.setIfInBounds_toArray, List.set_cons_zero, List.set_cons_succ]
            refine wpAnyL_take0 (i := 5) (v := (.string zx)) rfl (by kernel_rfl) (by kernel_rfl) (by kernel_rfl) (by rfl) (fun _ _ _ h => h) (Or.inl ⟨by rfl, ?_⟩) (by assumption) ?_
            · (intro W _; (go_simp; try rw [hzx2]))
            intro hHeld'
            clear hHeld; have hHeld := hHeld'; clear hHeld'
            try simp only [Act.put, List.getElem_toArray, List.getElem_cons_succ, List.getElem_cons_zero, List.setIfInBounds_toArray, List.set_cons_zero, List.set_cons_succ]
            refine wpAnyL_ready (rs := [6]) (by kernel_rfl) (by simp) ?_
            refine AllReadyL.cons rfl (fun K hK => ?_) AllReadyL.nil
            go_simp
            (with_reducible refine (pD.out _ _ _ hS.out.o0).mono ?_)
            rintro e w8 ⟨v5, rfl, hO5, hb⟩
            replace hS := hid (hS.out.callOwn hb hO5)
            clear hb hO5
            go_simp
            refine hK.out _ _ (HeldL.cons (fun h => absurd h (by decide +kernel)) HeldL.nil) (fun hHeld' => ?_)
            clear hK K hHeld; have hHeld := hHeld'; clear hHeld'
            try simp only [Act.put, List.getElem_toArray, List.getElem_cons_succ, List.getElem_cons_zero, List.setIfInBounds_toArray, List.set_cons_zero, List.set_cons_succ]
            refine wpAnyL_take0 (i := 7) (v := ?_) rfl (by kernel_rfl) (by kernel_rfl) (by kernel_rfl) (by rfl) (fun _ _ _ h => h) (Or.inl ⟨by rfl, ?_⟩) (by assumption) ?_
            rotate_left
            · (intro W _; go_simp; (with_reducible rfl))
            intro hHeld'
            clear hHeld; have hHeld := hHeld'; clear hHeld'
            try simp only [Act.put, List.getElem_toArray, List.getElem_cons_succ, List.getElem_cons_zero, List.setIfInBounds_toArray, List.set_cons_zero, List.set_cons_succ]
            refine wpAnyL_take0 (i := 8) (v := ?_) rfl (by kernel_rfl) (by kernel_rfl) (by kernel_rfl) (by rfl) (fun _ _ _ h => h) (Or.inl ⟨by rfl, ?_⟩) (by assumption) ?_
            rotate_left
            · (intro W _; go_simp; (with_reducible rfl))
            intro hHeld'
            clear hHeld; have hHeld := hHeld'; clear hHeld'
            try simp only [Act.put, List.getElem_toArray, List.getElem_cons_succ, List.getElem_cons_zero, List.setIfInBounds_toArray, List.set_cons_zero, List.set_cons_succ]
            refine wpAnyL_take0 (i := 9) (v := ?_) rfl (by kernel_rfl) (by kernel_rfl) (by kernel_rfl) (by rfl) (fun _ _ _ h => h) (Or.inl ⟨by rfl, ?_⟩) (by assumption) ?_
            rotate_left
            · (intro W _; go_simp; (with_reducible rfl))
            intro hHeld'
            clear hHeld; have hHeld := hHeld'; clear hHeld'
            try simp only [Act.put, List.getElem_toArray, List.getElem_cons_succ, List.getElem_cons_zero, List.setIfInBounds_toArray, List.set_cons_zero, List.set_cons_succ]
            refine wpAnyL_take0 (i := 10) (v := ?_) rfl (by kernel_rfl) (by kernel_rfl) (by kernel_rfl) (by rfl) (fun _ _ _ h => h) (Or.inl ⟨by rfl, ?_⟩) (by assumption) ?_
            rotate_left
            · (intro W _; go_simp; (with_reducible rfl))
            intro hHeld'
            clear hHeld; have hHeld := hHeld'; clear hHeld'
            try simp only [Act.put, List.getElem_toArray, List.getElem_cons_succ, List.getElem_cons_zero, List.setIfInBounds_toArray, List.set_cons_zero, List.set_cons_succ]
            refine wpAnyL_take0 (i := 11) (v := ?_) rfl (by kernel_rfl) (by kernel_rfl) (by kernel_rfl) (by rfl) (fun _ _ _ h => h) (Or.inl ⟨by rfl, ?_⟩) (by assumption) ?_
            rotate_left
            · (intro W _; go_simp; (with_reducible rfl))
            intro hHeld'
            clear hHeld; have hHeld := hHeld'; clear hHeld'
            try simp only [Act.put, List.getElem_toArray, List.getElem_cons_succ, List.getElem_cons_zero, List.setIfInBounds_toArray, List.set_cons_zero, List.set_cons_succ]
            refine wpAnyL_done (by kernel_rfl) ?_ _
            go_wp2_with (first
              | ((with_reducible refine gate (N := 148) rfl ?_); refine load_mach rfl _ rfl b3 rfl m hS.out.m2 ?_)
              | (go_at_call 12; (with_reducible refine (pE.out _).mono ?_); rintro e w9 ⟨v6, rfl, hO6, hb⟩; replace hS := hid (hS.out.callOwn hb hO6); clear hb hO6)
              | (go_at_call 18; (with_reducible refine (hlk.out _ _ _ _ _ R hS.out.o1 hS.out.o0 hql).mono ?_); rintro e w10 ⟨rfl, hb⟩; replace hS := hid (hS.out.call hb); clear hb))
            go_meet
            case rel => exact hS.out.bel
        · have d0 : ((pc : Int) == 0) = false := by simpa using h0
          clear hP
          go_wp2
          go_meet
          case rel => exact hS.out.bel
    case rest =>
      as_aux_lemma =>
        clear hS hP hPl hF
        have hB := hid hcut
        clear hcut
        go_upto_if 187 with (first
          | (go_at_call 51; (with_reducible refine (hdr2.out _ hB.out).mono ?_); rintro e w1 ⟨d, n, u1, u2, g1, g2, rfl, hF, hO1, hO2, hb⟩; have hU1 := hid (hO1.mono (Nat.zero_le _)); have hU2 := hid (hO2.mono (Nat.zero_le _)); replace hB := hid (hB.out.trans (hb.mono hB.out.size)); clear hb hO1 hO2)
          | (go_at_call 13; (with_reducible refine (hmu.out _ d n u1 u2 g1 g2 hU1.out hU2.out (by have := hF.out; omega) (by have := hF.out; omega)).mono ?_); rintro e w2 ⟨u3, rfl, hO3, hb⟩; have hU3 := hid (hO3.mono (Nat.zero_le _)); replace hU1 := hid (hU1.out.below hb); replace hU2 := hid (hU2.out.below hb); replace hB := hid (hB.out.trans (hb.mono hB.out.size)); clear hb hO3))
        have hL := hid (fun h => sta_law (d := d) (n := n) (A := g1) (B := g2) h)
        generalize (mulAns d n g1 g2).1 = g3 at *
        generalize (mulAns d n g1 g2).2 = mc at *
        go_cut [27, 28, 29, 30, 31, 32, 33, 34, 35] from 188 (fun _ _ _ _ _ _ _ _ _ wr => Below w.heap.size w wr)
        case first =>
          as_aux_lemma =>
            by_cases h0 : mc = 0
            · subst h0
              obtain ⟨d, n, O, x, y, z, rfl, rfl, hn4, hgl3, eO, hO1, hO2, hO3, eX, eY, eZ, hxyz⟩ := hL.out rfl
              clear hL
              have hFo := hF.out
              have pX := hid (fun W (h : Own W 0 2 u1 (ints g1)) => (by have h := hig.out W (d : Int) (n : Int) 0 u1 g1 h (by omega); rw [eX] at h; exact h : Calls Tryz.prog 52 #[.int .i64 d, .int .i64 n, u1] W fun e w' => ∃ v', e = .returned (.tuple #[v', .int .i64 0]) ∧ Own w' W.heap.size 2 v' (ints ((List.range n).map fun k => ((x k : Nat) : Int))) ∧ Below W.heap.size W w'))
              have pY := hid (fun W (h : Own W 0 2 u2 (ints g2)) => (by have h := hig.out W (d : Int) (n : Int) 0 u2 g2 h (by omega); rw [eY] at h; exact h : Calls Tryz.prog 52 #[.int .i64 d, .int .i64 n, u2] W fun e w' => ∃ v', e = .returned (.tuple #[v', .int .i64 0]) ∧ Own w' W.heap.size 2 v' (ints ((List.range n).map fun k => ((y k : Nat) : Int))) ∧ Below W.heap.size W w'))
              have pZ := hid (fun W (h : Own W 0 2 u3 (ints g3)) => (by have h := hig.out W (d : Int) (n : Int) 0 u3 g3 h (by omega); rw [eZ] at h; exact h : Calls Tryz.prog 52 #[.int .i64 d, .int .i64 n, u3] W fun e w' => ∃ v', e = .returned (.tuple #[v', .int .i64 0]) ∧ Own w' W.heap.size 2 v' (ints ((List.range n).map fun k => ((z k : Nat) : Int))) ∧ Below W.heap.size W w'))
              have pO := hid (fun W (h : Own W 0 2 u1 (ints g1)) => (by have h := hio.out W (d : Int) (n : Int) 0 u1 g1 h (by omega); rw [eO] at h; exact h : Calls Tryz.prog 16 #[.int .i64 d, .int .i64 n, u1] W fun e w' => e = .returned (.tuple #[.int .i64 (O : Nat), .int .i64 0]) ∧ Below W.heap.size W w'))
              have hlX := hid (show (ints ((List.range n).map fun k => ((x k : Nat) : Int))).length = n from by simp [ints])
              have hlY := hid (show (ints ((List.range n).map fun k => ((y k : Nat) : Int))).length = n from by simp [ints])
              have hlZ := hid (show (ints ((List.range n).map fun k => ((z k : Nat) : Int))).length = n from by simp [ints])
              have hgX := hid (fun k (hk : k < n) => (show (ints ((List.range n).map fun k => ((x k : Nat) : Int)))[k]? = some (Value.int .i64 (x k : Nat)) from by simp [ints, hk]))
              have hgY := hid (fun k (hk : k < n) => (show (ints ((List.range n).map fun k => ((y k : Nat) : Int)))[k]? = some (Value.int .i64 (y k : Nat)) from by simp [ints, hk]))
              have hgZ := hid (fun k (hk : k < n) => (show (ints ((List.range n).map fun k => ((z k : Nat) : Int)))[k]? = some (Value.int .i64 (z k : Nat)) from by simp [ints, hk]))
              clear eX eY eZ eO
              replace hxyz := hid hxyz
              replace hO3 := hid hO3
              generalize ints ((List.range n).map fun k => ((x k : Nat) : Int)) = LX at *
              generalize ints ((List.range n).map fun k => ((y k : Nat) : Int)) = LY at *
              generalize ints ((List.range n).map fun k => ((z k : Nat) : Int)) = LZ at *
              have hS := hid (St.start w)
              go_upto_region 27 with (first
                | (go_at_call 52; (with_reducible refine (pX.out _ hU1.out).mono ?_); rintro e w3 ⟨v1, rfl, hO, hb⟩; (obtain ⟨A1, c1, rfl, _, _⟩ := hO.form); rw [hlX.out] at hO; rw [hlX.out]; have hV1 := hid (hO.mono (Nat.zero_le _)); replace hU1 := hid (hU1.out.below hb); replace hU2 := hid (hU2.out.below hb); replace hU3 := hid (hU3.out.below hb); replace hB := hid (hB.out.trans (hb.mono hB.out.size)); clear hb hO pX)
                | (go_at_call 52; (with_reducible refine (pY.out _ hU2.out).mono ?_); rintro e w3 ⟨v2, rfl, hO, hb⟩; (obtain ⟨A2, c2, rfl, _, _⟩ := hO.form); rw [hlY.out] at hO; rw [hlY.out]; have hV2 := hid (hO.mono (Nat.zero_le _)); replace hV1 := hid (hV1.out.below hb); replace hU1 := hid (hU1.out.below hb); replace hU3 := hid (hU3.out.below hb); replace hB := hid (hB.out.trans (hb.mono hB.out.size)); clear hb hO pY)
                | (go_at_call 52; (with_reducible refine (pZ.out _ hU3.out).mono ?_); rintro e w3 ⟨v3, rfl, hO, hb⟩; (obtain ⟨A3, c3, rfl, _, _⟩ := hO.form); rw [hlZ.out] at hO; rw [hlZ.out]; have hV3 := hid (hO.mono (Nat.zero_le _)); replace hV1 := hid (hV1.out.below hb); replace hV2 := hid (hV2.out.below hb); replace hU1 := hid (hU1.out.below hb); replace hB := hid (hB.out.trans (hb.mono hB.out.size)); clear hb hO pZ)
                | (go_at_call 16; (with_reducible refine (pO.out _ hU1.out).mono ?_); rintro e w4 ⟨rfl, hb⟩; replace hV1 := hid (hV1.out.below hb); replace hV2 := hid (hV2.out.below hb); replace hV3 := hid (hV3.out.below hb); replace hB := hid (hB.out.trans (hb.mono hB.out.size)); clear hb pO hU1 hU2 hU3))
              have hg := hid (fun k (hk : k < n) => (show ∃ ga gb gc : Nat, A1 = some ⟨ga, 0, none⟩ ∧ A2 = some ⟨gb, 0, none⟩ ∧ A3 = some ⟨gc, 0, none⟩ ∧ w4.cell? ⟨ga, k, none⟩ = some (.int .i64 (x k : Nat)) ∧ w4.cell? ⟨gb, k, none⟩ = some (.int .i64 (y k : Nat)) ∧ w4.cell? ⟨gc, k, none⟩ = some (.int .i64 (z k : Nat)) from by
                obtain ⟨B1, e1, f1, _, q1⟩ := hV1.out.form
                obtain ⟨B2, e2, f2, _, q2⟩ := hV2.out.form
                obtain ⟨B3, e3, f3, _, q3⟩ := hV3.out.form
                injection f1 with f1 _ _
                injection f2 with f2 _ _
                injection f3 with f3 _ _
                subst f1; subst f2; subst f3
                have hx := hgX.out k hk
                have hy := hgY.out k hk
                have hz := hgZ.out k hk
                rcases q1 with ⟨_, h, _⟩ | ⟨ga, r1, _, _, p1⟩
                · rw [h] at hx; simp at hx
                · rcases q2 with ⟨_, h, _⟩ | ⟨gb, r2, _, _, p2⟩
                  · rw [h] at hy; simp at hy
                  · rcases q3 with ⟨_, h, _⟩ | ⟨gc, r3, _, _, p3⟩
                    · rw [h] at hz; simp at hz
                    · exact ⟨ga, gb, gc, r1, r2, r3, p1 k _ hx, p2 k _ hy, p3 k _ hz⟩))
              clear hgX hgY hgZ hlX hlY hlZ hV1 hV2 hV3 hFo
              have dO : decide ((O : Int) < 1) = false := decide_eq_false (by omega)
              have qn := hcy.out (n : Int)
              go_cut [262] from 216 to 261 (fun b wr => b = .bool false ∧ wr = w4)
              case first =>
                by_cases h2 : d = 2
                · have d1 : ((d : Int) == 2) = true := by simp; omega
                  rcases hO3.out h2 with h | h | h | h | h
                  all_goals (replace h2 := hid h2)
                  all_goals subst h
                  all_goals go_wp2
                  all_goals go_meet
                  all_goals exact ⟨rfl, rfl⟩
                · have d1 : ((d : Int) == 2) = false := by simp; omega
                  replace h2 := hid h2
                  go_wp2
                  go_meet
                  case rel => exact ⟨rfl, rfl⟩
              case rest =>
                obtain ⟨rfl, hw⟩ := hcut
                have hw := hw.symm
                subst hw
                go_wp2
                go_loopw [35] (fun i wr => ∃ k m : Nat, k ≤ n ∧ i = .int .i64 k ∧ wr = w4.drewN m) (fun i _ => n - (intOf i).toNat)
                case atStart => exact ⟨0, 0, Nat.zero_le _, rfl, rfl⟩
                case round =>
                  obtain ⟨k, m, hk, rfl, rfl⟩ := hrel
                  by_cases hlt : k < n
                  · have dk : decide ((k : Int) < (n : Int)) = true := decide_eq_true (by omega)
                    have k0 : (0 : Int) ≤ (k : Int) := Int.natCast_nonneg _
                    have k1 : (k : Int) < (n : Int) := by omega
                    obtain ⟨ga, gb, gc, rfl, rfl, rfl, p1, p2, p3⟩ := hg.out k hlt
                    obtain ⟨b1, b2, b3⟩ := hxyz.out k hlt
                    generalize x k = xx at *
                    generalize y k = yy at *
                    generalize z k = zz at *
                    have e1 : IntKind.i64.wrap ((xx : Int) + (yy : Int)) = (xx : Int) + (yy : Int) := IntWalk.i64_in _ (by omega)
                    have m1 : Int.tmod ((xx : Int) + (yy : Int)) 2 = (zz : Int) := by rw [Int.tmod_eq_emod_of_nonneg (by omega)]; omega
                    have qz := hcy.out (zz : Int)
                    go_upto_region 32 with (fail)
                    go_quiet (fail)
                    go_wp2
                    go_roundw
                    case rel => exact ⟨k + 1, _, by omega, by go_num, rfl⟩
                    case measure => simp [intOf]; omega
                  · obtain rfl : k = n := by omega
                    have dk : decide ((k : Int) < (k : Int)) = false := decide_eq_false (by omega)
                    go_wp2
                    go_meet
                    case rel => exact below_drewN hB.out _
            · have d0 : ((mc : Int) == 0) = false := by simpa using h0
              clear hL
              go_wp2
              go_meet
              case rel => exact hB.out
        case rest =>
          as_aux_lemma =>
            clear hL hU1 hU2 hU3 hF hB
            have hS := hid ((St.start w).call hcut)
            clear hcut
            go_upto_region 45 with (first
              | (go_at_call 53; (with_reducible refine (hdr3.out _ hS.out.bel).mono ?_); rintro e w1 ⟨da, na, ua, ga, rfl, hF, hO, hb⟩; replace hS := hid (hS.out.callOwn hb hO); clear hb hO)
              | (go_at_call 52; (with_reducible refine (hig.out _ da na _ ua ga hS.out.o0 (by have := hF.out; omega)).mono ?_); rintro e w2 ⟨v1, rfl, hO, hb⟩; replace hS := hid (hS.out.callOwn hb hO); clear hb hO)
              | (go_at_call 54; (with_reducible refine (hsg.out _ da na _ ua ga hS.out.o1 (by have := hF.out; omega)).mono ?_); rintro e w3 ⟨v2, rfl, hO, hb⟩; replace hS := hid (hS.out.callOwn hb hO); clear hb hO)
              | (go_at_call 16; (with_reducible refine (hio.out _ da na _ ua ga hS.out.o2 (by have := hF.out; omega)).mono ?_); rintro e w4 ⟨rfl, hb⟩; replace hS := hid (hS.out.call hb); clear hb)
              | (go_at_call 55; (with_reducible refine (hso.out _ da na _ ua ga hS.out.o2 (by have := hF.out; omega)).mono ?_); rintro e w4 ⟨rfl, hb⟩; replace hS := hid (hS.out.call hb); clear hb)
              | (go_at_call 56; (with_reducible refine (hdr4.out _ hS.out.bel).mono ?_); rintro e w1 ⟨dc, nc, uc, gc, rfl, hF2, hO, hb⟩; replace hS := hid (hS.out.callOwn hb hO); clear hb hO)
              | (go_at_call 57; (with_reducible refine (hi1.out _ dc nc _ uc gc hS.out.o0 (by have := hF2.out; omega)).mono ?_); rintro e w4 ⟨rfl, hb⟩; replace hS := hid (hS.out.call hb); clear hb)
              | (go_at_call 58; (with_reducible refine (hs1.out _ dc nc _ uc gc hS.out.o0 (by have := hF2.out; omega)).mono ?_); rintro e w4 ⟨rfl, hb⟩; replace hS := hid (hS.out.call hb); clear hb)
              | (go_at_call 59; (with_reducible refine (hdr5.out _ hS.out.bel).mono ?_); rintro e w1 ⟨dp, np, up, gp, ws, rfl, hF3, hO, hb⟩; replace hS := hid (hS.out.callOwn hb hO); clear hb hO)
              | (go_at_call 50; (with_reducible refine (his.out _ dp np _ up gp hS.out.o0 (by have := hF3.out; omega) ws (by have := hF3.out; omega)).mono ?_); rintro e w2 ⟨v3, rfl, hO, hb⟩; replace hS := hid (hS.out.callOwn hb hO); clear hb hO)
              | (go_at_call 60; (with_reducible refine (hss.out _ dp np (by have := hF3.out; omega) _ up gp hS.out.o1 (by have := hF3.out; omega) ws (by have := hF3.out; omega)).mono ?_); rintro e w3 ⟨v4, rfl, hO, hb⟩; replace hS := hid (hS.out.callOwn hb hO); clear hb hO))
            have hn1 := hF.out
            have hl1 := hid (sgnAns_len (d := da) (g := ga) (show na ≤ 10 by omega))
            have hl2 := hid (sopAns_len dp np gp ws)
            generalize (sgnAns da na ga).1 = R1 at *
            generalize (sgnAns da na ga).2 = R2 at *
            generalize (oopAns da na ga).1 = R3 at *
            generalize (oopAns da na ga).2 = R4 at *
            generalize (oneAns dc nc gc).1 = R5 at *
            generalize (oneAns dc nc gc).2 = R6 at *
            generalize (sopAns dp np gp ws).1 = R7 at *
            generalize (sopAns dp np gp ws).2 = R8 at *
            clear hn1
            have q2 : ((R2 : Int) == R2) = true := by simp
            have q3 : ((R3 : Int) == R3) = true := by simp
            have q4 : ((R4 : Int) == R4) = true := by simp
            have q5 : ((R5 : Bool) == R5) = true := by simp
            have q6 : ((R6 : Int) == R6) = true := by simp
            have q8 : ((R8 : Int) == R8) = true := by simp
            go_wp2_with (first
              | (go_at_call 18; (with_reducible refine (hlk.out _ _ _ _ _ R1 hS.out.o5 hS.out.o4 hl1.out).mono ?_); rintro e w7 ⟨rfl, hb⟩; replace hS := hid (hS.out.call hb); clear hb)
              | (go_at_call 18; (with_reducible refine (hlk.out _ _ _ _ _ R7 hS.out.o1 hS.out.o0 hl2.out).mono ?_); rintro e w7 ⟨rfl, hb⟩; replace hS := hid (hS.out.call hb); clear hb))
            go_ret
            exact ⟨rfl, hS.out.bel⟩
  · have dl : decide (4096 < l.length) = true := decide_eq_true (by omega)
    rw [dl] at hbg
    go_enter Tryz.func6, Tryz.ntmps6
    go_wp2_with (
      (go_at_call 8; (with_reducible refine (hbg.out).mono ?_); rintro e w1 ⟨rfl, rfl⟩))
    go_ret
    exact ⟨rfl, Below.refl _ _⟩
end Go.Proofs.YthmcdfjijkecfaaGreat
