/- The machine of a state of a table: the program's search. -/
import Derived.Test.YthempofohidlnaaFrom
import Derived.Test.YthempofohidlnaaLawDual
namespace Go.Proofs.Ythempofohidlnaa
open Go.RowKit
set_option linter.unusedVariables false
set_option linter.unusedSimpArgs false

set_option maxHeartbeats 8000000 in
set_option maxRecDepth 100000 in
theorem machineFrom_any (w : World) (G q : Nat) (vN vO : Value) (T : Tab) (hT : T.Ok) (hL : T.L ≤ 3) (hL0 : 0 < T.L) (hn : T.n < 100000) (hTB : TB w G vN vO T) (hot : ∀ q x, q < T.n → x < T.L → T.ot q x < 256) (hq : q < T.n) :
    Calls Try.prog 126 #[.pointer (some ⟨G, 0, none⟩), .int .i64 T.L, .int .i64 q] w fun e w' => e = .returned (.tuple #[.agg (mcells (fromM T q)), .int .i64 (fromC T q)]) ∧ Below w.heap.size w w' := by
  have hz := zero_mach
  have hS := hid ((St.start w).newMB ⟨0, 0, fun _ => 0, fun _ => 0⟩ 34)
  have hB0 := hid (hS.out.bel)
  have hTB1 := hid (hTB.below hB0.out)
  have hls := hid (fun W hW => least_any W G vN vO T hT (by omega) hL0 hn hW)
  have hgt := hid (fun W bs bo base vs vo st hW => gathered_any W G bs bo base vN vO vs vo T st hT hL hL0 hn hW hot)
  have hfl := hid (fun j (hj : j < T.n) => (show (nats ((List.range T.n).map (fix T)))[j]? = some (.int .i64 (fix T j : Nat)) by simp [nats, hj]))
  have hfn := hid (show (nats ((List.range T.n).map (fix T))).length = T.n by simp [nats])
  have huq := hid (bfs_uniq hT (fun q hq => fix_lt q hq) q hq)
  have hfin := hid (fun i hi => fin_of hT (c := fix T) (fun q hq => fix_lt q hq) (q := q) (i := i) hq hi)
  have hclo := hid (fin_closed hT (c := fix T) (fun q hq => fix_lt q hq) hq)
  have hsm := hid (fun i s hi => bfs_some T (fix T) (q := q) (i := i) (s := s) hi)
  have hnx := hid (fun q x (hq : q < T.n) (hx : x < T.L) => hT.nx q x hq hx)
  have hpos := hT.pos
  obtain ⟨gN, cN, rfl, _, _⟩ := hTB.2.1.blk (fun e => by have h1 := congrArg List.length e; rw [tbL_length, List.length_nil] at h1; omega)
  have hrd := hid (fun W (hb : Below w.heap.size w W) => (hTB.below hb))
  have hread := hid (fun W (hb : Below w.heap.size w W) => (show W.cell? ⟨G, 0, none⟩ = some (.slice (some ⟨gN, 0, none⟩) T.n cN) from by have h := (hTB.below hb).c0; rw [tbL_length] at h; exact h))
  have hrowN := hid (fun q (hq : q < T.n) => (show ∃ g c, ∀ W, Below w.heap.size w W → W.cell? ⟨gN, q, none⟩ = some (.slice (some ⟨g, 0, none⟩) T.L c) ∧ ∀ x, x < T.L → W.cell? ⟨g, x, none⟩ = some (.int .i64 (T.nx q x : Nat)) from by
    obtain ⟨rows, hO, hlr, hall⟩ := hTB.2.1
    have hi : q < rows.length := by rw [hlr, tbL_length]; exact hq
    obtain ⟨r, hr⟩ : ∃ r, rows[q]? = some r := ⟨_, List.getElem?_eq_getElem hi⟩
    have hrow := hall q r _ hr (tbL_get T.nx T.n T.L q hq)
    obtain ⟨g, c, rfl, _, _⟩ := hrow.blk (fun e => by have h1 := congrArg List.length e; rw [ints_length, rwI_length, List.length_nil] at h1; omega)
    rw [ints_length, rwI_length] at hr hrow
    exact ⟨g, c, fun W hb => ⟨(hO.below hb).cellAt q _ hr, fun x hx => (hrow.below hb).cellAt x _ (by simp [ints, rwI_get _ _ _ _ hx])⟩⟩))
  replace hT := hid hT; replace hot := hid hot
  clear hTB
  generalize hFL : nats ((List.range T.n).map (fix T)) = FL at *
  replace hFL := hid hFL
  generalize hLL : T.L = L at *
  replace hLL := hid hLL
  generalize hnn : T.n = n at *
  replace hnn := hid hnn
  generalize hzs : mcells ⟨0, 0, fun _ => 0, fun _ => 0⟩ = zs at *
  replace hzs := hid hzs
  go_enter Try.func126, Try.ntmps126
  go_upto_region 3 with (go_at_call 153; (with_reducible refine (hls.out _ hTB1.out).mono ?_); rintro e w1 ⟨vof, rfl, hO, hb⟩; replace hS := hid (hS.out.callOwn hb hO); obtain ⟨gf, cf, rfl, _, _⟩ := hO.blk (fun e => by have h1 := congrArg List.length e; rw [hfn.out, List.length_nil] at h1; omega); rw [hfn.out] at hS ⊢; have cq := (hS.out.alloc (.cells #[.slice (some ⟨gf, 0, none⟩) n cf] 22)).o0.cellAt q _ (hfl.out q hq); clear hO hb hls)
  have hS2 := hid (((hS.out.newBlk #[.slice (some ⟨gf, 0, none⟩) n cf] 22).newOwn [.int .i64 (fix T q : Nat)] 2 (by simp)).newBlk #[.slice (some ⟨w1.heap.size + 1, 0, none⟩) 1 1] 22)
  simp only [heap_alloc_size, List.length_cons, List.length_nil] at hS2
  have hS1le := hid hS.out.le
  clear hS cq
  generalize ((w1.alloc (.cells #[.slice (some ⟨gf, 0, none⟩) n cf] 22)).alloc (.cells #[.int .i64 (fix T q : Nat)] 2)).alloc (.cells #[.slice (some ⟨w1.heap.size + 1, 0, none⟩) 1 1] 22) = w3 at *
  have h0 : bfs T (fix T) q 0 = [fix T q] := rfl
  have hS3 := hid (show St w.heap.size w [Asn.blk (w1.heap.size + 1 + 1) #[.slice (some ⟨w1.heap.size + 1, 0, none⟩) 1 1] 22, Asn.own w.heap.size 2 (.slice (some ⟨w1.heap.size + 1, 0, none⟩) 1 1) (nats (bfs T (fix T) q 0)), Asn.blk w1.heap.size #[.slice (some ⟨gf, 0, none⟩) n cf] 22, Asn.own w.heap.size 2 (.slice (some ⟨gf, 0, none⟩) n cf) FL, Asn.mb 34 w.heap.size ⟨0, 0, fun _ => 0, fun _ => 0⟩] w3 from hS2.out)
  clear hS2 h0 hB0
  have hle : w.heap.size ≤ w1.heap.size + 1 + 1 := by have := hS1le.out; omega
  replace hle := hid hle
  generalize w1.heap.size + 1 + 1 = bs at *
  generalize w1.heap.size = bo at *
  go_wp2
  go_loopw [10] (fun i wr => ∃ i' N : Nat, i = .int .i64 i' ∧ i' ≤ N ∧ (bfs T (fix T) q i').length = N ∧ ∃ g1 c1, St w.heap.size w [Asn.blk bs #[.slice (some ⟨g1, 0, none⟩) N c1] 22, Asn.own w.heap.size 2 (.slice (some ⟨g1, 0, none⟩) N c1) (nats (bfs T (fix T) q i')), Asn.blk bo #[.slice (some ⟨gf, 0, none⟩) n cf] 22, Asn.own w.heap.size 2 (.slice (some ⟨gf, 0, none⟩) n cf) FL, Asn.mb 34 w.heap.size ⟨0, 0, fun _ => 0, fun _ => 0⟩] wr) (fun i _ => n - (intOf i).toNat)
  case atStart => exact ⟨0, 1, rfl, by omega, rfl, _, _, hS3.out⟩
  case round =>
    obtain ⟨i, N, rfl, hiN, hN, g1, c1, rS⟩ := hrel
    clear hS3
    have hNn := (huq.out i).len
    rw [hN] at hNn
    have e1 : wr.cell? ⟨bs, 0, none⟩ = some (.slice (some ⟨g1, 0, none⟩) N c1) := cell_of_row _ _ 0 _ _ _ rS.k0
    replace hN := hid hN
    replace rS := hid rS
    by_cases hlt : i < N
    · obtain ⟨s, hs⟩ : ∃ s, (bfs T (fix T) q i)[i]? = some s := ⟨_, List.getElem?_eq_getElem (by rw [hN.out]; exact hlt)⟩
      have hsn := (huq.out i).2 s (List.mem_of_getElem? hs)
      have e2 := rS.out.o1.cellAt i (.int .i64 (s : Nat)) (by simp [nats, hs])
      have e3 := hread.out wr rS.out.bel
      obtain ⟨gr, cr, hr⟩ := hrowN.out s hsn
      have e4 := (hr wr rS.out.bel).1
      have hms := hid (hsm.out i s hs)
      have dlt : decide ((i : Int) < (N : Int)) = true := decide_eq_true (by omega)
      have huqi := hid (huq.out i)
      have huqm := hid (fun x (hx : x ≤ L) => by
        have h := Uniq.meets (T := T) (c := fix T) hT.out (fun q hq => fix_lt q hq) (s := s) (by rw [hnn.out]; exact hsn) (by rw [hnn.out]; exact huqi.out) x (by rw [hLL.out]; exact hx)
        rw [hnn.out] at h
        exact h)
      replace hr := hid hr
      clear hs
      go_upto_region 6 with (fail)
      go_quiet (fail)
      go_wp2
      clear e1 e2 e3 e4
      go_loopw [37] (fun j wr => ∃ x N : Nat, x ≤ L ∧ j = .int .i64 x ∧ (meets T (fix T) s (bfs T (fix T) q i) x).length = N ∧ i < N ∧ ∃ g1 c1, St w.heap.size w [Asn.blk bs #[.slice (some ⟨g1, 0, none⟩) N c1] 22, Asn.own w.heap.size 2 (.slice (some ⟨g1, 0, none⟩) N c1) (nats (meets T (fix T) s (bfs T (fix T) q i) x)), Asn.blk bo #[.slice (some ⟨gf, 0, none⟩) n cf] 22, Asn.own w.heap.size 2 (.slice (some ⟨gf, 0, none⟩) n cf) FL, Asn.mb 34 w.heap.size ⟨0, 0, fun _ => 0, fun _ => 0⟩] wr) (fun j _ => L - (intOf j).toNat)
      case atStart => exact ⟨0, N, Nat.zero_le _, rfl, hN.out, hlt, _, _, rS.out.drewN _⟩
      case round =>
        obtain ⟨x, N2, hx, rfl, hN2, hiN2, g2, c2, yS⟩ := hrel
        clear rS
        replace yS := hid yS
        by_cases hxL : x < L
        · have e5 := (hr.out wr yS.out.bel).2 x hxL
          have hrn := hnx.out s x hsn hxL
          have hsucc := hid (show meets T (fix T) s (bfs T (fix T) q i) (x + 1) = meet (meets T (fix T) s (bfs T (fix T) q i) x) (fix T (T.nx s x)) from rfl)
          have hum := hid (huqm.out x hx)
          have hN2n := hum.out.len
          rw [hN2] at hN2n
          have hffl := hfl.out _ hrn
          generalize T.nx s x = r at *
          generalize hmx : meets T (fix T) s (bfs T (fix T) q i) x = ms at *
          replace hmx := hid hmx
          generalize hfr : fix T r = fr at *
          replace hfr := hid hfr
          have e1 : wr.cell? ⟨bs, 0, none⟩ = some (.slice (some ⟨g2, 0, none⟩) N2 c2) := cell_of_row _ _ 0 _ _ _ yS.out.k0
          have e2 : wr.cell? ⟨bo, 0, none⟩ = some (.slice (some ⟨gf, 0, none⟩) n cf) := cell_of_row _ _ 0 _ _ _ yS.out.k2
          have e3 := yS.out.o3.cellAt r _ hffl
          have hN2' := hid hN2
          clear hN2
          by_cases hmem : fr ∈ ms
          · have hcn := hid (fun d => slContains_any (wr.drewN d) _ _ (ms.map Int.ofNat) (fr : Int) (by rw [← nats_ints]; exact yS.out.o1.drewN d) (by rw [List.length_map, hN2'.out]; omega) true ⟨fun _ => List.mem_map.2 ⟨fr, hmem, rfl⟩, fun _ => rfl⟩)
            have hsame := hid (show meet ms fr = ms from if_pos hmem)
            clear hmem hffl
            go_upto_region 9 with (fail)
            go_quiet ((go_at_call 91; exact quiet_same (hcn.out _)))
            go_wp2
            go_roundw
            case rel => exact ⟨x + 1, N2, by omega, by go_num, by rw [hsucc.out, hsame.out]; exact hN2'.out, hiN2, _, _, by rw [hsucc.out, hsame.out]; exact yS.out.drewN _⟩
            case measure => simp [intOf]; omega
          · have hcn := hid (fun d => slContains_any (wr.drewN d) _ _ (ms.map Int.ofNat) (fr : Int) (by rw [← nats_ints]; exact yS.out.o1.drewN d) (by rw [List.length_map, hN2'.out]; omega) false ⟨fun h => (by cases h), fun h => by
              obtain ⟨a, ha, e⟩ := List.mem_map.1 h
              have e2 : a = fr := Int.ofNat.inj e
              subst e2
              exact absurd ha hmem⟩)
            have hsame := hid (show meet ms fr = ms ++ [fr] from if_neg hmem)
            clear hmem hffl
            go_upto_region 9 with (fail)
            go_quiet ((go_at_call 91; exact quiet_same (hcn.out _)))
            go_upto_region 10 with (fail)
            clear e1 e2 e3 e5
            have zS := hid (yS.out.drewN nq).drew
            clear yS hcn
            have hlnat := hid (show (nats ms).length = N2 by rw [nats_length]; exact hN2'.out)
            have hsnoc := hid (show nats (ms ++ [fr]) = nats ms ++ [.int .i64 (fr : Int)] by simp [nats])
            have hff := hid (show FL[r]? = some (.int .i64 (fr : Nat)) by have h := hfl.out r hrn; rw [hfr.out] at h; exact h)
            have hT0 : (wr.drewN nq).drew.cell? ⟨bs, 0, none⟩ = some (.slice (some ⟨g2, 0, none⟩) N2 c2) ∧ (wr.drewN nq).drew.cell? ⟨bo, 0, none⟩ = some (.slice (some ⟨gf, 0, none⟩) n cf) ∧ (wr.drewN nq).drew.cell? ⟨gf, r, none⟩ = some (.int .i64 (fr : Nat)) := ⟨cell_of_row _ _ 0 _ _ _ zS.out.k0, cell_of_row _ _ 0 _ _ _ zS.out.k2, zS.out.o3.cellAt r _ hff.out⟩
            refine wp_region_heldL (L := [(7, (fun w' : World => w'.cell? ⟨bs, 0, none⟩ = some (.slice (some ⟨g2, 0, none⟩) N2 c2) ∧ w'.cell? ⟨bo, 0, none⟩ = some (.slice (some ⟨gf, 0, none⟩) n cf) ∧ w'.cell? ⟨gf, r, none⟩ = some (.int .i64 (fr : Nat))))]) (by kernel_rfl) (HeldL.cons (fun _ => hT0) HeldL.nil) (fun hHeld => ?_)
            clear hT0
            generalize (wr.drewN nq).drew = wa at *
            refine wpAnyL_takeP (i := 0) 7 [] (v := ?_) (fun w' : World => w'.cell? ⟨bs, 0, none⟩ = some (.slice (some ⟨g2, 0, none⟩) N2 c2) ∧ w'.cell? ⟨bo, 0, none⟩ = some (.slice (some ⟨gf, 0, none⟩) n cf) ∧ w'.cell? ⟨gf, r, none⟩ = some (.int .i64 (fr : Nat))) rfl (by kernel_rfl) (by kernel_rfl) (by kernel_rfl) (by rfl) (by kernel_rfl) (by simp) (fun _ _ _ h => h) (Or.inl ⟨by rfl, ?_⟩) (by assumption) ?_
            rotate_left
            · (intro W hW; (obtain ⟨h1, h2, h3⟩ := hW); go_simp; (with_reducible rfl))
            intro hHeld'
            clear hHeld; have hHeld := hHeld'; clear hHeld'
            try simp only [Act.put, List.setIfInBounds_toArray, List.set_cons_zero, List.set_cons_succ]
            refine wpAnyL_takeP (i := 1) 7 [] (v := ?_) (fun w' : World => w'.cell? ⟨bs, 0, none⟩ = some (.slice (some ⟨g2, 0, none⟩) N2 c2) ∧ w'.cell? ⟨bo, 0, none⟩ = some (.slice (some ⟨gf, 0, none⟩) n cf) ∧ w'.cell? ⟨gf, r, none⟩ = some (.int .i64 (fr : Nat))) rfl (by kernel_rfl) (by kernel_rfl) (by kernel_rfl) (by rfl) (by kernel_rfl) (by simp) (fun _ _ _ h => h) (Or.inl ⟨by rfl, ?_⟩) (by assumption) ?_
            rotate_left
            · (intro W hW; (obtain ⟨h1, h2, h3⟩ := hW); go_simp; (with_reducible rfl))
            intro hHeld'
            clear hHeld; have hHeld := hHeld'; clear hHeld'
            try simp only [Act.put, List.setIfInBounds_toArray, List.set_cons_zero, List.set_cons_succ]
            refine wpAnyL_take0 (i := 2) (v := ?_) rfl (by kernel_rfl) (by kernel_rfl) (by kernel_rfl) (by rfl) (fun _ _ _ h => h) (Or.inl ⟨by rfl, ?_⟩) (by assumption) ?_
            rotate_left
            · (intro W _; go_simp; (with_reducible rfl))
            intro hHeld'
            clear hHeld; have hHeld := hHeld'; clear hHeld'
            try simp only [Act.put, List.setIfInBounds_toArray, List.set_cons_zero, List.set_cons_succ]
            refine wpAnyL_take0 (i := 3) (v := ?_) rfl (by kernel_rfl) (by kernel_rfl) (by kernel_rfl) (by rfl) (fun _ _ _ h => h) (Or.inl ⟨by rfl, ?_⟩) (by assumption) ?_
            rotate_left
            · (intro W _; go_simp; (with_reducible rfl))
            intro hHeld'
            clear hHeld; have hHeld := hHeld'; clear hHeld'
            try simp only [Act.put, List.setIfInBounds_toArray, List.set_cons_zero, List.set_cons_succ]
            refine wpAnyL_takeP (i := 4) 7 [] (v := ?_) (fun w' : World => w'.cell? ⟨bs, 0, none⟩ = some (.slice (some ⟨g2, 0, none⟩) N2 c2) ∧ w'.cell? ⟨bo, 0, none⟩ = some (.slice (some ⟨gf, 0, none⟩) n cf) ∧ w'.cell? ⟨gf, r, none⟩ = some (.int .i64 (fr : Nat))) rfl (by kernel_rfl) (by kernel_rfl) (by kernel_rfl) (by rfl) (by kernel_rfl) (by simp) (fun _ _ _ h => h) (Or.inl ⟨by rfl, ?_⟩) (by assumption) ?_
            rotate_left
            · (intro W hW; (obtain ⟨h1, h2, h3⟩ := hW); go_simp; (with_reducible rfl))
            intro hHeld'
            clear hHeld; have hHeld := hHeld'; clear hHeld'
            try simp only [Act.put, List.setIfInBounds_toArray, List.set_cons_zero, List.set_cons_succ]
            refine wpAnyL_ready (rs := [5]) (by kernel_rfl) (by simp) ?_
            refine AllReadyL.cons rfl (fun K hK => ?_) AllReadyL.nil
            go_simp
            replace zS := hid (zS.out.newBlk #[.int .i64 (fr : Int)] 2)
            generalize wa.heap.size = bB at *
            generalize wa.alloc (.cells #[.int .i64 (fr : Int)] 2) = wb at *
            refine hK.out _ _ (HeldL.cons (fun _ => ⟨cell_of_row _ _ 0 _ _ _ zS.out.k1, cell_of_row _ _ 0 _ _ _ zS.out.k3, zS.out.o4.cellAt r _ hff.out⟩) HeldL.nil) (fun hHeld' => ?_)
            clear hK K hHeld; have hHeld := hHeld'; clear hHeld'
            try simp only [Act.put, List.setIfInBounds_toArray, List.set_cons_zero, List.set_cons_succ]
            refine wpAnyL_ready (rs := [6]) (by kernel_rfl) (by simp) ?_
            refine AllReadyL.cons rfl (fun K hK => ?_) AllReadyL.nil
            refine St.step1 22 2 2 (.int .i64 0) 8 Try.underlying22 info_i64 rfl (by omega) rfl _ _ rfl _ _ rfl (zS.out.f2) rfl rfl _ hlnat.out (by omega) ?_
            intro gn cn wc zS'
            replace zS := hid zS'.f1.drop; clear zS'
            refine hK.out _ _ (HeldL.cons (fun _ => ⟨cell_of_row _ _ 0 _ _ _ zS.out.k1, cell_of_row _ _ 0 _ _ _ zS.out.k2, zS.out.o3.cellAt r _ hff.out⟩) HeldL.nil) (fun hHeld' => ?_)
            clear hK K hHeld; have hHeld := hHeld'; clear hHeld'
            try simp only [Act.put, List.setIfInBounds_toArray, List.set_cons_zero, List.set_cons_succ]
            have q1 : wc.cell? ⟨bs, 0, none⟩ = some (.slice (some ⟨g2, 0, none⟩) N2 c2) := cell_of_row _ _ 0 _ _ _ zS.out.k1
            have q2 := frozen_of_row _ _ 0 _ _ zS.out.k1
            refine wpAnyL_ready (rs := [7]) (by kernel_rfl) (by simp) ?_
            refine AllReadyL.cons rfl (fun K hK => ?_) AllReadyL.nil
            go_simp
            replace zS := hid (show St w.heap.size w (Asn.blk bs #[.slice (some ⟨gn, 0, none⟩) (N2 + 1) cn] 22 :: _) _ from zS.out.f1.setBlk hle.out 0 (.slice (some ⟨gn, 0, none⟩) (N2 + 1) cn)); clear q1 q2
            refine hK.out _ _ (HeldL.cons (fun h => absurd h (by decide +kernel)) HeldL.nil) (fun hHeld' => ?_)
            clear hK K hHeld; have hHeld := hHeld'; clear hHeld'
            try simp only [Act.put, List.setIfInBounds_toArray, List.set_cons_zero, List.set_cons_succ]
            refine wpAnyL_done (by kernel_rfl) ?_ _
            go_wp2
            go_roundw
            case rel => exact ⟨x + 1, N2 + 1, by omega, by go_num, by rw [hsucc.out, hsame.out, List.length_append, hN2'.out]; rfl, by omega, _, _, by rw [hsucc.out, hsame.out, hsnoc.out]; exact zS.out⟩
            case measure => simp [intOf]; omega
        · obtain rfl : L = x := by omega
          have hN2' := hid hN2
          clear hN2
          go_wp2
          go_roundw
          case rel => exact ⟨i + 1, N2, by go_num, by omega, by rw [hms.out]; exact hN2'.out, _, _, by rw [hms.out]; exact yS.out⟩
          case measure => simp [intOf]; omega
    · obtain rfl : N = i := by omega
      have hf := hid (hfin.out N hN.out)
      have hA := hid (show fromM T q = if (bfs T (fix T) q N).length ≤ 16 then gth T (fix T) (bfs T (fix T) q N) else ⟨0, 0, fun _ => 0, fun _ => 0⟩ by unfold fromM; rw [hf.out])
      have hC := hid (show fromC T q = if (bfs T (fix T) q N).length ≤ 16 then 0 else 3 by unfold fromC; rw [hf.out])
      rw [hN.out] at hA hC
      by_cases h16 : N ≤ 16
      · have hg := hid (hgt.out wr bs bo w.heap.size (.slice (some ⟨g1, 0, none⟩) N c1) (.slice (some ⟨gf, 0, none⟩) n cf) (bfs T (fix T) q N) (hrd.out wr rS.out.bel) e1 (cell_of_row _ _ 0 _ _ _ rS.out.k2)
          ((Array.getElem?_eq_some_iff.1 rS.out.k0).1) ((Array.getElem?_eq_some_iff.1 rS.out.k2).1) rS.out.o1 rS.out.o3 (huq.out N).2 (by rw [← hf.out]; exact hclo.out) (by rw [hN.out]; exact h16))
        rw [if_pos h16] at hA hC
        generalize gth T (fix T) (bfs T (fix T) q N) = gm at *
        have hmf : ∀ (fn : Fn) (first cap : Array Value) (w : World), (Instr.makeFunc fn first cap).run Try.prog w = .ok (.func fn first cap) w := fun _ _ _ _ => rfl
        have d16 : decide ((N : Int) > 16) = false := decide_eq_false (by omega)
        clear hf hN
        go_wp2_with (first
          | (go_at_call 154; (with_reducible refine (hg.out).mono ?_); rintro e w5 ⟨rfl, hb⟩; replace rS := hid (rS.out.call hb).f4; clear hb hg)
          | ((with_reducible refine gateOp (op := .store 34 (.tmp 6) (.tmp 64)) rfl ?_); refine store_mach rfl _ _ rfl w.heap.size rfl gm rfl 34 _ rS.out.m0 ?_; intro W3 p2 ho hsz hbl; have pB := hid (hbl _ _ (Nat.le_refl _) rS.out.bel); replace p2 := hid p2; clear ho hsz hbl))
        exact ret_mach_i rfl rfl rfl p2.out rfl ⟨by rw [hA.out, hC.out], pB.out⟩
      · rw [if_neg h16] at hA hC
        have d16 : decide ((N : Int) > 16) = true := decide_eq_true (by omega)
        replace rS := hid rS.out.f4
        clear hf hN
        go_wp2_with (first
          | ((with_reducible refine gate (N := 59) rfl ?_); refine build_zero rfl rfl ?_)
          | ((with_reducible refine gateOp (op := .store 34 (.tmp 6) (.tmp 59)) rfl ?_); refine store_mach rfl _ _ rfl w.heap.size rfl ⟨0, 0, fun _ => 0, fun _ => 0⟩ rfl 34 _ rS.out.m0 ?_; intro W3 p2 ho hsz hbl; have pB := hid (hbl _ _ (Nat.le_refl _) rS.out.bel); replace p2 := hid p2; clear ho hsz hbl))
        exact ret_mach_i rfl rfl rfl p2.out rfl ⟨by rw [hA.out, hC.out], pB.out⟩
end Go.Proofs.Ythempofohidlnaa
