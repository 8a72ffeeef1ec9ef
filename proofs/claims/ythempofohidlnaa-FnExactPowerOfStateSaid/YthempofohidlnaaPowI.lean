/- PowerOfState: what the program answers. -/
import Derived.Test.YthempofohidlnaaPowS
import Derived.Test.YthempofohidlnaaRep
namespace Go.Proofs.Ythempofohidlnaa
open Go.RowKit
set_option linter.unusedVariables false
set_option linter.unusedSimpArgs false
-- @LONG

theorem St.callBlk {base bn t : Nat} {w0 w w' : World} {L : List Asn} {cs : Array Value} (h : St base w0 L w) (h' : St w.heap.size w [Asn.blk bn cs t] w') (hb : w.heap.size ≤ bn) : St base w0 (Asn.blk bn cs t :: L) w' :=
  h.callPush (a := Asn.blk bn cs t) h'.bel h'.k0 fun k hk => (show k = bn from hk) ▸ hb

set_option maxHeartbeats 4000000 in
set_option maxRecDepth 4000 in
theorem implPow_any (w : World) (m : Mach) (hkm : m.Ok) (q n : Int) :
    Calls Try.prog 30 #[.agg (mcells m), .int .i64 q, .int .i64 n] w fun e w' => e = .returned (.tuple #[.agg (mcells (powAns m q n).1), .int .i64 (powAns m q n).2]) ∧ Below w.heap.size w w' := by
  have hz := zero_mach
  have hS := hid (((St.start w).newMB m 34).newMB ⟨0, 0, fun _ => 0, fun _ => 0⟩ 34)
  rw [heap_alloc_size] at hS
  have hcode := hid (fun W base v h => codeOf_any W m hkm { data := #[] } (by decide) base v [q] h (by simp))
  have hown := hid (hS.out.newOwn [Value.int .i64 q] 2 (by simp))
  simp only [heap_alloc_size] at hown
  rcases codeI_cases m q with h | h | ⟨l, s, q, g, rfl, hq, h⟩
  · rw [powAns_n h (by decide)]
    rw [h] at hcode
    replace hkm := hid hkm; clear h
    generalize hzs : mcells ⟨0, 0, fun _ => 0, fun _ => 0⟩ = zs at *
    replace hzs := hid hzs
    go_enter Try.func30, Try.ntmps30
    go_wp2_with (first
      | ((with_reducible refine gate (N := 10) rfl ?_); refine load_mach rfl _ rfl w.heap.size rfl m hS.out.m1 ?_)
      | (go_at_call 61; (with_reducible refine (hcode.out _ _ _ hown.out.o0).mono ?_); rintro e w1 ⟨rfl, hb⟩; replace hS := hid (hown.out.call hb).drop; clear hcode hown; clear hb)
      | ((with_reducible refine gate (N := 16) rfl ?_); refine build_zero rfl rfl ?_)
      | ((with_reducible refine gateOp (op := .store 34 (.tmp 6) (.tmp 16)) rfl ?_); refine store_mach rfl _ _ rfl (w.heap.size + 1) rfl ⟨0, 0, fun _ => 0, fun _ => 0⟩ rfl 34 _ hS.out.m0 ?_; intro W3 p2 ho hsz hbl; have pB := hid (hbl _ _ (Nat.le_succ _) hS.out.bel); replace p2 := hid p2; clear ho hsz hbl))
    exact ret_mach_i rfl rfl rfl p2.out rfl ⟨by rw [hzs.out], pB.out⟩
  · rw [powAns_n h (by decide)]
    rw [h] at hcode
    replace hkm := hid hkm; clear h
    generalize hzs : mcells ⟨0, 0, fun _ => 0, fun _ => 0⟩ = zs at *
    replace hzs := hid hzs
    go_enter Try.func30, Try.ntmps30
    go_wp2_with (first
      | ((with_reducible refine gate (N := 10) rfl ?_); refine load_mach rfl _ rfl w.heap.size rfl m hS.out.m1 ?_)
      | (go_at_call 61; (with_reducible refine (hcode.out _ _ _ hown.out.o0).mono ?_); rintro e w1 ⟨rfl, hb⟩; replace hS := hid (hown.out.call hb).drop; clear hcode hown; clear hb)
      | ((with_reducible refine gate (N := 16) rfl ?_); refine build_zero rfl rfl ?_)
      | ((with_reducible refine gateOp (op := .store 34 (.tmp 6) (.tmp 16)) rfl ?_); refine store_mach rfl _ _ rfl (w.heap.size + 1) rfl ⟨0, 0, fun _ => 0, fun _ => 0⟩ rfl 34 _ hS.out.m0 ?_; intro W3 p2 ho hsz hbl; have pB := hid (hbl _ _ (Nat.le_succ _) hS.out.bel); replace p2 := hid p2; clear ho hsz hbl))
    exact ret_mach_i rfl rfl rfl p2.out rfl ⟨by rw [hzs.out], pB.out⟩
  · by_cases hn : -16 ≤ n ∧ n ≤ 16
    · have hw := hid (show true = decide (-16 ≤ n ∧ n ≤ 16) from (decide_eq_true hn).symm)
      rw [powAns_0 g h hn]
      rw [h] at hcode
      have hcl := hid (fun W hW => inverse_any w.heap.size W m hW l s g hkm)
      have hpo := hid (productOf_any)
      have gB := powB_good g n
      have hz2 := hid (fun L W (h : St w.heap.size w L W) => h.newMB ⟨0, 0, fun _ => 0, fun _ => 0⟩ 34)
      replace hkm := hid hkm; clear h
      obtain ⟨ans, hpw⟩ : ∃ a, a = powR m l s q n := ⟨_, rfl⟩
      rw [← hpw]
      replace hpw := hid hpw
      generalize hzs : mcells ⟨0, 0, fun _ => 0, fun _ => 0⟩ = zs at *
      replace hzs := hid hzs
      go_enter Try.func30, Try.ntmps30
      go_upto_region 6 with (first
        | ((with_reducible refine gate (N := 10) rfl ?_); refine load_mach rfl _ rfl w.heap.size rfl m hS.out.m1 ?_)
        | (go_at_call 61; (with_reducible refine (hcode.out _ _ _ hown.out.o0).mono ?_); rintro e w1 ⟨rfl, hb⟩; replace hS := hid (hown.out.call hb).drop; clear hcode hown; clear hb)
        | (go_at_call 62; (with_reducible refine (within_any _ _ _ true hw.out _).mono ?_); rintro e w' ⟨rfl, rfl⟩))
      have hld := hid hS.out.m1
      have hle := hid hS.out.le
      replace hS := hid (hz2.out _ _ hS.out)
      by_cases hneg : n < 0
      · have hB : powB m l s n = inv m l s := if_pos hneg
        have hn0 : decide (n < 0) = true := decide_eq_true hneg
        obtain ⟨f0, hf0⟩ : ∃ f0 : Nat, -n = f0 := ⟨n.natAbs, by omega⟩
        have e0 : n.natAbs = f0 := by omega
        have hf16 : f0 ≤ 16 := by omega
        have e1 : IntKind.i64.wrap (-n) = (f0 : Int) := by rw [hf0]; exact IntWalk.i64_in _ (by omega)
        have hans : chn (fun _ => (inv m l s, s, q)) l f0 0 (trivM l) = ans := by rw [hpw.out]; unfold powR; rw [e0, hB]
        rw [hB] at gB
        replace hans := hid hans; replace gB := hid gB; replace g := hid g; replace hf0 := hid hf0
        clear hB e0 hneg hn hpw
        go_upto_region 9 with (first
          | ((with_reducible refine gate (N := 22) rfl ?_); refine load_mach rfl _ rfl w.heap.size rfl m hld.out ?_)
          | ((with_reducible refine gateOp (op := .store 34 (.tmp 9) (.tmp 22)) rfl ?_); refine store_mach rfl _ _ rfl w1.heap.size rfl m rfl 34 _ hS.out.m0 ?_; intro W1 p3 ho hsz hbl; replace hS := hid (hS.out.setM hle.out p3 ho hbl); clear p3 ho hsz hbl)
          | (go_at_call 73; (with_reducible refine (hcl.out _ hS.out.m2).mono ?_); rintro e w2 ⟨rfl, hb⟩; replace hS := hid (hS.out.call hb); clear hcl; clear hb)
          | ((with_reducible refine gateOp (op := .store 34 (.tmp 9) (.tmp 25)) rfl ?_); refine store_mach rfl _ _ rfl w1.heap.size rfl (inv m l s) rfl 34 _ hS.out.m0 ?_; intro W2 p3 ho hsz hbl; replace hS := hid (hS.out.setM hle.out p3 ho hbl); clear p3 ho hsz hbl))
        clear hld
        generalize w1.heap.size = b9 at *
        have hcs := hid (fun (W : World) B (hB : W.heap[B]? = some (.cells #[.pointer (some ⟨b9, 0, none⟩), .int .i64 (q : Int)] 88 (0, 0))) => (show ∀ j v, [Value.pointer (some ⟨b9, 0, none⟩), .int .i64 (q : Int)][j]? = some v → W.cell? ⟨B, j, none⟩ = some v from fun j v hv => by
          rw [cell_of_row W B j _ _ _ hB]; simpa using hv))
        have hrp := hid (fun (W : World) B (hB : W.heap[B]? = some (.cells (rp [.pointer (some ⟨b9, 0, none⟩), .int .i64 (q : Int)] f0).toArray 88 (0, 0))) => (show ∀ i, i < f0 → W.rangeAt B (i * 2) [.pointer (some ⟨b9, 0, none⟩), .int .i64 (q : Int)] from fun i hi j u hu => by
          rw [cell_of_row W B _ _ _ _ hB]
          simpa using rp_at _ f0 i j u hi hu))
        have hrf := hid (fun W B (hB : W.heap[B]? = some (.cells #[.pointer (some ⟨b9, 0, none⟩), .int .i64 (q : Int)] 88 (0, 0))) => repFactor_any W B 1 f0 [.pointer (some ⟨b9, 0, none⟩), .int .i64 (q : Int)] rfl (by intro v hv; simp at hv; rcases hv with rfl | rfl <;> rfl) (by omega) (hcs.out W B hB) (Array.getElem?_eq_some_iff.1 hB).1)
        have hpo2 := hid (fun W B (hB : W.heap[B]? = some (.cells (rp [.pointer (some ⟨b9, 0, none⟩), .int .i64 (q : Int)] f0).toArray 88 (0, 0))) (hm : MB W 34 b9 (inv m l s)) => hpo.out W B f0 f0 l (fun _ => ((inv m l s), s, q)) (fun _ => b9) g.out.l2 g.out.l3 (by omega) (fun W' hW' i hi => ⟨hrp.out W' B ((hW'.block B (Array.getElem?_eq_some_iff.1 hB).1).trans hB) i hi, hm.below hW' hm.lt⟩) (fun i _ => ⟨gB.out, hq⟩))
        have hcL := hid (fun W (hm : MB W 34 w.heap.size m) => (show W.cell? ⟨w.heap.size, 0, none⟩ = some (.int .i64 (l : Int)) from by have h := hm.cL; rw [g.out.L] at h; exact h))
        replace hS := hid hS.out.drew
        refine wp_region_heldL (L := [(7, (fun w' : World => w'.cell? ⟨w.heap.size, 0, none⟩ = some (.int .i64 (l : Int))))]) (by kernel_rfl) (HeldL.cons (fun _ => hcL.out _ hS.out.m2) HeldL.nil) (fun hHeld => ?_)
        generalize W2.drew = wa at *
        refine wpAnyL_take0 (i := 0) (v := ?_) rfl (by kernel_rfl) (by kernel_rfl) (by kernel_rfl) (by rfl) (fun _ _ _ h => h) (Or.inl ⟨by rfl, ?_⟩) (by assumption) ?_
        rotate_left
        · (intro W _; go_simp; (with_reducible rfl))
        intro hHeld'
        clear hHeld; have hHeld := hHeld'; clear hHeld'
        try simp only [Act.put, List.getElem_toArray, List.getElem_cons_succ, List.getElem_cons_zero, List.setIfInBounds_toArray, List.set_cons_zero, List.set_cons_succ]
        refine wpAnyL_take0 (i := 2) (v := ?_) rfl (by kernel_rfl) (by kernel_rfl) (by kernel_rfl) (by rfl) (fun _ _ _ h => h) (Or.inl ⟨by rfl, ?_⟩) (by assumption) ?_
        rotate_left
        · (intro W _; go_simp; (with_reducible rfl))
        intro hHeld'
        clear hHeld; have hHeld := hHeld'; clear hHeld'
        try simp only [Act.put, List.getElem_toArray, List.getElem_cons_succ, List.getElem_cons_zero, List.setIfInBounds_toArray, List.set_cons_zero, List.set_cons_succ]
        refine wpAnyL_take0 (i := 3) (v := ?_) rfl (by kernel_rfl) (by kernel_rfl) (by kernel_rfl) (by rfl) (fun _ _ _ h => h) (Or.inl ⟨by rfl, ?_⟩) (by assumption) ?_
        rotate_left
        · (intro W _; go_simp; (with_reducible rfl))
        intro hHeld'
        clear hHeld; have hHeld := hHeld'; clear hHeld'
        try simp only [Act.put, List.getElem_toArray, List.getElem_cons_succ, List.getElem_cons_zero, List.setIfInBounds_toArray, List.set_cons_zero, List.set_cons_succ]
        refine wpAnyL_take0 (i := 5) (v := ?_) rfl (by kernel_rfl) (by kernel_rfl) (by kernel_rfl) (by rfl) (fun _ _ _ h => h) (Or.inl ⟨by rfl, ?_⟩) (by assumption) ?_
        rotate_left
        · (intro W _; go_simp; (with_reducible rfl))
        intro hHeld'
        clear hHeld; have hHeld := hHeld'; clear hHeld'
        try simp only [Act.put, List.getElem_toArray, List.getElem_cons_succ, List.getElem_cons_zero, List.setIfInBounds_toArray, List.set_cons_zero, List.set_cons_succ]
        refine wpAnyL_takeP (i := 1) 7 [] (v := ?_) (fun w' : World => w'.cell? ⟨w.heap.size, 0, none⟩ = some (.int .i64 (l : Int))) rfl (by kernel_rfl) (by kernel_rfl) (by kernel_rfl) (by rfl) (by kernel_rfl) (by simp) (fun _ _ _ h => h) (Or.inl ⟨by rfl, ?_⟩) (by assumption) ?_
        rotate_left
        · (intro W hW; go_simp; (with_reducible rfl))
        intro hHeld'
        clear hHeld; have hHeld := hHeld'; clear hHeld'
        try simp only [Act.put, List.getElem_toArray, List.getElem_cons_succ, List.getElem_cons_zero, List.setIfInBounds_toArray, List.set_cons_zero, List.set_cons_succ]
        refine wpAnyL_ready (rs := [4]) (by kernel_rfl) (by simp) ?_
        refine AllReadyL.cons rfl (fun K hK => ?_) AllReadyL.nil
        go_simp
        replace hS := hid (hS.out.newBlk #[.pointer (some ⟨b9, 0, none⟩), .int .i64 (q : Int)] 88)
        generalize wa.heap.size = bA at *
        generalize wa.alloc (.cells #[.pointer (some ⟨b9, 0, none⟩), .int .i64 (q : Int)] 88) = wb at *
        refine hK.out _ _ (HeldL.cons (fun _ => hcL.out _ hS.out.m3) HeldL.nil) (fun hHeld' => ?_)
        clear hK K hHeld; have hHeld := hHeld'; clear hHeld'
        try simp only [Act.put, List.getElem_toArray, List.getElem_cons_succ, List.getElem_cons_zero, List.setIfInBounds_toArray, List.set_cons_zero, List.set_cons_succ]
        refine wpAnyL_ready (rs := [6]) (by kernel_rfl) (by simp) ?_
        refine AllReadyL.cons rfl (fun K hK => ?_) AllReadyL.nil
        go_simp
        (with_reducible refine (hrf.out _ _ hS.out.k0).mono ?_)
        rintro e w4 ⟨rfl, h4⟩
        replace hS := hid (hS.out.callBlk h4 (Nat.le_refl _))
        clear h4
        generalize wb.heap.size = bB at *
        go_simp
        refine hK.out _ _ (HeldL.cons (fun _ => hcL.out _ hS.out.m4) HeldL.nil) (fun hHeld' => ?_)
        clear hK K hHeld; have hHeld := hHeld'; clear hHeld'
        try simp only [Act.put, List.getElem_toArray, List.getElem_cons_succ, List.getElem_cons_zero, List.setIfInBounds_toArray, List.set_cons_zero, List.set_cons_succ]
        refine wpAnyL_ready (rs := [7]) (by kernel_rfl) (by simp) ?_
        refine AllReadyL.cons rfl (fun K hK => ?_) AllReadyL.nil
        go_simp
        (with_reducible refine (hpo2.out _ _ hS.out.k0 hS.out.m2).mono ?_)
        rintro e w5 ⟨rfl, h5⟩
        replace hS := hid (hS.out.call h5)
        clear h5
        rw [hans.out]
        go_simp
        refine hK.out _ _ (HeldL.cons (fun h => absurd h (by decide +kernel)) HeldL.nil) (fun hHeld' => ?_)
        clear hK K hHeld; have hHeld := hHeld'; clear hHeld'
        try simp only [Act.put, List.getElem_toArray, List.getElem_cons_succ, List.getElem_cons_zero, List.setIfInBounds_toArray, List.set_cons_zero, List.set_cons_succ]
        refine wpAnyL_take0 (i := 8) (v := ?_) rfl (by kernel_rfl) (by kernel_rfl) (by kernel_rfl) (by rfl) (fun _ _ _ h => h) (Or.inl ⟨by rfl, ?_⟩) (by assumption) ?_
        rotate_left
        · (intro W _; go_simp; (with_reducible rfl))
        intro hHeld'
        clear hHeld; have hHeld := hHeld'; clear hHeld'
        try simp only [Act.put, List.getElem_toArray, List.getElem_cons_succ, List.getElem_cons_zero, List.setIfInBounds_toArray, List.set_cons_zero, List.set_cons_succ]
        refine wpAnyL_take0 (i := 9) (v := ?_) rfl (by kernel_rfl) (by kernel_rfl) (by kernel_rfl) (by rfl) (fun _ _ _ h => h) (Or.inl ⟨by rfl, ?_⟩) (by assumption) ?_
        rotate_left
        · (intro W _; go_simp; (with_reducible rfl))
        intro hHeld'
        clear hHeld; have hHeld := hHeld'; clear hHeld'
        try simp only [Act.put, List.getElem_toArray, List.getElem_cons_succ, List.getElem_cons_zero, List.setIfInBounds_toArray, List.set_cons_zero, List.set_cons_succ]
        refine wpAnyL_ready (rs := [10]) (by kernel_rfl) (by simp) ?_
        refine AllReadyL.cons rfl (fun K hK => ?_) AllReadyL.nil
        refine step_store_mach rfl _ _ rfl _ rfl ans.1 rfl _ _ hS.out.m3 ?_
        intro W9 p2 ho hbl
        have pB := hid (hbl _ _ (Nat.le_succ _) hS.out.bel)
        replace p2 := hid p2
        clear ho hbl
        refine hK.out _ _ (HeldL.cons (fun h => absurd h (by decide +kernel)) HeldL.nil) (fun hHeld' => ?_)
        clear hK K hHeld; have hHeld := hHeld'; clear hHeld'
        try simp only [Act.put, List.getElem_toArray, List.getElem_cons_succ, List.getElem_cons_zero, List.setIfInBounds_toArray, List.set_cons_zero, List.set_cons_succ]
        refine wpAnyL_take0 (i := 11) (v := ?_) rfl (by kernel_rfl) (by kernel_rfl) (by kernel_rfl) (by rfl) (fun _ _ _ h => h) (Or.inl ⟨by rfl, ?_⟩) (by assumption) ?_
        rotate_left
        · (intro W _; go_simp; (with_reducible rfl))
        intro hHeld'
        clear hHeld; have hHeld := hHeld'; clear hHeld'
        try simp only [Act.put, List.getElem_toArray, List.getElem_cons_succ, List.getElem_cons_zero, List.setIfInBounds_toArray, List.set_cons_zero, List.set_cons_succ]
        refine wpAnyL_done (by kernel_rfl) ?_ _
        go_wp2
        exact ret_mach_i rfl rfl rfl p2.out rfl ⟨rfl, pB.out⟩
      · have hB : powB m l s n = m := if_neg hneg
        have hn0 : decide (n < 0) = false := decide_eq_false hneg
        obtain ⟨f0, hf0⟩ : ∃ f0 : Nat, n = f0 := ⟨n.natAbs, by omega⟩
        have e0 : n.natAbs = f0 := by omega
        have hf16 : f0 ≤ 16 := by omega
        have hans : chn (fun _ => (m, s, q)) l f0 0 (trivM l) = ans := by rw [hpw.out]; unfold powR; rw [e0, hB]
        rw [hB] at gB
        subst hf0
        replace hans := hid hans; replace gB := hid gB; replace g := hid g
        clear hB e0 hneg hn hpw
        go_upto_region 9 with (first
          | ((with_reducible refine gate (N := 22) rfl ?_); refine load_mach rfl _ rfl w.heap.size rfl m hld.out ?_)
          | ((with_reducible refine gateOp (op := .store 34 (.tmp 9) (.tmp 22)) rfl ?_); refine store_mach rfl _ _ rfl w1.heap.size rfl m rfl 34 _ hS.out.m0 ?_; intro W1 p3 ho hsz hbl; replace hS := hid (hS.out.setM hle.out p3 ho hbl); clear p3 ho hsz hbl))
        clear hld
        generalize w1.heap.size = b9 at *
        have hcs := hid (fun (W : World) B (hB : W.heap[B]? = some (.cells #[.pointer (some ⟨b9, 0, none⟩), .int .i64 (q : Int)] 88 (0, 0))) => (show ∀ j v, [Value.pointer (some ⟨b9, 0, none⟩), .int .i64 (q : Int)][j]? = some v → W.cell? ⟨B, j, none⟩ = some v from fun j v hv => by
          rw [cell_of_row W B j _ _ _ hB]; simpa using hv))
        have hrp := hid (fun (W : World) B (hB : W.heap[B]? = some (.cells (rp [.pointer (some ⟨b9, 0, none⟩), .int .i64 (q : Int)] f0).toArray 88 (0, 0))) => (show ∀ i, i < f0 → W.rangeAt B (i * 2) [.pointer (some ⟨b9, 0, none⟩), .int .i64 (q : Int)] from fun i hi j u hu => by
          rw [cell_of_row W B _ _ _ _ hB]
          simpa using rp_at _ f0 i j u hi hu))
        have hrf := hid (fun W B (hB : W.heap[B]? = some (.cells #[.pointer (some ⟨b9, 0, none⟩), .int .i64 (q : Int)] 88 (0, 0))) => repFactor_any W B 1 f0 [.pointer (some ⟨b9, 0, none⟩), .int .i64 (q : Int)] rfl (by intro v hv; simp at hv; rcases hv with rfl | rfl <;> rfl) (by omega) (hcs.out W B hB) (Array.getElem?_eq_some_iff.1 hB).1)
        have hpo2 := hid (fun W B (hB : W.heap[B]? = some (.cells (rp [.pointer (some ⟨b9, 0, none⟩), .int .i64 (q : Int)] f0).toArray 88 (0, 0))) (hm : MB W 34 b9 m) => hpo.out W B f0 f0 l (fun _ => (m, s, q)) (fun _ => b9) g.out.l2 g.out.l3 (by omega) (fun W' hW' i hi => ⟨hrp.out W' B ((hW'.block B (Array.getElem?_eq_some_iff.1 hB).1).trans hB) i hi, hm.below hW' hm.lt⟩) (fun i _ => ⟨gB.out, hq⟩))
        have hcL := hid (fun W (hm : MB W 34 w.heap.size m) => (show W.cell? ⟨w.heap.size, 0, none⟩ = some (.int .i64 (l : Int)) from by have h := hm.cL; rw [g.out.L] at h; exact h))
        replace hS := hid hS.out.drew
        refine wp_region_heldL (L := [(7, (fun w' : World => w'.cell? ⟨w.heap.size, 0, none⟩ = some (.int .i64 (l : Int))))]) (by kernel_rfl) (HeldL.cons (fun _ => hcL.out _ hS.out.m2) HeldL.nil) (fun hHeld => ?_)
        generalize W1.drew = wa at *
        refine wpAnyL_take0 (i := 0) (v := ?_) rfl (by kernel_rfl) (by kernel_rfl) (by kernel_rfl) (by rfl) (fun _ _ _ h => h) (Or.inl ⟨by rfl, ?_⟩) (by assumption) ?_
        rotate_left
        · (intro W _; go_simp; (with_reducible rfl))
        intro hHeld'
        clear hHeld; have hHeld := hHeld'; clear hHeld'
        try simp only [Act.put, List.getElem_toArray, List.getElem_cons_succ, List.getElem_cons_zero, List.setIfInBounds_toArray, List.set_cons_zero, List.set_cons_succ]
        refine wpAnyL_take0 (i := 2) (v := ?_) rfl (by kernel_rfl) (by kernel_rfl) (by kernel_rfl) (by rfl) (fun _ _ _ h => h) (Or.inl ⟨by rfl, ?_⟩) (by assumption) ?_
        rotate_left
        · (intro W _; go_simp; (with_reducible rfl))
        intro hHeld'
        clear hHeld; have hHeld := hHeld'; clear hHeld'
        try simp only [Act.put, List.getElem_toArray, List.getElem_cons_succ, List.getElem_cons_zero, List.setIfInBounds_toArray, List.set_cons_zero, List.set_cons_succ]
        refine wpAnyL_take0 (i := 3) (v := ?_) rfl (by kernel_rfl) (by kernel_rfl) (by kernel_rfl) (by rfl) (fun _ _ _ h => h) (Or.inl ⟨by rfl, ?_⟩) (by assumption) ?_
        rotate_left
        · (intro W _; go_simp; (with_reducible rfl))
        intro hHeld'
        clear hHeld; have hHeld := hHeld'; clear hHeld'
        try simp only [Act.put, List.getElem_toArray, List.getElem_cons_succ, List.getElem_cons_zero, List.setIfInBounds_toArray, List.set_cons_zero, List.set_cons_succ]
        refine wpAnyL_take0 (i := 5) (v := ?_) rfl (by kernel_rfl) (by kernel_rfl) (by kernel_rfl) (by rfl) (fun _ _ _ h => h) (Or.inl ⟨by rfl, ?_⟩) (by assumption) ?_
        rotate_left
        · (intro W _; go_simp; (with_reducible rfl))
        intro hHeld'
        clear hHeld; have hHeld := hHeld'; clear hHeld'
        try simp only [Act.put, List.getElem_toArray, List.getElem_cons_succ, List.getElem_cons_zero, List.setIfInBounds_toArray, List.set_cons_zero, List.set_cons_succ]
        refine wpAnyL_takeP (i := 1) 7 [] (v := ?_) (fun w' : World => w'.cell? ⟨w.heap.size, 0, none⟩ = some (.int .i64 (l : Int))) rfl (by kernel_rfl) (by kernel_rfl) (by kernel_rfl) (by rfl) (by kernel_rfl) (by simp) (fun _ _ _ h => h) (Or.inl ⟨by rfl, ?_⟩) (by assumption) ?_
        rotate_left
        · (intro W hW; go_simp; (with_reducible rfl))
        intro hHeld'
        clear hHeld; have hHeld := hHeld'; clear hHeld'
        try simp only [Act.put, List.getElem_toArray, List.getElem_cons_succ, List.getElem_cons_zero, List.setIfInBounds_toArray, List.set_cons_zero, List.set_cons_succ]
        refine wpAnyL_ready (rs := [4]) (by kernel_rfl) (by simp) ?_
        refine AllReadyL.cons rfl (fun K hK => ?_) AllReadyL.nil
        go_simp
        replace hS := hid (hS.out.newBlk #[.pointer (some ⟨b9, 0, none⟩), .int .i64 (q : Int)] 88)
        generalize wa.heap.size = bA at *
        generalize wa.alloc (.cells #[.pointer (some ⟨b9, 0, none⟩), .int .i64 (q : Int)] 88) = wb at *
        refine hK.out _ _ (HeldL.cons (fun _ => hcL.out _ hS.out.m3) HeldL.nil) (fun hHeld' => ?_)
        clear hK K hHeld; have hHeld := hHeld'; clear hHeld'
        try simp only [Act.put, List.getElem_toArray, List.getElem_cons_succ, List.getElem_cons_zero, List.setIfInBounds_toArray, List.set_cons_zero, List.set_cons_succ]
        refine wpAnyL_ready (rs := [6]) (by kernel_rfl) (by simp) ?_
        refine AllReadyL.cons rfl (fun K hK => ?_) AllReadyL.nil
        go_simp
        (with_reducible refine (hrf.out _ _ hS.out.k0).mono ?_)
        rintro e w4 ⟨rfl, h4⟩
        replace hS := hid (hS.out.callBlk h4 (Nat.le_refl _))
        clear h4
        generalize wb.heap.size = bB at *
        go_simp
        refine hK.out _ _ (HeldL.cons (fun _ => hcL.out _ hS.out.m4) HeldL.nil) (fun hHeld' => ?_)
        clear hK K hHeld; have hHeld := hHeld'; clear hHeld'
        try simp only [Act.put, List.getElem_toArray, List.getElem_cons_succ, List.getElem_cons_zero, List.setIfInBounds_toArray, List.set_cons_zero, List.set_cons_succ]
        refine wpAnyL_ready (rs := [7]) (by kernel_rfl) (by simp) ?_
        refine AllReadyL.cons rfl (fun K hK => ?_) AllReadyL.nil
        go_simp
        (with_reducible refine (hpo2.out _ _ hS.out.k0 hS.out.m2).mono ?_)
        rintro e w5 ⟨rfl, h5⟩
        replace hS := hid (hS.out.call h5)
        clear h5
        rw [hans.out]
        go_simp
        refine hK.out _ _ (HeldL.cons (fun h => absurd h (by decide +kernel)) HeldL.nil) (fun hHeld' => ?_)
        clear hK K hHeld; have hHeld := hHeld'; clear hHeld'
        try simp only [Act.put, List.getElem_toArray, List.getElem_cons_succ, List.getElem_cons_zero, List.setIfInBounds_toArray, List.set_cons_zero, List.set_cons_succ]
        refine wpAnyL_take0 (i := 8) (v := ?_) rfl (by kernel_rfl) (by kernel_rfl) (by kernel_rfl) (by rfl) (fun _ _ _ h => h) (Or.inl ⟨by rfl, ?_⟩) (by assumption) ?_
        rotate_left
        · (intro W _; go_simp; (with_reducible rfl))
        intro hHeld'
        clear hHeld; have hHeld := hHeld'; clear hHeld'
        try simp only [Act.put, List.getElem_toArray, List.getElem_cons_succ, List.getElem_cons_zero, List.setIfInBounds_toArray, List.set_cons_zero, List.set_cons_succ]
        refine wpAnyL_take0 (i := 9) (v := ?_) rfl (by kernel_rfl) (by kernel_rfl) (by kernel_rfl) (by rfl) (fun _ _ _ h => h) (Or.inl ⟨by rfl, ?_⟩) (by assumption) ?_
        rotate_left
        · (intro W _; go_simp; (with_reducible rfl))
        intro hHeld'
        clear hHeld; have hHeld := hHeld'; clear hHeld'
        try simp only [Act.put, List.getElem_toArray, List.getElem_cons_succ, List.getElem_cons_zero, List.setIfInBounds_toArray, List.set_cons_zero, List.set_cons_succ]
        refine wpAnyL_ready (rs := [10]) (by kernel_rfl) (by simp) ?_
        refine AllReadyL.cons rfl (fun K hK => ?_) AllReadyL.nil
        refine step_store_mach rfl _ _ rfl _ rfl ans.1 rfl _ _ hS.out.m3 ?_
        intro W9 p2 ho hbl
        have pB := hid (hbl _ _ (Nat.le_succ _) hS.out.bel)
        replace p2 := hid p2
        clear ho hbl
        refine hK.out _ _ (HeldL.cons (fun h => absurd h (by decide +kernel)) HeldL.nil) (fun hHeld' => ?_)
        clear hK K hHeld; have hHeld := hHeld'; clear hHeld'
        try simp only [Act.put, List.getElem_toArray, List.getElem_cons_succ, List.getElem_cons_zero, List.setIfInBounds_toArray, List.set_cons_zero, List.set_cons_succ]
        refine wpAnyL_take0 (i := 11) (v := ?_) rfl (by kernel_rfl) (by kernel_rfl) (by kernel_rfl) (by rfl) (fun _ _ _ h => h) (Or.inl ⟨by rfl, ?_⟩) (by assumption) ?_
        rotate_left
        · (intro W _; go_simp; (with_reducible rfl))
        intro hHeld'
        clear hHeld; have hHeld := hHeld'; clear hHeld'
        try simp only [Act.put, List.getElem_toArray, List.getElem_cons_succ, List.getElem_cons_zero, List.setIfInBounds_toArray, List.set_cons_zero, List.set_cons_succ]
        refine wpAnyL_done (by kernel_rfl) ?_ _
        go_wp2
        exact ret_mach_i rfl rfl rfl p2.out rfl ⟨rfl, pB.out⟩
    · rw [powAns_r h hn]
      have hw := hid (show false = decide (-16 ≤ n ∧ n ≤ 16) from (decide_eq_false hn).symm)
      rw [h] at hcode
      replace hkm := hid hkm; clear h hn; replace g := hid g
      generalize hzs : mcells ⟨0, 0, fun _ => 0, fun _ => 0⟩ = zs at *
      replace hzs := hid hzs
      go_enter Try.func30, Try.ntmps30
      go_wp2_with (first
        | ((with_reducible refine gate (N := 10) rfl ?_); refine load_mach rfl _ rfl w.heap.size rfl m hS.out.m1 ?_)
        | (go_at_call 61; (with_reducible refine (hcode.out _ _ _ hown.out.o0).mono ?_); rintro e w1 ⟨rfl, hb⟩; replace hS := hid (hown.out.call hb).drop; clear hcode hown; clear hb)
        | (go_at_call 62; (with_reducible refine (within_any _ _ _ false hw.out _).mono ?_); rintro e w' ⟨rfl, rfl⟩)
        | ((with_reducible refine gate (N := 21) rfl ?_); refine build_zero rfl rfl ?_)
        | ((with_reducible refine gateOp (op := .store 34 (.tmp 6) (.tmp 21)) rfl ?_); refine store_mach rfl _ _ rfl (w.heap.size + 1) rfl ⟨0, 0, fun _ => 0, fun _ => 0⟩ rfl 34 _ hS.out.m0 ?_; intro W3 p2 ho hsz hbl; have pB := hid (hbl _ _ (Nat.le_succ _) hS.out.bel); replace p2 := hid p2; clear ho hsz hbl))
      exact ret_mach_i rfl rfl rfl p2.out rfl ⟨by rw [hzs.out], pB.out⟩
end Go.Proofs.Ythempofohidlnaa
