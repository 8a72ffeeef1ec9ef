/- What the proof of FnDuals leans on, part 24 of 26. -/
import Derived.Test.YtbmkkaecfogmoaaZFnDualsW
import Derived.Great.BuildSlice
/- DifferentActions: lists of machines searched and lengthened. -/
namespace Go.Proofs.Ytbmkkaecfogmoaa
open Go.RowKit
set_option linter.unusedVariables false
set_option linter.unusedSimpArgs false
-- @LONG

theorem info_mach : (Try.prog.info? 27).map (fun i => (i.zero, i.size, i.bytes)) = some (some (.agg (mcells ⟨0, 0, fun _ => 0, fun _ => 0⟩)), 98, 112) := by kernel_rfl
section
variable {w w0 W : World} {L : List Asn} {base : Nat}
/-- One machine appended. -/
theorem St.appMc {ops : Array Oper} {rest : List Oper} {o : Oper} {act : Act} {Q : Exit → Act → World → Prop}
    (hgd : o.guard = none) (s x : Operand) (ho : o.op = .call { callee := .builtin .append, args := #[s, x], argTypes := #[182, 182] })
    (v : Value) (A : List Mach) (hs : act.eval s = v) (hS : St base w0 (Asn.ownN base 27 98 v A.length (mfl A) :: L) W) (p : Mach)
    (hx : act.eval x = .slice (some ⟨W.heap.size, 0, none⟩) 1 1) (hlen : A.length ≤ 1000000)
    (h : ∀ g cap w', St base w0 (Asn.ownN base 27 98 (.slice (some ⟨g, 0, none⟩) (A.length + 1) cap) (A ++ [p]).length (mfl (A ++ [p])) :: L) w' → wpList Try.prog ops Q rest (act.put o.dst (.slice (some ⟨g, 0, none⟩) (A.length + 1) cap)) w') :
    wpList Try.prog ops Q (o :: rest) act (W.alloc (.cells (mcells p) 27)) := by
  obtain ⟨i, hi, hz0, hz1, hz2⟩ := info_parts info_mach
  have hnl : (mcells p).toList.length = 98 := by rw [Array.length_toList, size_mcells]
  have hown : OwnN W base 27 98 v A.length (mfl A) := hS.star.1
  refine wpList_plain hgd fun K hK => ?_
  refine wp_append_lies (W.alloc (.cells (mcells p) 27)) s x 182 ho base 27 i (.agg (mcells ⟨0, 0, fun _ => 0, fun _ => 0⟩)) 98 112 Try.underlying182 hi hz0 hz1 hz2 (by simp [Value.cells, cells_mach, size_mcells]) (by omega) v A.length (mfl A) hs (World.ownsRow.alloc hown _) ⟨W.heap.size, 0, none⟩ 1 1 (mcells p).toList hx (by rw [hnl])
    (fun j u hu => ?_) (fun u hu => ?_) (by omega) (by simp only [maxLen]; omega) (by omega) (by simp; have := hS.le; omega) (W.heap.size + 1) (by simp) ?_
  · rw [Addr.add_mid, Nat.zero_add, cell_of_row _ W.heap.size j _ _ _ (heap_alloc_new W _)]
    simpa using hu
  · have h := one_mach p; rw [← Array.all_toList] at h; exact List.all_eq_true.1 h u hu
  · intro g cap w' h1 h2 h3 h4
    have hsz' : W.heap.size < w'.heap.size := by have := h2.size; simp at this; omega
    have hold : ∀ k, k < W.heap.size → v.ownBlock ≠ some k → w'.heap[k]? = W.heap[k]? := fun k hk hne => by
      rw [h2.block k (by simp; omega) (fun e => hne e.symm)]
      exact Below.heap_alloc W _ k hk
    refine hK _ _ (h g cap w' ?_)
    rw [mfl_app, List.length_append, List.length_singleton]
    exact hS.appdN h1 ⟨h2.os, h2.tape, h2.output, by have := hS.le; omega, fun k hk => hold k (by have := hS.le; omega) (fun e => by have := (hown.lt k e).1; omega)⟩ hold (h3.imp id (fun e => by omega))
end
theorem fill_mach (p : Mach) : Instr.fill (fun i => some (i * 98, 98)) ((Array.range (1 * 98)).map ((Value.agg (mcells ⟨0, 0, fun _ => 0, fun _ => 0⟩)).cells[· % (Value.agg (mcells ⟨0, 0, fun _ => 0, fun _ => 0⟩)).cells.size]!)) [(0, .agg (mcells p))] = some (mcells p) := by kernel_rfl
/-- A slice of one machine built. -/
theorem step_bsM {ops : Array Oper} {rest : List Oper} {o : Oper} {a : Act} {w : World} {Q : Exit → Act → World → Prop} (hg : o.guard = none) (x : Operand) (ho : o.op = .buildSlice 182 1 #[(0, x)]) (p : Mach) (hx : a.eval x = .agg (mcells p))
    (h : wpList Try.prog ops Q rest (a.put o.dst (.slice (some ⟨w.heap.size, 0, none⟩) 1 1)) (w.alloc (.cells (mcells p) 27))) : wpList Try.prog ops Q (o :: rest) a w := by
  obtain ⟨i, hi, hz0, hz1, hz2⟩ := info_parts info_mach
  refine wpList_buildSlice hg 182 27 1 _ ho (mcells p) i _ Try.underlying182 hi hz0 (by rw [hz1]; decide) (by rw [hz1]; decide) ?_ h
  rw [hz1, show ((#[(0, x)] : Array (Nat × Operand)).map fun (i, x) => (i, a.eval x)).toList = [(0, .agg (mcells p))] by simp [hx]]
  exact fill_mach p
theorem eq_gl (p k : Mach) {l sp sk : Nat} (hp : p.Ok) (gp : Good p l sp) (hk : k.Ok) (gk : Good k l sk) : ∃ b : Bool, Hid (b = true ↔ mcells p = mcells k) ∧ (∀ W : World, (Op.equalIn 10000 27 (.agg (mcells p)) (.agg (mcells k))).run Try.prog W = .ok b W) ∧ ∀ W : World, (Op.equalIn 10000 27 (.agg (mcells k)) (.agg (mcells p))).run Try.prog W = .ok b W := by
  classical
  have l3 := gp.l3; have s1 := gp.s16; have s2 := gk.s16
  refine ⟨decide (mcells p = mcells k), hid decide_eq_true_iff, fun W => eq_mach W p k hp hk l sp l sk gp.L gp.S gk.L gk.S (by omega) (by omega) (by omega) (by omega) _ decide_eq_true_iff, fun W => eq_mach W k p hk hp l sk l sp gk.L gk.S gp.L gp.S (by omega) (by omega) (by omega) (by omega) _ (show decide (mcells p = mcells k) = true ↔ mcells k = mcells p from ⟨fun h => (of_decide_eq_true h).symm, fun h => decide_eq_true h.symm⟩)⟩
set_option maxHeartbeats 4000000 in
set_option maxRecDepth 100000 in
theorem idxM_any (w : World) (base : Nat) (v : Value) (A : List Mach) (p : Mach) (l sp : Nat) (hO : OwnN w base 27 98 v A.length (mfl A)) (hG : GL l A) (hp : p.Ok) (gp : Good p l sp) (hlen : A.length ≤ 1000000) :
    Calls Try.prog 239 #[v, .agg (mcells p)] w fun e w' => ∃ r : Int, e = .returned (.int .i64 r) ∧ ((0 ≤ r ∧ hasB A p = true) ∨ (r = -1 ∧ hasB A p = false)) ∧ Below w.heap.size w w' := by
  have hS := hid ((St.start w).newMB p 27)
  have hmo := hid (fun W (hb : Below w.heap.size w W) i k g (hk : A[i]? = some k) (hv : v = .slice (some ⟨g, 0, none⟩) A.length (match v with | .slice _ _ c => c | _ => 0)) => (show MO W g (i * 98) k from by
    rw [hv] at hO; exact (hO.mo hk).below hb))
  obtain ⟨P, cap, hv, hP⟩ : ∃ P cap, v = .slice P A.length cap ∧ (0 < A.length → ∃ g, P = some ⟨g, 0, none⟩) := by
    rcases hO.form with ⟨h1, h2⟩ | ⟨g, cap, h1⟩
    · exact ⟨none, 0, by rw [h1, h2], fun h => by omega⟩
    · exact ⟨_, cap, h1, fun _ => ⟨g, rfl⟩⟩
  subst hv
  replace hP := hid hP; replace hp := hid hp; replace gp := hid gp
  clear hO
  go_enter Try.func239, Try.ntmps239
  go_wp2
  go_loopw [8] (fun i wr => ∃ k : Nat, k ≤ A.length ∧ i = .int .i64 k ∧ (∀ j q, j < k → A[j]? = some q → mcells q ≠ mcells p) ∧ St w.heap.size w [Asn.mb 27 w.heap.size p] wr) (fun i _ => A.length - (intOf i).toNat)
  case atStart => exact ⟨0, Nat.zero_le _, rfl, fun j q hj => by omega, hS.out⟩
  case round =>
    obtain ⟨k, hk, rfl, hno, rS⟩ := hrel
    clear hS
    replace hno := hid hno
    replace rS := hid rS
    by_cases hlt : k < A.length
    · have dk : decide ((k : Int) < (A.length : Int)) = true := decide_eq_true (by omega)
      have k0 : (0 : Int) ≤ (k : Int) := Int.natCast_nonneg _
      have k1 : (k : Int) < (A.length : Int) := by omega
      obtain ⟨g, rfl⟩ := hP.out (by omega)
      obtain ⟨q, hq, _, hqk, sq, gq⟩ := hG.at hlt p
      obtain ⟨b, hb, he1, _⟩ := eq_gl p q hp.out gp.out hqk gq
      have hT := hid (fun W (h : St w.heap.size w [Asn.mb 27 w.heap.size p] W) => (show MB W 27 w.heap.size p ∧ MO W g (k * 98) q from ⟨h.m0, hmo.out W h.bel k q g hq rfl⟩))
      replace hq := hid hq
      clear hqk gq
      go_upto_region 4 with (fail)
      replace rS := hid rS.out.drew
      refine wp_region_heldL (L := [(5, (fun w' : World => MB w' 27 w.heap.size p ∧ MO w' g (k * 98) q))]) (by kernel_rfl) (HeldL.cons (fun _ => hT.out _ rS.out) HeldL.nil) (fun hHeld => ?_)
      generalize World.drew _ = wd at *
      refine wpAnyL_takeP (i := 0) 5 [] (v := (.agg (mcells p))) (fun w' : World => MB w' 27 w.heap.size p ∧ MO w' g (k * 98) q) rfl (by kernel_rfl) (by kernel_rfl) (by kernel_rfl) (by rfl) (by kernel_rfl) (by simp) (fun _ _ _ h => h) (Or.inl ⟨by rfl, ?_⟩) (by assumption) ?_
      · (intro W hW; exact exec_load _ rfl rfl (load_run hW.1))
      intro hHeld'
      clear hHeld; have hHeld := hHeld'; clear hHeld'
      try simp only [Act.put, List.getElem_toArray, List.getElem_cons_succ, List.getElem_cons_zero, List.setIfInBounds_toArray, List.set_cons_zero, List.set_cons_succ]
      refine wpAnyL_take0 (i := 1) (v := ?_) rfl (by kernel_rfl) (by kernel_rfl) (by kernel_rfl) (by rfl) (fun _ _ _ h => h) (Or.inl ⟨by rfl, ?_⟩) (by assumption) ?_
      rotate_left
      · (intro W _; go_simp; (with_reducible rfl))
      intro hHeld'
      clear hHeld; have hHeld := hHeld'; clear hHeld'
      try simp only [Act.put, List.getElem_toArray, List.getElem_cons_succ, List.getElem_cons_zero, List.setIfInBounds_toArray, List.set_cons_zero, List.set_cons_succ]
      refine wpAnyL_take0 (i := 2) (v := ?_) rfl (by kernel_rfl) (by kernel_rfl) (by kernel_rfl) (by rfl) (fun _ _ _ h => h) (Or.inl ⟨by rfl, ?_⟩) (by assumption) ?_
      rotate_left
      · (intro W _; go_simp; (with_reducible rfl))
      intro hHeld'
      clear hHeld; have hHeld := hHeld'; clear hHeld'
      try simp only [Act.put, List.getElem_toArray, List.getElem_cons_succ, List.getElem_cons_zero, List.setIfInBounds_toArray, List.set_cons_zero, List.set_cons_succ]
      refine wpAnyL_take0 (i := 3) (v := ?_) rfl (by kernel_rfl) (by kernel_rfl) (by kernel_rfl) (by rfl) (fun _ _ _ h => h) (Or.inl ⟨by rfl, ?_⟩) (by assumption) ?_
      rotate_left
      · (intro W _; go_simp; (with_reducible rfl))
      intro hHeld'
      clear hHeld; have hHeld := hHeld'; clear hHeld'
      try simp only [Act.put, List.getElem_toArray, List.getElem_cons_succ, List.getElem_cons_zero, List.setIfInBounds_toArray, List.set_cons_zero, List.set_cons_succ]
      refine wpAnyL_takeP (i := 4) 5 [] (v := (.agg (mcells q))) (fun w' : World => MB w' 27 w.heap.size p ∧ MO w' g (k * 98) q) rfl (by kernel_rfl) (by kernel_rfl) (by kernel_rfl) (by rfl) (by kernel_rfl) (by simp) (fun _ _ _ h => h) (Or.inl ⟨by rfl, ?_⟩) (by assumption) ?_
      · (intro W hW; exact exec_load _ rfl rfl (load_mo hW.2))
      intro hHeld'
      clear hHeld; have hHeld := hHeld'; clear hHeld'
      try simp only [Act.put, List.getElem_toArray, List.getElem_cons_succ, List.getElem_cons_zero, List.setIfInBounds_toArray, List.set_cons_zero, List.set_cons_succ]
      refine wpAnyL_ready (rs := [5]) (by kernel_rfl) (by simp) ?_
      refine AllReadyL.cons rfl (fun K hK => ?_) AllReadyL.nil
      go_simp
      refine hK.out _ _ (HeldL.cons (fun h => absurd h (by decide +kernel)) HeldL.nil) (fun hHeld' => ?_)
      clear hK K hHeld; have hHeld := hHeld'; clear hHeld'
      try simp only [Act.put, List.getElem_toArray, List.getElem_cons_succ, List.getElem_cons_zero, List.setIfInBounds_toArray, List.set_cons_zero, List.set_cons_succ]
      refine wpAnyL_done (by kernel_rfl) ?_ _
      cases b with
      | true =>
        go_wp2
        go_ret
        exact ⟨k, rfl, .inl ⟨by omega, (hasB_iff _ _).2 ⟨q, List.mem_of_getElem? hq.out, (show mcells p = mcells q by simpa using hb.out).symm⟩⟩, rS.out.bel⟩
      | false =>
        go_wp2
        go_roundw
        case rel => exact ⟨k + 1, by omega, by go_num, fun j x hj hx => by
          by_cases e : j = k
          · subst e; rw [hq.out] at hx; injection hx with hx; subst hx
            exact fun h => (show ¬ mcells p = mcells q by simpa using hb.out) h.symm
          · exact hno.out j x (by omega) hx, rS.out⟩
        case measure => simp [intOf]; omega
    · obtain rfl : k = A.length := by omega
      have dk : decide ((A.length : Int) < (A.length : Int)) = false := decide_eq_false (by omega)
      go_wp2
      go_ret
      refine ⟨-1, rfl, .inr ⟨rfl, ?_⟩, rS.out.bel⟩
      rw [Bool.eq_false_iff]
      intro h
      obtain ⟨q, hq, e⟩ := (hasB_iff _ _).1 h
      obtain ⟨j, hj⟩ := List.getElem?_of_mem hq
      exact hno.out j q (List.getElem?_eq_some_iff.1 hj).1 hj e
set_option maxHeartbeats 4000000 in
set_option maxRecDepth 100000 in
theorem conM_any (w : World) (base : Nat) (v : Value) (A : List Mach) (p : Mach) (l sp : Nat) (hO : OwnN w base 27 98 v A.length (mfl A)) (hG : GL l A) (hp : p.Ok) (gp : Good p l sp) (hlen : A.length ≤ 1000000) :
    Calls Try.prog 177 #[v, .agg (mcells p)] w fun e w' => e = .returned (.bool (hasB A p)) ∧ Below w.heap.size w w' := by
  have hS := hid ((St.start w).newMB p 27)
  have hix := hid (fun W (hb : Below w.heap.size w W) => idxM_any W base v A p l sp (hO.keep fun k hk => hb.block k (hO.lt k hk).2) hG hp gp hlen)
  obtain ⟨b, hb⟩ : ∃ b, hasB A p = b := ⟨_, rfl⟩
  rw [hb] at hix ⊢
  clear hb
  go_enter Try.func177, Try.ntmps177
  go_upto_region 1 with (fail)
  have hS0 := hid hS.out
  clear hS
  cases b with
  | true =>
    go_wp2_with (first
      | ((with_reducible refine gate (N := 6) rfl ?_); refine load_mach rfl _ rfl w.heap.size rfl p hS0.out.m0 ?_)
      | (go_at_call 239; (with_reducible refine (hix.out _ hS0.out.bel).mono ?_); rintro e w1 ⟨r, rfl, hr, hb1⟩; have hr0 : decide (0 ≤ r) = true := decide_eq_true (by rcases hr with h | h <;> simp_all); replace hS0 := hid (hS0.out.call hb1); clear hb1 hr))
    go_ret
    exact ⟨rfl, hS0.out.bel⟩
  | false =>
    go_wp2_with (first
      | ((with_reducible refine gate (N := 6) rfl ?_); refine load_mach rfl _ rfl w.heap.size rfl p hS0.out.m0 ?_)
      | (go_at_call 239; (with_reducible refine (hix.out _ hS0.out.bel).mono ?_); rintro e w1 ⟨r, rfl, hr, hb1⟩; have hr0 : decide (0 ≤ r) = false := decide_eq_false (by rcases hr with h | h <;> simp_all); replace hS0 := hid (hS0.out.call hb1); clear hb1 hr))
    go_ret
    exact ⟨rfl, hS0.out.bel⟩
end Go.Proofs.Ytbmkkaecfogmoaa

/- DifferentActions: the reference's parts. -/
namespace Go.Proofs.Ytbmkkaecfogmoaa
open Go.RowKit
set_option linter.unusedVariables false
set_option linter.unusedSimpArgs false
-- @LONG

set_option maxHeartbeats 4000000 in
set_option maxRecDepth 100000 in
theorem l07Listed_any (w : World) (base : Nat) (v : Value) (A : List Mach) (p : Mach) (l sp : Nat) (hO : OwnN w base 27 98 v A.length (mfl A)) (hG : GL l A) (hp : p.Ok) (gp : Good p l sp) (hlen : A.length ≤ 1000000) :
    Calls Try.prog 179 #[v, .agg (mcells p)] w fun e w' => e = .returned (.bool (hasB A p)) ∧ Below w.heap.size w w' := by
  have hS := hid ((St.start w).newMB p 27)
  have hmo := hid (fun W (hb : Below w.heap.size w W) i k g (hk : A[i]? = some k) (hv : v = .slice (some ⟨g, 0, none⟩) A.length (match v with | .slice _ _ c => c | _ => 0)) => (show MO W g (i * 98) k from by
    rw [hv] at hO; exact (hO.mo hk).below hb))
  obtain ⟨P, cap, hv, hP⟩ : ∃ P cap, v = .slice P A.length cap ∧ (0 < A.length → ∃ g, P = some ⟨g, 0, none⟩) := by
    rcases hO.form with ⟨h1, h2⟩ | ⟨g, cap, h1⟩
    · exact ⟨none, 0, by rw [h1, h2], fun h => by omega⟩
    · exact ⟨_, cap, h1, fun _ => ⟨g, rfl⟩⟩
  subst hv
  replace hP := hid hP; replace hp := hid hp; replace gp := hid gp
  clear hO
  go_enter Try.func179, Try.ntmps179
  go_wp2
  go_loopw [5] (fun i wr => ∃ k : Nat, k ≤ A.length ∧ i = .int .i64 k ∧ (∀ j q, j < k → A[j]? = some q → mcells q ≠ mcells p) ∧ St w.heap.size w [Asn.mb 27 w.heap.size p] wr) (fun i _ => A.length - (intOf i).toNat)
  case atStart => exact ⟨0, Nat.zero_le _, rfl, fun j q hj => by omega, hS.out⟩
  case round =>
    obtain ⟨k, hk, rfl, hno, rS⟩ := hrel
    clear hS
    replace hno := hid hno
    replace rS := hid rS
    by_cases hlt : k < A.length
    · have dk : decide ((k : Int) < (A.length : Int)) = true := decide_eq_true (by omega)
      have k0 : (0 : Int) ≤ (k : Int) := Int.natCast_nonneg _
      have k1 : (k : Int) < (A.length : Int) := by omega
      obtain ⟨g, rfl⟩ := hP.out (by omega)
      obtain ⟨q, hq, _, hqk, sq, gq⟩ := hG.at hlt p
      obtain ⟨b, hb, _, he2⟩ := eq_gl p q hp.out gp.out hqk gq
      have hT := hid (fun W (h : St w.heap.size w [Asn.mb 27 w.heap.size p] W) => (show MB W 27 w.heap.size p ∧ MO W g (k * 98) q from ⟨h.m0, hmo.out W h.bel k q g hq rfl⟩))
      replace hq := hid hq
      clear hqk gq
      go_upto_region 4 with (fail)
      replace rS := hid rS.out.drew
      refine wp_region_heldL (L := [(5, (fun w' : World => MB w' 27 w.heap.size p ∧ MO w' g (k * 98) q))]) (by kernel_rfl) (HeldL.cons (fun _ => hT.out _ rS.out) HeldL.nil) (fun hHeld => ?_)
      generalize World.drew _ = wd at *
      refine wpAnyL_take0 (i := 0) (v := ?_) rfl (by kernel_rfl) (by kernel_rfl) (by kernel_rfl) (by rfl) (fun _ _ _ h => h) (Or.inl ⟨by rfl, ?_⟩) (by assumption) ?_
      rotate_left
      · (intro W _; go_simp; (with_reducible rfl))
      intro hHeld'
      clear hHeld; have hHeld := hHeld'; clear hHeld'
      try simp only [Act.put, List.getElem_toArray, List.getElem_cons_succ, List.getElem_cons_zero, List.setIfInBounds_toArray, List.set_cons_zero, List.set_cons_succ]
      refine wpAnyL_take0 (i := 1) (v := ?_) rfl (by kernel_rfl) (by kernel_rfl) (by kernel_rfl) (by rfl) (fun _ _ _ h => h) (Or.inl ⟨by rfl, ?_⟩) (by assumption) ?_
      rotate_left
      · (intro W _; go_simp; (with_reducible rfl))
      intro hHeld'
      clear hHeld; have hHeld := hHeld'; clear hHeld'
      try simp only [Act.put, List.getElem_toArray, List.getElem_cons_succ, List.getElem_cons_zero, List.setIfInBounds_toArray, List.set_cons_zero, List.set_cons_succ]
      refine wpAnyL_take0 (i := 2) (v := ?_) rfl (by kernel_rfl) (by kernel_rfl) (by kernel_rfl) (by rfl) (fun _ _ _ h => h) (Or.inl ⟨by rfl, ?_⟩) (by assumption) ?_
      rotate_left
      · (intro W _; go_simp; (with_reducible rfl))
      intro hHeld'
      clear hHeld; have hHeld := hHeld'; clear hHeld'
      try simp only [Act.put, List.getElem_toArray, List.getElem_cons_succ, List.getElem_cons_zero, List.setIfInBounds_toArray, List.set_cons_zero, List.set_cons_succ]
      refine wpAnyL_takeP (i := 3) 5 [] (v := (.agg (mcells q))) (fun w' : World => MB w' 27 w.heap.size p ∧ MO w' g (k * 98) q) rfl (by kernel_rfl) (by kernel_rfl) (by kernel_rfl) (by rfl) (by kernel_rfl) (by simp) (fun _ _ _ h => h) (Or.inl ⟨by rfl, ?_⟩) (by assumption) ?_
      · (intro W hW; exact exec_load _ rfl rfl (load_mo hW.2))
      intro hHeld'
      clear hHeld; have hHeld := hHeld'; clear hHeld'
      try simp only [Act.put, List.getElem_toArray, List.getElem_cons_succ, List.getElem_cons_zero, List.setIfInBounds_toArray, List.set_cons_zero, List.set_cons_succ]
      refine wpAnyL_takeP (i := 4) 5 [] (v := (.agg (mcells p))) (fun w' : World => MB w' 27 w.heap.size p ∧ MO w' g (k * 98) q) rfl (by kernel_rfl) (by kernel_rfl) (by kernel_rfl) (by rfl) (by kernel_rfl) (by simp) (fun _ _ _ h => h) (Or.inl ⟨by rfl, ?_⟩) (by assumption) ?_
      · (intro W hW; exact exec_load _ rfl rfl (load_run hW.1))
      intro hHeld'
      clear hHeld; have hHeld := hHeld'; clear hHeld'
      try simp only [Act.put, List.getElem_toArray, List.getElem_cons_succ, List.getElem_cons_zero, List.setIfInBounds_toArray, List.set_cons_zero, List.set_cons_succ]
      refine wpAnyL_ready (rs := [5]) (by kernel_rfl) (by simp) ?_
      refine AllReadyL.cons rfl (fun K hK => ?_) AllReadyL.nil
      go_simp
      refine hK.out _ _ (HeldL.cons (fun h => absurd h (by decide +kernel)) HeldL.nil) (fun hHeld' => ?_)
      clear hK K hHeld; have hHeld := hHeld'; clear hHeld'
      try simp only [Act.put, List.getElem_toArray, List.getElem_cons_succ, List.getElem_cons_zero, List.setIfInBounds_toArray, List.set_cons_zero, List.set_cons_succ]
      refine wpAnyL_done (by kernel_rfl) ?_ _
      cases b with
      | true =>
        go_wp2
        go_ret
        refine ⟨?_, rS.out.bel⟩
        have e := (hasB_iff A p).2 ⟨q, List.mem_of_getElem? hq.out, (show mcells p = mcells q by simpa using hb.out).symm⟩
        simp [e]
      | false =>
        go_wp2
        go_roundw
        case rel => exact ⟨k + 1, by omega, by go_num, fun j x hj hx => by
          by_cases e : j = k
          · subst e; rw [hq.out] at hx; injection hx with hx; subst hx
            exact fun h => (show ¬ mcells p = mcells q by simpa using hb.out) h.symm
          · exact hno.out j x (by omega) hx, rS.out⟩
        case measure => simp [intOf]; omega
    · obtain rfl : k = A.length := by omega
      have dk : decide ((A.length : Int) < (A.length : Int)) = false := decide_eq_false (by omega)
      go_wp2
      go_ret
      refine ⟨?_, rS.out.bel⟩
      have e : hasB A p = false := by
        rw [Bool.eq_false_iff]
        intro h
        obtain ⟨q, hq, e⟩ := (hasB_iff _ _).1 h
        obtain ⟨j, hj⟩ := List.getElem?_of_mem hq
        exact hno.out j q (List.getElem?_eq_some_iff.1 hj).1 hj e
      simp [e]
set_option maxHeartbeats 4000000 in
set_option maxRecDepth 100000 in
theorem l07Tuples_any (w : World) (s n : Nat) (hs : s ≤ 16) (hs1 : 1 ≤ s) (hn : n ≤ 16) :
    Calls Try.prog 178 #[.int .i64 s, .int .i64 n] w fun e w' => ∃ r : Nat, e = .returned (.int .i64 r) ∧ (300 < r ↔ 300 < s ^ n) ∧ w = w' := by
  go_enter Try.func178, Try.ntmps178
  go_wp2
  go_loopw [1, 5] (fun a b wr => ∃ k P : Nat, k ≤ n ∧ a = .int .i64 ((n - k : Nat) : Int) ∧ b = .int .i64 P ∧ P = s ^ k ∧ P ≤ 4800 ∧ wr = w) (fun a _ _ => (intOf a).toNat)
  case atStart => exact ⟨0, 1, Nat.zero_le _, rfl, rfl, by simp, by omega, rfl⟩
  case round =>
    obtain ⟨k, P, hk, rfl, rfl, hP, hP2, hw⟩ := hrel
    subst hw
    replace hP := hid hP
    have hgo := hid (fun (h : k < n) => (show s ^ (k + 1) = P * s from by rw [Nat.pow_succ, hP.out]))
    by_cases hlt : k < n
    · have da : decide ((0 : Int) < ((n - k : Nat) : Int)) = true := decide_eq_true (by omega)
      by_cases hp : P ≤ 300
      · have dp : decide ((P : Int) ≤ 300) = true := decide_eq_true (by omega)
        have hm : P * s ≤ 4800 := Nat.le_trans (Nat.mul_le_mul hp hs) (by omega)
        have e1 : IntKind.i64.wrap ((P : Int) * (s : Int)) = ((P * s : Nat) : Int) := by rw [show (P : Int) * (s : Int) = ((P * s : Nat) : Int) from (Int.natCast_mul _ _).symm]; exact IntWalk.i64_in _ (by omega)
        have e2 : IntKind.i64.wrap (((n - k : Nat) : Int) - 1) = ((n - (k + 1) : Nat) : Int) := by rw [show ((n - k : Nat) : Int) - 1 = ((n - (k + 1) : Nat) : Int) by omega]; exact IntWalk.i64_in _ (by omega)
        go_wp2
        go_roundw
        case rel => exact ⟨k + 1, P * s, by omega, rfl, rfl, (hgo.out hlt).symm, hm, trivial⟩
        case measure => simp [intOf]; omega
      · have dp : decide ((P : Int) ≤ 300) = false := decide_eq_false (by omega)
        go_wp2
        go_ret
        refine ⟨P, rfl, ⟨fun _ => ?_, fun _ => by omega⟩, rfl⟩
        have h1 : s ^ k ≤ s ^ n := Nat.pow_le_pow_right (by omega) hk
        have := hP.out
        omega
    · obtain rfl : k = n := by omega
      have da : decide ((0 : Int) < ((k - k : Nat) : Int)) = false := decide_eq_false (by omega)
      go_wp2
      go_ret
      exact ⟨P, rfl, by rw [hP.out], rfl⟩
section
variable {w w0 W : World} {L : List Asn} {base : Nat}
theorem OwnN.form2 {e sz n : Nat} {v : Value} {cs : List Value} (h : OwnN w base e sz v n cs) : ∃ P cap, v = .slice P n cap ∧ (0 < n → ∃ g, P = some ⟨g, 0, none⟩) := by
  rcases h.form with ⟨h1, h2⟩ | ⟨g, cap, h1⟩
  · exact ⟨none, 0, by rw [h1, h2], fun h => by omega⟩
  · exact ⟨_, cap, h1, fun _ => ⟨g, rfl⟩⟩
theorem St.newM1 (h : St base w0 L w) (p : Mach) : St base w0 (Asn.ownN base 27 98 (.slice (some ⟨w.heap.size, 0, none⟩) 1 1) [p].length (mfl [p]) :: L) (w.alloc (.cells (mcells p) 27)) :=
  h.allocPush (a := Asn.ownN base 27 98 _ 1 (mfl [p])) _ (by
    have := World.ownsRow_lit (base := base) (e := 27) (size := 98) w (mcells p) 1 h.le (by simp [maxLen]) (by rw [size_mcells])
    have e : mfl [p] = (mcells p).toList := by simp [mfl]
    rw [e]
    exact this) fun k hk => by
    have : w.heap.size = k := by simpa [Asn.ownN, Value.ownBlock] using hk
    exact this.symm
end
theorem pw_eq (d : Nat) : ∀ n, pw d n = d ^ n
  | 0 => rfl
  | n + 1 => by rw [Nat.pow_succ, ← pw_eq d n]; first | rfl | exact Nat.mul_comm _ _
section
variable {m : Mach} {l s : Nat}
theorem dfQ_step {k : Mach} {B C : List Mach} {q : Nat} (h : dfQ m l s k B q = some C) (hc : nextC m l s q k = 0) : dfQ m l s k B (q + 1) = some (if hasB C (nextM m l s q k) then C else C ++ [nextM m l s q k]) := by
  show (dfQ m l s k B q).bind (stpD m l s k q) = _
  rw [h]
  show stpD m l s k q C = _
  unfold stpD; rw [if_pos hc]
theorem dfI_step {A B C : List Mach} {i : Nat} (h : dfI m l s A i = some B) (h2 : dfQ m l s (A.getD i (trivM l)) B s = some C) : dfI m l s A (i + 1) = some C := by
  show (dfI m l s A i).bind (fun B => dfQ m l s (A.getD i (trivM l)) B s) = _
  rw [h]; exact h2
theorem dfN_step {A B : List Mach} {j : Nat} (h : dfN m l s j = some A) (h2 : dfI m l s A A.length = some B) : dfN m l s (j + 1) = some B := by
  show (dfN m l s j).bind (fun lst => dfI m l s lst lst.length) = _
  rw [h]; exact h2
theorem dif_fail (g : Good m l s) {n j i q : Nat} (hn : n ≤ 16) (hp : s ^ n ≤ 300) {A B C : List Mach} (hj : j < n) (hA : dfN m l s j = some A) (hi : i < A.length) (hB : dfI m l s A i = some B) (hq : q < s) (hC : dfQ m l s (A.getD i (trivM l)) B q = some C) (h : nextC m l s q (A.getD i (trivM l)) = 3) : difAns m n = (0, 3) := by
  have h1 : dfQ m l s (A.getD i (trivM l)) B (q + 1) = none := by
    show (dfQ m l s (A.getD i (trivM l)) B q).bind (stpD m l s (A.getD i (trivM l)) q) = _
    rw [hC]
    show stpD m l s (A.getD i (trivM l)) q C = _
    unfold stpD; rw [h, if_neg (by decide)]
  have h2 : dfI m l s A (i + 1) = none := by
    show (dfI m l s A i).bind (fun B => dfQ m l s (A.getD i (trivM l)) B s) = _
    rw [hB]; exact dfQ_none h1 (by omega)
  have h3 : dfN m l s (j + 1) = none := by
    show (dfN m l s j).bind (fun lst => dfI m l s lst lst.length) = _
    rw [hA]; exact dfI_none h2 (by omega)
  exact difAns_n g hn hp (by omega) h3
end
end Go.Proofs.Ytbmkkaecfogmoaa
