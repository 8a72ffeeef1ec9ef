/- What the proof of FnLevels leans on, part 15 of 28. -/
import Derived.Test.YthmcdfjijkecfaaGreatZFnLevelsN
import Derived.WalkSpells
import Derived.DeepKeys
import Derived.Laws.StructEq
/- append(dst, src...): a slice behind another one. -/
namespace Go.Proofs.YthmcdfjijkecfaaGreat
open Go.RowKit
set_option linter.unusedVariables false
set_option linter.unusedSimpArgs false
-- @LONG

theorem run_append_empty {P : Program} (W : World) (t ty e : TypeId) (i : TypeInfo) (ht : P.underlying t = some (.slice e)) (hi : P.info? e = some i) (base : Nat) (v : Value) (cs : List Value) (h : Own W base e v cs) :
    (Builtin.append_ #[t, t] ty #[v, .slice none 0 0]).run P W = .ok v W := by
  obtain ⟨A, c, rfl, hc, hA⟩ := h.form
  rcases hA with ⟨rfl, rfl, rfl⟩ | ⟨g, rfl, _⟩
  · simp [Builtin.append_, run_underlying ht, sizeOf, typeInfo, hi, Builtin.lenOf, Builtin.firstCells, loadCells, loadCellsFrom]
  · simp [Builtin.append_, run_underlying ht, sizeOf, typeInfo, hi, Builtin.lenOf, Builtin.firstCells, hc, storeCells]
theorem run_append_sl {P : Program} (W : World) (t ty e : TypeId) (z : Value) (bytes : Nat) (ht : P.underlying t = some (.slice e)) (hinfo : (P.info? e).map (fun i => (i.zero, i.size, i.bytes)) = some (some z, 1, bytes)) (hz : z.cells.size = 1) (hb : bytes ≤ 64)
    (base : Nat) (v : Value) (cs : List Value) (h : Own W base e v cs) (hbase : base ≤ W.heap.size) (b2 e2 : Nat) (v2 : Value) (cs2 : List Value) (h2 : Own W b2 e2 v2 cs2) (h1 : ∀ u ∈ cs2, u.oneCell' = true) (hlen : cs.length + cs2.length ≤ 1000000000) :
    ∃ v' w', (Builtin.append_ #[t, t] ty #[v, v2]).run P W = .ok v' w' ∧ Own w' base e v' (cs ++ cs2) ∧ Below base W w' ∧ (∀ k, k < W.heap.size → v.ownBlock ≠ some k → w'.heap[k]? = W.heap[k]?) ∧ (v'.ownBlock = v.ownBlock ∨ v'.ownBlock = some W.heap.size) := by
  obtain ⟨i, hi, hz0, hz1, hz2⟩ := info_parts hinfo
  obtain ⟨A, c, rfl, hc, hA⟩ := h2.form
  rcases hA with ⟨rfl, rfl, rfl⟩ | ⟨g, rfl, _, _, hcell⟩
  · refine ⟨v, W, run_append_empty W t ty e i ht hi base v cs h, by rw [List.append_nil]; exact h, Below.refl _ _, fun _ _ _ => rfl, .inl rfl⟩
  · obtain ⟨v', w', hr, h3, h4, _, h5⟩ := run_append_own_at (P := P) W base t ty e i z 1 bytes ht hi hz0 hz1 hz2 hz (by omega) v cs.length cs h ⟨g, 0, none⟩ cs2.length c cs2 (by omega) (fun j u hu => by rw [Addr.add_mid, Nat.zero_add]; exact hcell j u hu) h1
      (by simp only [maxLen]; omega) (Nat.le_trans (Nat.mul_le_mul_left _ hb) (by omega)) hbase
    have hold : ∀ k, k < W.heap.size → v.ownBlock ≠ some k → w'.heap[k]? = W.heap[k]? := fun k hk hne => h4.block k hk (fun e => hne e.symm)
    refine ⟨v', w', hr, ?_, ⟨h4.os, h4.tape, h4.output, h4.size, fun k hk => hold k (by omega) (fun e => by have := (h.lt k e).1; omega)⟩, hold, h5⟩
    unfold Own
    rw [List.length_append]; exact h3
section
variable {ops : Array Oper} {rest : List Oper} {o : Oper} {act : Act} {W w0 : World} {Q : Exit → Act → World → Prop} {L : List Asn} {base : Nat}
theorem St.appdV {t : Nat} {v v' : Value} {cs cs' : List Value} {w w' : World} (h : St base w0 (Asn.own base t v cs :: L) w) (hO : Own w' base t v' cs') (hb : Below base w w') (hold : ∀ k, k < w.heap.size → v.ownBlock ≠ some k → w'.heap[k]? = w.heap[k]?)
    (hg : v'.ownBlock = v.ownBlock ∨ v'.ownBlock = some w.heap.size) : St base w0 (Asn.own base t v' cs' :: L) w' :=
  h.turn (a' := Asn.own base t v' cs') hO (fun k hk => by
    have hk' : v'.ownBlock = some k := hk
    rcases hg with hg | hg
    · exact .inl (hg.symm.trans hk')
    · rw [hg] at hk'; injection hk' with e; exact .inr (by omega)) (fun k hk => ((show Own w base t v cs from h.star.1).lt k hk).1) hb fun k hk hne => hold k hk hne
theorem St.appS (t e : TypeId) (z : Value) (bytes : Nat)
    (ht : Tryz.prog.underlying t = some (.slice e)) (hinfo : (Tryz.prog.info? e).map (fun i => (i.zero, i.size, i.bytes)) = some (some z, 1, bytes)) (hz : z.cells.size = 1) (hb : bytes ≤ 64)
    (hgd : o.guard = none) (s x : Operand) (ho : o.op = .call { callee := .builtin .append, args := #[s, x], argTypes := #[t, t] })
    (v : Value) (cs : List Value) (hs : act.eval s = v) (hS : St base w0 (Asn.own base e v cs :: L) W) (b2 e2 : Nat) (v2 : Value) (cs2 : List Value) (hx : act.eval x = v2) (h2 : Own W b2 e2 v2 cs2) (h1 : ∀ u ∈ cs2, u.oneCell' = true) (hlen : cs.length + cs2.length ≤ 1000000000)
    (h : ∀ v' w', St base w0 (Asn.own base e v' (cs ++ cs2) :: L) w' → wpList Tryz.prog ops Q rest (act.put o.dst v') w') : wpList Tryz.prog ops Q (o :: rest) act W := by
  obtain ⟨v', w', hr, h3, h4, h5, h6⟩ := run_append_sl (P := Tryz.prog) W t o.type e z bytes ht hinfo hz hb base v cs hS.star.1 hS.le b2 e2 v2 cs2 h2 h1 hlen
  refine wpList_plain hgd fun K hK => ?_
  unfold Oper.wp execOp
  simp only [ho, resolve, invoke, builtin, Sem.run_bind, Sem.run_pure, Result.andThen_ok, List.map_toArray, List.map_cons, List.map_nil, hs, hx, hr]
  exact hK _ _ (h v' w' (hS.appdV h3 h4 h5 h6))
end
theorem ints_one (l : List Int) : ∀ u ∈ ints l, u.oneCell' = true := fun u hu => by
  obtain ⟨x, _, rfl⟩ := List.mem_map.1 hu
  rfl

set_option maxHeartbeats 1000000 in
set_option maxRecDepth 100000 in
theorem clone_any (w : World) (base : Nat) (v : Value) (l : List Int) (h : Own w base 2 v (ints l)) (hl : l.length ≤ 1000000) :
    Calls Tryz.prog 204 #[v] w fun e w' => ∃ v', e = .returned v' ∧ Own w' w.heap.size 2 v' (ints l) ∧ Below w.heap.size w w' := by
  have hil := ints_length l
  have hnil := fun (W : World) (a : Option Addr) (n c : Nat) => Lib.run_eql_slice_nil (P := Tryz.prog) W 32 2 a n c 0 0 Tryz.underlying32
  obtain ⟨A, c, rfl, _, hA⟩ := h.form
  rw [hil] at h ⊢
  rcases hA with ⟨rfl, h0, rfl⟩ | ⟨g, rfl, _⟩
  · have hl0 : l = [] := by rw [← List.length_eq_zero_iff, ← hil, h0]; rfl
    subst hl0
    clear h
    go_enter Tryz.func204, Tryz.ntmps204
    go_wp2
    go_ret
    exact ⟨_, rfl, Own.nil _ _ _, Below.refl _ _⟩
  · have hS := hid ((St.start w).newOwn [] 2 (by simp))
    have h' := hid (h.alloc (.cells #[] 2))
    clear h
    go_enter Tryz.func204, Tryz.ntmps204
    go_wp2_with (first
      | ((with_reducible refine gate (N := 7) rfl ?_); refine St.appS 32 2 (.int .i64 0) 8 Tryz.underlying32 info_i64 rfl (by omega) rfl _ _ rfl _ _ rfl hS.out _ _ _ _ rfl h'.out (ints_one l) (by rw [hil]; simp; omega) ?_; intro v' w2 hS'; replace hS := hid hS'; clear hS'))
    go_ret
    exact ⟨_, rfl, by have h := hS.out.o0; rw [List.nil_append] at h; exact h, hS.out.bel⟩
end Go.Proofs.YthmcdfjijkecfaaGreat

/- The tree of a word: one step (the program's closure). -/
namespace Go.Proofs.YthmcdfjijkecfaaGreat
open Go.RowKit
set_option linter.unusedVariables false
set_option linter.unusedSimpArgs false
-- @LONG

/-- A row of a slice of slices set anew; the row's part goes into it. -/
theorem St.setMR {base gn n cap : Nat} {w0 w : World} {L : List Asn} {r : Value} {rows : List Value} {M : List (List Int)} {l : List Int} (h : St base w0 (Asn.mat base (.slice (some ⟨gn, 0, none⟩) n cap) rows M :: Asn.own base 2 r (ints l) :: L) w)
    (hn : M.length = n) (i : Nat) (hi : i < n) : St base w0 (Asn.mat base (.slice (some ⟨gn, 0, none⟩) n cap) (rows.set i r) (M.set i l) :: L) (w.setCell ⟨gn, i, none⟩ r) := by
  obtain ⟨⟨h1, h2, h3⟩, hf, hr, hf2, hL⟩ := h.star
  have hbg : base ≤ gn := (h1.lt gn rfl).1
  have hother : ∀ k, k ≠ gn → (w.setCell ⟨gn, i, none⟩ r).heap[k]? = w.heap[k]? := fun k hk => heap_setCell_other w ⟨gn, i, none⟩ k r (fun e => hk e)
  have hO : Own (w.setCell ⟨gn, i, none⟩ r) base 32 (.slice (some ⟨gn, 0, none⟩) n cap) (rows.set i r) := Own.set h1 (h2.trans hn) i r hi
  have hne : ∀ {r' : Value} {l' : List Value}, Own w base 2 r' l' → ∀ k, r'.ownBlock = some k → k ≠ gn := fun h' k hk e => (h'.ne h1 (by decide) k hk) (by rw [e]; rfl)
  have hb : Below base w (w.setCell ⟨gn, i, none⟩ r) := (Below.refl _ _).setCell hbg r
  refine ⟨h.bel.trans hb, Nat.le_trans h.le hb.size, ⟨hO, by simp [h2], fun j r' l' e1 e2 => ?_⟩, fun k hk hF => ?_, hL.keep fun k hk => hother k fun e => hf gn (.inl rfl) (.inr (e ▸ hk))⟩
  · simp only [List.getElem?_set] at e1 e2
    by_cases e : i = j
    · subst e
      rw [if_pos rfl, if_pos (by omega)] at e1
      rw [if_pos rfl, if_pos (by omega)] at e2
      injection e1 with e1; injection e2 with e2
      subst e1; subst e2
      exact Own.keep hr fun k hk => hother k (hne hr k hk)
    · rw [if_neg e] at e1 e2
      exact (h3 j r' l' e1 e2).keep fun k hk => hother k (hne (h3 j r' l' e1 e2) k hk)
  · rcases hk with hk | ⟨r', hr', hk⟩
    · exact hf k (.inl hk) (.inr hF)
    · rcases List.mem_or_eq_of_mem_set hr' with hr' | rfl
      · exact hf k (.inr ⟨r', hr', hk⟩) (.inr hF)
      · exact hf2 k hk hF
/-- The tree in memory. -/
def treeP (base bt gf cf gw cw n : Nat) (vq : Value) (rows : List Value) (t : Tr) : List Asn :=
  [Asn.blk bt #[vq, .slice (some ⟨gf, 0, none⟩) n cf, .slice (some ⟨gw, 0, none⟩) n cw] 129, Asn.own base 2 vq (nats t.q), Asn.own base 2 (.slice (some ⟨gf, 0, none⟩) n cf) (ints t.far), Asn.mat base (.slice (some ⟨gw, 0, none⟩) n cw) rows t.ways]
/-- What the second part of a step reads. -/
def tcell (bp bt gw n cw bf fr : Nat) (r : Value) (W : World) : Prop :=
  W.cell? ⟨bp, 0, none⟩ = some (.pointer (some ⟨bt, 0, none⟩)) ∧ W.cell? ⟨bt, 2, none⟩ = some (.slice (some ⟨gw, 0, none⟩) n cw) ∧ W.cell? ⟨bf, 0, none⟩ = some (.int .i64 (fr : Nat)) ∧ W.cell? ⟨gw, fr, none⟩ = some r
def qcell (bp bt : Nat) (vq : Value) (W : World) : Prop := W.cell? ⟨bp, 0, none⟩ = some (.pointer (some ⟨bt, 0, none⟩)) ∧ W.cell? ⟨bt, 0, none⟩ = some vq
set_option maxHeartbeats 4000000 in
set_option maxRecDepth 100000 in
theorem meet_any (base : Nat) (w0 : World) (L : List Asn) (w : World) (bp bt bf gf cf gw cw n : Nat) (hbt : base ≤ bt) (hn : n ≤ 81) (vq : Value) (rows : List Value) (t : Tr) (ok : TrOk n t) (fr tx : Nat) (hfr : fr ∈ t.q) (hto : tx < n) (st : Int)
    (hS : St base w0 (treeP base bt gf cf gw cw n vq rows t ++ Asn.blk bp #[.pointer (some ⟨bt, 0, none⟩)] 130 :: Asn.blk bf #[.int .i64 fr] 2 :: L) w) :
    Calls Tryz.prog 203 #[.int .i64 tx, .int .i64 st, .pointer (some ⟨bp, 0, none⟩), .pointer (some ⟨bf, 0, none⟩)] w fun e w' => e = .returned (.tuple #[]) ∧
      ∃ vq' rows', St base w0 (treeP base bt gf cf gw cw n vq' rows' (meetT t fr tx st) ++ Asn.blk bp #[.pointer (some ⟨bt, 0, none⟩)] 130 :: Asn.blk bf #[.int .i64 fr] 2 :: L) w' := by
  have hfn := ok.qb fr hfr
  have e1 : t.far[tx]? = some (t.far.getD tx 0) := by rw [List.getD_eq_getElem?_getD, List.getElem?_eq_getElem (by rw [ok.fl]; exact hto)]; rfl
  have e2 : t.far[fr]? = some (t.far.getD fr 0) := by rw [List.getD_eq_getElem?_getD, List.getElem?_eq_getElem (by rw [ok.fl]; exact hfn)]; rfl
  have e3 : t.ways[fr]? = some (t.ways.getD fr []) := by rw [List.getD_eq_getElem?_getD, List.getElem?_eq_getElem (by rw [ok.wl]; exact hfn)]; rfl
  have hql := ok.ql
  have hff : 0 ≤ t.far.getD fr 0 ∧ t.far.getD fr 0 < 81 := by
    rcases ok.fb fr _ e2 with h1 | h1
    · exact absurd hfr h1.2
    · have := h1.2.2; omega
  have hww := ok.wb fr _ e3
  have hm1 : meetT t fr tx st = if t.far.getD tx 0 < 0 then ⟨t.q ++ [tx], t.far.set tx (t.far.getD fr 0 + 1), t.ways.set tx (t.ways.getD fr [] ++ [st])⟩ else t := rfl
  have hfl := ok.fl
  have hwl := ok.wl
  obtain ⟨tq, tf, tw⟩ := t
  simp only at hfr e1 e2 e3 hql hff hww hm1 hfl hwl
  replace ok := hid ok
  generalize tf.getD tx 0 = ft at *
  generalize tf.getD fr 0 = ff at *
  generalize tw.getD fr [] = wf at *
  have g1 : (ints tf)[tx]? = some (.int .i64 ft) := by simp [ints, e1]
  have g2 : (ints tf)[fr]? = some (.int .i64 ff) := by simp [ints, e2]
  replace hS := hid (show St base w0 (Asn.blk bt #[vq, .slice (some ⟨gf, 0, none⟩) n cf, .slice (some ⟨gw, 0, none⟩) n cw] 129 :: Asn.own base 2 vq (nats tq) :: Asn.own base 2 (.slice (some ⟨gf, 0, none⟩) n cf) (ints tf) :: Asn.mat base (.slice (some ⟨gw, 0, none⟩) n cw) rows tw ::
    Asn.blk bp #[.pointer (some ⟨bt, 0, none⟩)] 130 :: Asn.blk bf #[.int .i64 fr] 2 :: L) w from hS)
  have q1 : w.cell? ⟨bp, 0, none⟩ = some (.pointer (some ⟨bt, 0, none⟩)) := cell_of_row _ _ 0 _ _ _ hS.out.k4
  have q2 : w.cell? ⟨bt, 1, none⟩ = some (.slice (some ⟨gf, 0, none⟩) n cf) := cell_of_row _ _ 1 _ _ _ hS.out.k0
  have q3 : w.cell? ⟨gf, tx, none⟩ = some (.int .i64 ft) := hS.out.o2.cellAt tx _ g1
  have q4 : w.cell? ⟨gf, fr, none⟩ = some (.int .i64 ff) := hS.out.o2.cellAt fr _ g2
  have q5 : w.cell? ⟨bf, 0, none⟩ = some (.int .i64 fr) := cell_of_row _ _ 0 _ _ _ hS.out.k5
  have t0 : (0 : Int) ≤ (tx : Int) := Int.natCast_nonneg _
  have t1 : (tx : Int) < (n : Int) := by omega
  have f0 : (0 : Int) ≤ (fr : Int) := Int.natCast_nonneg _
  have f1 : (fr : Int) < (n : Int) := by omega
  by_cases hneg : ft < 0
  · rw [if_pos hneg] at hm1
    rw [hm1]
    have ef : IntKind.i64.wrap (ff + 1) = ff + 1 := IntWalk.i64_in _ (by omega)
    have hcl := hid (fun W b v (hO : Own W b 2 v (ints wf)) => clone_any W b v wf hO (by omega))
    have hqn := hid (nats_length tq)
    have fo := hS.out.o2.frozenAt (by rw [ints_length]; exact hfl) tx
    replace hm1 := hid hm1; replace hfl := hid hfl; replace hwl := hid hwl; replace e1 := hid e1; replace e2 := hid e2; replace e3 := hid e3; replace g1 := hid g1; replace g2 := hid g2; replace hfr := hid hfr
    have hf2 := hid (show (ints tf).set tx (.int .i64 (ff + 1)) = ints (tf.set tx (ff + 1)) by simp [ints, List.map_set])
    have hq2 := hid (show nats tq ++ [.int .i64 (tx : Int)] = nats (tq ++ [tx]) by simp [nats])
    have hw2 := hid (show ints wf ++ [.int .i64 st] = ints (wf ++ [st]) by simp [ints])
    go_enter Tryz.func203, Tryz.ntmps203
    go_upto_region 1 with (fail)
    refine wp_region_still_tail 13 (by kernel_rfl) (by kernel_rfl) ?_
    simp only [List.take_succ_cons, List.take_zero, List.drop_succ_cons, List.drop_zero]
    repeat still_step
    try refine wpStill_nil ?_
    change wpList _ _ _ _ _ w.drew
    replace hS := hid hS.out.drew
    have q3' : w.drew.cell? ⟨gf, tx, none⟩ = some (.int .i64 ft) := q3
    have fo' : w.drew.frozen? ⟨gf, tx, none⟩ = false := fo
    clear q1 q2 q3 q4 q5 fo
    generalize w.drew = wa at *
    go_upto_region 2 with (fail)
    replace hS := hid ((hS.out.f2.setOwn (by rw [ints_length]; exact hfl.out) tx (.int .i64 (ff + 1)) hto).b2)
    rw [hf2.out] at hS
    generalize wa.setCell ⟨gf, tx, none⟩ (.int .i64 (ff + 1)) = wb at *
    clear q3' fo'
    have hg3 := hS.out.g3
    obtain ⟨r, hr0⟩ : ∃ r, rows[fr]? = some r := ⟨_, List.getElem?_eq_getElem (by rw [hg3.2.1, hwl.out]; exact hfn)⟩
    have hr2 := hid (show Own wb.drew base 2 r (ints wf) from hg3.2.2 fr r wf hr0 e3.out)
    have hT := hid (fun (W : World) (L' : List Asn) (h : St base w0 (Asn.blk bt #[vq, .slice (some ⟨gf, 0, none⟩) n cf, .slice (some ⟨gw, 0, none⟩) n cw] 129 :: Asn.own base 2 vq (nats tq) :: Asn.own base 2 (.slice (some ⟨gf, 0, none⟩) n cf) (ints (tf.set tx (ff + 1))) :: Asn.mat base (.slice (some ⟨gw, 0, none⟩) n cw) rows tw ::
      Asn.blk bp #[.pointer (some ⟨bt, 0, none⟩)] 130 :: Asn.blk bf #[.int .i64 fr] 2 :: L') W) => (show tcell bp bt gw n cw bf fr r W from ⟨cell_of_row _ _ 0 _ _ _ h.k4, cell_of_row _ _ 2 _ _ _ h.k0, cell_of_row _ _ 0 _ _ _ h.k5, h.g3.1.cellAt fr r hr0⟩))
    clear hg3 hr0
    refine wp_region_heldL (L := [(17, tcell bp bt gw n cw bf fr r)]) (by kernel_rfl) (HeldL.cons (fun _ => hT.out _ _ hS.out.drew) HeldL.nil) (fun hHeld => ?_)
    replace hS := hid hS.out.drew
    generalize wb.drew = wc at *
    refine wpAnyL_takeP (i := 0) 17 [] (v := ?_) (tcell bp bt gw n cw bf fr r) rfl (by kernel_rfl) (by kernel_rfl) (by kernel_rfl) (by rfl) (by kernel_rfl) (by simp) (fun _ _ _ h => h) (Or.inl ⟨by rfl, ?_⟩) (by assumption) ?_
    rotate_left
    · (intro W hW; (obtain ⟨h1, h2, h3, h4⟩ := hW); go_simp; (with_reducible rfl))
    intro hHeld'
    clear hHeld; have hHeld := hHeld'; clear hHeld'
    try simp only [Act.put, List.getElem_toArray, List.getElem_cons_succ, List.getElem_cons_zero, List.setIfInBounds_toArray, List.set_cons_zero, List.set_cons_succ]
    refine wpAnyL_take0 (i := 1) (v := ?_) rfl (by kernel_rfl) (by kernel_rfl) (by kernel_rfl) (by rfl) (fun _ _ _ h => h) (Or.inl ⟨by rfl, ?_⟩) (by assumption) ?_
    rotate_left
    · (intro W _; go_simp; (with_reducible rfl))
    intro hHeld'
    clear hHeld; have hHeld := hHeld'; clear hHeld'
    try simp only [Act.put, List.getElem_toArray, List.getElem_cons_succ, List.getElem_cons_zero, List.setIfInBounds_toArray, List.set_cons_zero, List.set_cons_succ]
    refine wpAnyL_take0 (i := 2) (v := ?_) rfl (by kernel_rfl) (by kernel_rfl) (by kernel_rfl) (by rfl) (fun _ _ _ h => h) (Or.inl ⟨by rfl, ?_⟩) (by assumption) ?_
    rotate_left
    · (intro W _; go_simp; (with_reducible rfl))
    intro hHeld'
    clear hHeld; have hHeld := hHeld'; clear hHeld'
    try simp only [Act.put, List.getElem_toArray, List.getElem_cons_succ, List.getElem_cons_zero, List.setIfInBounds_toArray, List.set_cons_zero, List.set_cons_succ]
    refine wpAnyL_takeP (i := 3) 17 [] (v := ?_) (tcell bp bt gw n cw bf fr r) rfl (by kernel_rfl) (by kernel_rfl) (by kernel_rfl) (by rfl) (by kernel_rfl) (by simp) (fun _ _ _ h => h) (Or.inl ⟨by rfl, ?_⟩) (by assumption) ?_
    rotate_left
    · (intro W hW; (obtain ⟨h1, h2, h3, h4⟩ := hW); go_simp; (with_reducible rfl))
    intro hHeld'
    clear hHeld; have hHeld := hHeld'; clear hHeld'
    try simp only [Act.put, List.getElem_toArray, List.getElem_cons_succ, List.getElem_cons_zero, List.setIfInBounds_toArray, List.set_cons_zero, List.set_cons_succ]
    refine wpAnyL_take0 (i := 4) (v := ?_) rfl (by kernel_rfl) (by kernel_rfl) (by kernel_rfl) (by rfl) (fun _ _ _ h => h) (Or.inl ⟨by rfl, ?_⟩) (by assumption) ?_
    rotate_left
    · (intro W _; go_simp; (with_reducible rfl))
    intro hHeld'
    clear hHeld; have hHeld := hHeld'; clear hHeld'
    try simp only [Act.put, List.getElem_toArray, List.getElem_cons_succ, List.getElem_cons_zero, List.setIfInBounds_toArray, List.set_cons_zero, List.set_cons_succ]
    refine wpAnyL_takeP (i := 5) 17 [] (v := ?_) (tcell bp bt gw n cw bf fr r) rfl (by kernel_rfl) (by kernel_rfl) (by kernel_rfl) (by rfl) (by kernel_rfl) (by simp) (fun _ _ _ h => h) (Or.inl ⟨by rfl, ?_⟩) (by assumption) ?_
    rotate_left
    · (intro W hW; (obtain ⟨h1, h2, h3, h4⟩ := hW); go_simp; (with_reducible rfl))
    intro hHeld'
    clear hHeld; have hHeld := hHeld'; clear hHeld'
    try simp only [Act.put, List.getElem_toArray, List.getElem_cons_succ, List.getElem_cons_zero, List.setIfInBounds_toArray, List.set_cons_zero, List.set_cons_succ]
    refine wpAnyL_take0 (i := 6) (v := ?_) rfl (by kernel_rfl) (by kernel_rfl) (by kernel_rfl) (by rfl) (fun _ _ _ h => h) (Or.inl ⟨by rfl, ?_⟩) (by assumption) ?_
    rotate_left
    · (intro W _; go_simp; (with_reducible rfl))
    intro hHeld'
    clear hHeld; have hHeld := hHeld'; clear hHeld'
    try simp only [Act.put, List.getElem_toArray, List.getElem_cons_succ, List.getElem_cons_zero, List.setIfInBounds_toArray, List.set_cons_zero, List.set_cons_succ]
    refine wpAnyL_take0 (i := 7) (v := ?_) rfl (by kernel_rfl) (by kernel_rfl) (by kernel_rfl) (by rfl) (fun _ _ _ h => h) (Or.inl ⟨by rfl, ?_⟩) (by assumption) ?_
    rotate_left
    · (intro W _; go_simp; (with_reducible rfl))
    intro hHeld'
    clear hHeld; have hHeld := hHeld'; clear hHeld'
    try simp only [Act.put, List.getElem_toArray, List.getElem_cons_succ, List.getElem_cons_zero, List.setIfInBounds_toArray, List.set_cons_zero, List.set_cons_succ]
    refine wpAnyL_takeP (i := 8) 17 [] (v := ?_) (tcell bp bt gw n cw bf fr r) rfl (by kernel_rfl) (by kernel_rfl) (by kernel_rfl) (by rfl) (by kernel_rfl) (by simp) (fun _ _ _ h => h) (Or.inl ⟨by rfl, ?_⟩) (by assumption) ?_
    rotate_left
    · (intro W hW; (obtain ⟨h1, h2, h3, h4⟩ := hW); go_simp; (with_reducible rfl))
    intro hHeld'
    clear hHeld; have hHeld := hHeld'; clear hHeld'
    try simp only [Act.put, List.getElem_toArray, List.getElem_cons_succ, List.getElem_cons_zero, List.setIfInBounds_toArray, List.set_cons_zero, List.set_cons_succ]
    refine wpAnyL_takeP (i := 9) 17 [] (v := ?_) (tcell bp bt gw n cw bf fr r) rfl (by kernel_rfl) (by kernel_rfl) (by kernel_rfl) (by rfl) (by kernel_rfl) (by simp) (fun _ _ _ h => h) (Or.inl ⟨by rfl, ?_⟩) (by assumption) ?_
    rotate_left
    · (intro W hW; (obtain ⟨h1, h2, h3, h4⟩ := hW); go_simp; (with_reducible rfl))
    intro hHeld'
    clear hHeld; have hHeld := hHeld'; clear hHeld'
    try simp only [Act.put, List.getElem_toArray, List.getElem_cons_succ, List.getElem_cons_zero, List.setIfInBounds_toArray, List.set_cons_zero, List.set_cons_succ]
    refine wpAnyL_take0 (i := 10) (v := ?_) rfl (by kernel_rfl) (by kernel_rfl) (by kernel_rfl) (by rfl) (fun _ _ _ h => h) (Or.inl ⟨by rfl, ?_⟩) (by assumption) ?_
    rotate_left
    · (intro W _; go_simp; (with_reducible rfl))
    intro hHeld'
    clear hHeld; have hHeld := hHeld'; clear hHeld'
    try simp only [Act.put, List.getElem_toArray, List.getElem_cons_succ, List.getElem_cons_zero, List.setIfInBounds_toArray, List.set_cons_zero, List.set_cons_succ]
    refine wpAnyL_takeP (i := 11) 17 [] (v := ?_) (tcell bp bt gw n cw bf fr r) rfl (by kernel_rfl) (by kernel_rfl) (by kernel_rfl) (by rfl) (by kernel_rfl) (by simp) (fun _ _ _ h => h) (Or.inl ⟨by rfl, ?_⟩) (by assumption) ?_
    rotate_left
    · (intro W hW; (obtain ⟨h1, h2, h3, h4⟩ := hW); go_simp; (with_reducible rfl))
    intro hHeld'
    clear hHeld; have hHeld := hHeld'; clear hHeld'
    try simp only [Act.put, List.getElem_toArray, List.getElem_cons_succ, List.getElem_cons_zero, List.setIfInBounds_toArray, List.set_cons_zero, List.set_cons_succ]
    refine wpAnyL_take0 (i := 13) (v := ?_) rfl (by kernel_rfl) (by kernel_rfl) (by kernel_rfl) (by rfl) (fun _ _ _ h => h) (Or.inl ⟨by rfl, ?_⟩) (by assumption) ?_
    rotate_left
    · (intro W _; go_simp; (with_reducible rfl))
    intro hHeld'
    clear hHeld; have hHeld := hHeld'; clear hHeld'
    try simp only [Act.put, List.getElem_toArray, List.getElem_cons_succ, List.getElem_cons_zero, List.setIfInBounds_toArray, List.set_cons_zero, List.set_cons_succ]
    refine wpAnyL_ready (rs := [12, 14]) (by kernel_rfl) (by simp) ?_
    refine AllReadyL.cons rfl (fun K hK => ?_) ?_
    · skip
      go_simp
      (with_reducible refine (hcl.out _ _ _ hr2.out).mono ?_)
      rintro e w3 ⟨v', rfl, hO, hb⟩
      replace hS := hid (hS.out.callOwn hb hO)
      clear hb hO
      go_simp
      refine hK.out _ _ (HeldL.cons (fun _ => hT.out _ _ hS.out.drop) HeldL.nil) (fun hHeld' => ?_)
      clear hK K hHeld; have hHeld := hHeld'; clear hHeld'
      try simp only [Act.put, List.getElem_toArray, List.getElem_cons_succ, List.getElem_cons_zero, List.setIfInBounds_toArray, List.set_cons_zero, List.set_cons_succ]
      refine wpAnyL_ready (rs := [14]) (by kernel_rfl) (by simp) ?_
      refine AllReadyL.cons rfl (fun K hK => ?_) AllReadyL.nil
      go_simp
      replace hS := hid ((hS.out.newBlk #[.int .i64 st] 2).f1)
      generalize w3.heap.size = bB at *
      generalize w3.alloc (.cells #[.int .i64 st] 2) = wd at *
      refine hK.out _ _ (HeldL.cons (fun _ => hT.out _ _ hS.out.drop.drop) HeldL.nil) (fun hHeld' => ?_)
      clear hK K hHeld; have hHeld := hHeld'; clear hHeld'
      try simp only [Act.put, List.getElem_toArray, List.getElem_cons_succ, List.getElem_cons_zero, List.setIfInBounds_toArray, List.set_cons_zero, List.set_cons_succ]
      refine wpAnyL_ready (rs := [15]) (by kernel_rfl) (by simp) ?_
      refine AllReadyL.cons rfl (fun K hK => ?_) AllReadyL.nil
      refine St.step1 32 2 2 (.int .i64 0) 8 Tryz.underlying32 info_i64 rfl (by omega) rfl _ _ rfl _ _ rfl hS.out rfl rfl _ (ints_length wf) (by omega) ?_
      intro gn cn we hS'
      replace hS := hid hS'.f1.drop
      clear hS'
      rw [hw2.out] at hS
      refine hK.out _ _ (HeldL.cons (fun _ => hT.out _ _ hS.out.drop) HeldL.nil) (fun hHeld' => ?_)
      clear hK K hHeld; have hHeld := hHeld'; clear hHeld'
      try simp only [Act.put, List.getElem_toArray, List.getElem_cons_succ, List.getElem_cons_zero, List.setIfInBounds_toArray, List.set_cons_zero, List.set_cons_succ]
      refine wpAnyL_take0 (i := 16) (v := ?_) rfl (by kernel_rfl) (by kernel_rfl) (by kernel_rfl) (by rfl) (fun _ _ _ h => h) (Or.inl ⟨by rfl, ?_⟩) (by assumption) ?_
      rotate_left
      · (intro W _; go_simp; (with_reducible rfl))
      intro hHeld'
      clear hHeld; have hHeld := hHeld'; clear hHeld'
      try simp only [Act.put, List.getElem_toArray, List.getElem_cons_succ, List.getElem_cons_zero, List.setIfInBounds_toArray, List.set_cons_zero, List.set_cons_succ]
      have c1 := hS.out.f4.g0.1.cellAt tx
      have c2 := Own.frozenAt hS.out.f4.g0.1 (by rw [hS.out.f4.g0.2.1]; exact hwl.out) tx
      have c3 : ∃ u, rows[tx]? = some u := ⟨_, List.getElem?_eq_getElem (by rw [hS.out.f4.g0.2.1, hwl.out]; exact hto)⟩
      obtain ⟨u0, hu0⟩ := c3
      replace c1 := c1 u0 hu0
      clear hu0
      refine wpAnyL_ready (rs := [17]) (by kernel_rfl) (by simp) ?_
      refine AllReadyL.cons rfl (fun K hK => ?_) AllReadyL.nil
      go_simp
      replace hS := hid ((hS.out.f4.setMR hwl.out tx hto).b3)
      clear c1 c2
      refine hK.out _ _ (HeldL.cons (fun h => absurd h (by decide +kernel)) HeldL.nil) (fun hHeld' => ?_)
      clear hK K hHeld; have hHeld := hHeld'; clear hHeld'
      try simp only [Act.put, List.getElem_toArray, List.getElem_cons_succ, List.getElem_cons_zero, List.setIfInBounds_toArray, List.set_cons_zero, List.set_cons_succ]
      refine wpAnyL_done (by kernel_rfl) ?_ _
      clear hT hr2 hcl hf2
      generalize we.setCell ⟨gw, tx, none⟩ (.slice (some ⟨gn, 0, none⟩) (wf.length + 1) cn) = wg at *
      go_upto_region 3 with (fail)
      have hq0 := hid (fun (W : World) (h1 : W.heap[bp]? = some (.cells #[.pointer (some ⟨bt, 0, none⟩)] 130 (0, 0))) (h2 : W.heap[bt]? = some (.cells #[vq, .slice (some ⟨gf, 0, none⟩) n cf, .slice (some ⟨gw, 0, none⟩) n cw] 129 (0, 0))) => (show qcell bp bt vq W from ⟨cell_of_row _ _ 0 _ _ _ h1, cell_of_row _ _ 0 _ _ _ h2⟩))
      refine wp_region_heldL (L := [(10, qcell bp bt vq)]) (by kernel_rfl) (HeldL.cons (fun _ => hq0.out _ hS.out.drew.k4 hS.out.drew.k0) HeldL.nil) (fun hHeld => ?_)
      replace hS := hid hS.out.drew
      generalize wg.drew = wh at *
      refine wpAnyL_takeP (i := 0) 10 [] (v := ?_) (qcell bp bt vq) rfl (by kernel_rfl) (by kernel_rfl) (by kernel_rfl) (by rfl) (by kernel_rfl) (by simp) (fun _ _ _ h => h) (Or.inl ⟨by rfl, ?_⟩) (by assumption) ?_
      rotate_left
      · (intro W hW; (obtain ⟨h1, h2⟩ := hW); go_simp; (with_reducible rfl))
      intro hHeld'
      clear hHeld; have hHeld := hHeld'; clear hHeld'
      try simp only [Act.put, List.getElem_toArray, List.getElem_cons_succ, List.getElem_cons_zero, List.setIfInBounds_toArray, List.set_cons_zero, List.set_cons_succ]
      refine wpAnyL_takeP (i := 1) 10 [] (v := ?_) (qcell bp bt vq) rfl (by kernel_rfl) (by kernel_rfl) (by kernel_rfl) (by rfl) (by kernel_rfl) (by simp) (fun _ _ _ h => h) (Or.inl ⟨by rfl, ?_⟩) (by assumption) ?_
      rotate_left
      · (intro W hW; (obtain ⟨h1, h2⟩ := hW); go_simp; (with_reducible rfl))
      intro hHeld'
      clear hHeld; have hHeld := hHeld'; clear hHeld'
      try simp only [Act.put, List.getElem_toArray, List.getElem_cons_succ, List.getElem_cons_zero, List.setIfInBounds_toArray, List.set_cons_zero, List.set_cons_succ]
      refine wpAnyL_take0 (i := 2) (v := ?_) rfl (by kernel_rfl) (by kernel_rfl) (by kernel_rfl) (by rfl) (fun _ _ _ h => h) (Or.inl ⟨by rfl, ?_⟩) (by assumption) ?_
      rotate_left
      · (intro W _; go_simp; (with_reducible rfl))
      intro hHeld'
      clear hHeld; have hHeld := hHeld'; clear hHeld'
      try simp only [Act.put, List.getElem_toArray, List.getElem_cons_succ, List.getElem_cons_zero, List.setIfInBounds_toArray, List.set_cons_zero, List.set_cons_succ]
      refine wpAnyL_take0 (i := 3) (v := ?_) rfl (by kernel_rfl) (by kernel_rfl) (by kernel_rfl) (by rfl) (fun _ _ _ h => h) (Or.inl ⟨by rfl, ?_⟩) (by assumption) ?_
      rotate_left
      · (intro W _; go_simp; (with_reducible rfl))
      intro hHeld'
      clear hHeld; have hHeld := hHeld'; clear hHeld'
      try simp only [Act.put, List.getElem_toArray, List.getElem_cons_succ, List.getElem_cons_zero, List.setIfInBounds_toArray, List.set_cons_zero, List.set_cons_succ]
      refine wpAnyL_takeP (i := 4) 10 [] (v := ?_) (qcell bp bt vq) rfl (by kernel_rfl) (by kernel_rfl) (by kernel_rfl) (by rfl) (by kernel_rfl) (by simp) (fun _ _ _ h => h) (Or.inl ⟨by rfl, ?_⟩) (by assumption) ?_
      rotate_left
      · (intro W hW; (obtain ⟨h1, h2⟩ := hW); go_simp; (with_reducible rfl))
      intro hHeld'
      clear hHeld; have hHeld := hHeld'; clear hHeld'
      try simp only [Act.put, List.getElem_toArray, List.getElem_cons_succ, List.getElem_cons_zero, List.setIfInBounds_toArray, List.set_cons_zero, List.set_cons_succ]
      refine wpAnyL_take0 (i := 5) (v := ?_) rfl (by kernel_rfl) (by kernel_rfl) (by kernel_rfl) (by rfl) (fun _ _ _ h => h) (Or.inl ⟨by rfl, ?_⟩) (by assumption) ?_
      rotate_left
      · (intro W _; go_simp; (with_reducible rfl))
      intro hHeld'
      clear hHeld; have hHeld := hHeld'; clear hHeld'
      try simp only [Act.put, List.getElem_toArray, List.getElem_cons_succ, List.getElem_cons_zero, List.setIfInBounds_toArray, List.set_cons_zero, List.set_cons_succ]
      refine wpAnyL_ready (rs := [6]) (by kernel_rfl) (by simp) ?_
      refine AllReadyL.cons rfl (fun K hK => ?_) AllReadyL.nil
      go_simp
      replace hS := hid ((hS.out.newBlk #[.int .i64 (tx : Int)] 2).f2)
      generalize wh.heap.size = bC at *
      generalize wh.alloc (.cells #[.int .i64 (tx : Int)] 2) = wi at *
      refine hK.out _ _ (HeldL.cons (fun _ => hq0.out _ hS.out.k5 hS.out.k2) HeldL.nil) (fun hHeld' => ?_)
      clear hK K hHeld; have hHeld := hHeld'; clear hHeld'
      try simp only [Act.put, List.getElem_toArray, List.getElem_cons_succ, List.getElem_cons_zero, List.setIfInBounds_toArray, List.set_cons_zero, List.set_cons_succ]
      refine wpAnyL_ready (rs := [7]) (by kernel_rfl) (by simp) ?_
      refine AllReadyL.cons rfl (fun K hK => ?_) AllReadyL.nil
      refine St.step1 32 2 2 (.int .i64 0) 8 Tryz.underlying32 info_i64 rfl (by omega) rfl _ _ rfl _ _ rfl hS.out rfl rfl _ hqn.out (by omega) ?_
      intro gq cq wj hS'
      replace hS := hid (hS'.f1.drop.f1)
      clear hS'
      rw [hq2.out] at hS
      refine hK.out _ _ (HeldL.cons (fun _ => hq0.out _ hS.out.k4 hS.out.k0) HeldL.nil) (fun hHeld' => ?_)
      clear hK K hHeld; have hHeld := hHeld'; clear hHeld'
      try simp only [Act.put, List.getElem_toArray, List.getElem_cons_succ, List.getElem_cons_zero, List.setIfInBounds_toArray, List.set_cons_zero, List.set_cons_succ]
      refine wpAnyL_take0 (i := 8) (v := ?_) rfl (by kernel_rfl) (by kernel_rfl) (by kernel_rfl) (by rfl) (fun _ _ _ h => h) (Or.inl ⟨by rfl, ?_⟩) (by assumption) ?_
      rotate_left
      · (intro W _; go_simp; (with_reducible rfl))
      intro hHeld'
      clear hHeld; have hHeld := hHeld'; clear hHeld'
      try simp only [Act.put, List.getElem_toArray, List.getElem_cons_succ, List.getElem_cons_zero, List.setIfInBounds_toArray, List.set_cons_zero, List.set_cons_succ]
      refine wpAnyL_take0 (i := 9) (v := ?_) rfl (by kernel_rfl) (by kernel_rfl) (by kernel_rfl) (by rfl) (fun _ _ _ h => h) (Or.inl ⟨by rfl, ?_⟩) (by assumption) ?_
      rotate_left
      · (intro W _; go_simp; (with_reducible rfl))
      intro hHeld'
      clear hHeld; have hHeld := hHeld'; clear hHeld'
      try simp only [Act.put, List.getElem_toArray, List.getElem_cons_succ, List.getElem_cons_zero, List.setIfInBounds_toArray, List.set_cons_zero, List.set_cons_succ]
      have c1 := cell_of_row _ _ 0 _ _ _ hS.out.k0
      have c2 := frozen_of_row _ _ 0 _ _ hS.out.k0
      refine wpAnyL_ready (rs := [10]) (by kernel_rfl) (by simp) ?_
      refine AllReadyL.cons rfl (fun K hK => ?_) AllReadyL.nil
      go_simp
      replace hS := hid (hS.out.setBlk hbt 0 (.slice (some ⟨gq, 0, none⟩) (tq.length + 1) cq))
      clear c1 c2
      refine hK.out _ _ (HeldL.cons (fun h => absurd h (by decide +kernel)) HeldL.nil) (fun hHeld' => ?_)
      clear hK K hHeld; have hHeld := hHeld'; clear hHeld'
      try simp only [Act.put, List.getElem_toArray, List.getElem_cons_succ, List.getElem_cons_zero, List.setIfInBounds_toArray, List.set_cons_zero, List.set_cons_succ]
      refine wpAnyL_done (by kernel_rfl) ?_ _
      go_end0
      exact ⟨rfl, _, _, hS.out⟩
    · skip
      refine AllReadyL.cons rfl (fun K hK => ?_) AllReadyL.nil
      go_simp
      replace hS := hid (hS.out.newBlk #[.int .i64 st] 2)
      replace hr2 := hid (hr2.out.alloc (.cells #[.int .i64 st] 2))
      generalize wc.heap.size = bB at *
      generalize wc.alloc (.cells #[.int .i64 st] 2) = wd at *
      refine hK.out _ _ (HeldL.cons (fun _ => hT.out _ _ hS.out.drop) HeldL.nil) (fun hHeld' => ?_)
      clear hK K hHeld; have hHeld := hHeld'; clear hHeld'
      try simp only [Act.put, List.getElem_toArray, List.getElem_cons_succ, List.getElem_cons_zero, List.setIfInBounds_toArray, List.set_cons_zero, List.set_cons_succ]
      refine wpAnyL_ready (rs := [12]) (by kernel_rfl) (by simp) ?_
      refine AllReadyL.cons rfl (fun K hK => ?_) AllReadyL.nil
      go_simp
      (with_reducible refine (hcl.out _ _ _ hr2.out).mono ?_)
      rintro e w3 ⟨v', rfl, hO, hb⟩
      replace hS := hid (hS.out.callOwn hb hO)
      clear hb hO
      go_simp
      generalize w3 = wd at *
      refine hK.out _ _ (HeldL.cons (fun _ => hT.out _ _ hS.out.drop.drop) HeldL.nil) (fun hHeld' => ?_)
      clear hK K hHeld; have hHeld := hHeld'; clear hHeld'
      try simp only [Act.put, List.getElem_toArray, List.getElem_cons_succ, List.getElem_cons_zero, List.setIfInBounds_toArray, List.set_cons_zero, List.set_cons_succ]
      refine wpAnyL_ready (rs := [15]) (by kernel_rfl) (by simp) ?_
      refine AllReadyL.cons rfl (fun K hK => ?_) AllReadyL.nil
      refine St.step1 32 2 2 (.int .i64 0) 8 Tryz.underlying32 info_i64 rfl (by omega) rfl _ _ rfl _ _ rfl hS.out rfl rfl _ (ints_length wf) (by omega) ?_
      intro gn cn we hS'
      replace hS := hid hS'.f1.drop
      clear hS'
      rw [hw2.out] at hS
      refine hK.out _ _ (HeldL.cons (fun _ => hT.out _ _ hS.out.drop) HeldL.nil) (fun hHeld' => ?_)
      clear hK K hHeld; have hHeld := hHeld'; clear hHeld'
      try simp only [Act.put, List.getElem_toArray, List.getElem_cons_succ, List.getElem_cons_zero, List.setIfInBounds_toArray, List.set_cons_zero, List.set_cons_succ]
      refine wpAnyL_take0 (i := 16) (v := ?_) rfl (by kernel_rfl) (by kernel_rfl) (by kernel_rfl) (by rfl) (fun _ _ _ h => h) (Or.inl ⟨by rfl, ?_⟩) (by assumption) ?_
      rotate_left
      · (intro W _; go_simp; (with_reducible rfl))
      intro hHeld'
      clear hHeld; have hHeld := hHeld'; clear hHeld'
      try simp only [Act.put, List.getElem_toArray, List.getElem_cons_succ, List.getElem_cons_zero, List.setIfInBounds_toArray, List.set_cons_zero, List.set_cons_succ]
      have c1 := hS.out.f4.g0.1.cellAt tx
      have c2 := Own.frozenAt hS.out.f4.g0.1 (by rw [hS.out.f4.g0.2.1]; exact hwl.out) tx
      have c3 : ∃ u, rows[tx]? = some u := ⟨_, List.getElem?_eq_getElem (by rw [hS.out.f4.g0.2.1, hwl.out]; exact hto)⟩
      obtain ⟨u0, hu0⟩ := c3
      replace c1 := c1 u0 hu0
      clear hu0
      refine wpAnyL_ready (rs := [17]) (by kernel_rfl) (by simp) ?_
      refine AllReadyL.cons rfl (fun K hK => ?_) AllReadyL.nil
      go_simp
      replace hS := hid ((hS.out.f4.setMR hwl.out tx hto).b3)
      clear c1 c2
      refine hK.out _ _ (HeldL.cons (fun h => absurd h (by decide +kernel)) HeldL.nil) (fun hHeld' => ?_)
      clear hK K hHeld; have hHeld := hHeld'; clear hHeld'
      try simp only [Act.put, List.getElem_toArray, List.getElem_cons_succ, List.getElem_cons_zero, List.setIfInBounds_toArray, List.set_cons_zero, List.set_cons_succ]
      refine wpAnyL_done (by kernel_rfl) ?_ _
      clear hT hr2 hcl hf2
      generalize we.setCell ⟨gw, tx, none⟩ (.slice (some ⟨gn, 0, none⟩) (wf.length + 1) cn) = wg at *
      go_upto_region 3 with (fail)
      have hq0 := hid (fun (W : World) (h1 : W.heap[bp]? = some (.cells #[.pointer (some ⟨bt, 0, none⟩)] 130 (0, 0))) (h2 : W.heap[bt]? = some (.cells #[vq, .slice (some ⟨gf, 0, none⟩) n cf, .slice (some ⟨gw, 0, none⟩) n cw] 129 (0, 0))) => (show qcell bp bt vq W from ⟨cell_of_row _ _ 0 _ _ _ h1, cell_of_row _ _ 0 _ _ _ h2⟩))
      refine wp_region_heldL (L := [(10, qcell bp bt vq)]) (by kernel_rfl) (HeldL.cons (fun _ => hq0.out _ hS.out.drew.k4 hS.out.drew.k0) HeldL.nil) (fun hHeld => ?_)
      replace hS := hid hS.out.drew
      generalize wg.drew = wh at *
      refine wpAnyL_takeP (i := 0) 10 [] (v := ?_) (qcell bp bt vq) rfl (by kernel_rfl) (by kernel_rfl) (by kernel_rfl) (by rfl) (by kernel_rfl) (by simp) (fun _ _ _ h => h) (Or.inl ⟨by rfl, ?_⟩) (by assumption) ?_
      rotate_left
      · (intro W hW; (obtain ⟨h1, h2⟩ := hW); go_simp; (with_reducible rfl))
      intro hHeld'
      clear hHeld; have hHeld := hHeld'; clear hHeld'
      try simp only [Act.put, List.getElem_toArray, List.getElem_cons_succ, List.getElem_cons_zero, List.setIfInBounds_toArray, List.set_cons_zero, List.set_cons_succ]
      refine wpAnyL_takeP (i := 1) 10 [] (v := ?_) (qcell bp bt vq) rfl (by kernel_rfl) (by kernel_rfl) (by kernel_rfl) (by rfl) (by kernel_rfl) (by simp) (fun _ _ _ h => h) (Or.inl ⟨by rfl, ?_⟩) (by assumption) ?_
      rotate_left
      · (intro W hW; (obtain ⟨h1, h2⟩ := hW); go_simp; (with_reducible rfl))
      intro hHeld'
      clear hHeld; have hHeld := hHeld'; clear hHeld'
      try simp only [Act.put, List.getElem_toArray, List.getElem_cons_succ, List.getElem_cons_zero, List.setIfInBounds_toArray, List.set_cons_zero, List.set_cons_succ]
      refine wpAnyL_take0 (i := 2) (v := ?_) rfl (by kernel_rfl) (by kernel_rfl) (by kernel_rfl) (by rfl) (fun _ _ _ h => h) (Or.inl ⟨by rfl, ?_⟩) (by assumption) ?_
      rotate_left
      · (intro W _; go_simp; (with_reducible rfl))
      intro hHeld'
      clear hHeld; have hHeld := hHeld'; clear hHeld'
      try simp only [Act.put, List.getElem_toArray, List.getElem_cons_succ, List.getElem_cons_zero, List.setIfInBounds_toArray, List.set_cons_zero, List.set_cons_succ]
      refine wpAnyL_take0 (i := 3) (v := ?_) rfl (by kernel_rfl) (by kernel_rfl) (by kernel_rfl) (by rfl) (fun _ _ _ h => h) (Or.inl ⟨by rfl, ?_⟩) (by assumption) ?_
      rotate_left
      · (intro W _; go_simp; (with_reducible rfl))
      intro hHeld'
      clear hHeld; have hHeld := hHeld'; clear hHeld'
      try simp only [Act.put, List.getElem_toArray, List.getElem_cons_succ, List.getElem_cons_zero, List.setIfInBounds_toArray, List.set_cons_zero, List.set_cons_succ]
      refine wpAnyL_takeP (i := 4) 10 [] (v := ?_) (qcell bp bt vq) rfl (by kernel_rfl) (by kernel_rfl) (by kernel_rfl) (by rfl) (by kernel_rfl) (by simp) (fun _ _ _ h => h) (Or.inl ⟨by rfl, ?_⟩) (by assumption) ?_
      rotate_left
      · (intro W hW; (obtain ⟨h1, h2⟩ := hW); go_simp; (with_reducible rfl))
      intro hHeld'
      clear hHeld; have hHeld := hHeld'; clear hHeld'
      try simp only [Act.put, List.getElem_toArray, List.getElem_cons_succ, List.getElem_cons_zero, List.setIfInBounds_toArray, List.set_cons_zero, List.set_cons_succ]
      refine wpAnyL_take0 (i := 5) (v := ?_) rfl (by kernel_rfl) (by kernel_rfl) (by kernel_rfl) (by rfl) (fun _ _ _ h => h) (Or.inl ⟨by rfl, ?_⟩) (by assumption) ?_
      rotate_left
      · (intro W _; go_simp; (with_reducible rfl))
      intro hHeld'
      clear hHeld; have hHeld := hHeld'; clear hHeld'
      try simp only [Act.put, List.getElem_toArray, List.getElem_cons_succ, List.getElem_cons_zero, List.setIfInBounds_toArray, List.set_cons_zero, List.set_cons_succ]
      refine wpAnyL_ready (rs := [6]) (by kernel_rfl) (by simp) ?_
      refine AllReadyL.cons rfl (fun K hK => ?_) AllReadyL.nil
      go_simp
      replace hS := hid ((hS.out.newBlk #[.int .i64 (tx : Int)] 2).f2)
      generalize wh.heap.size = bC at *
      generalize wh.alloc (.cells #[.int .i64 (tx : Int)] 2) = wi at *
      refine hK.out _ _ (HeldL.cons (fun _ => hq0.out _ hS.out.k5 hS.out.k2) HeldL.nil) (fun hHeld' => ?_)
      clear hK K hHeld; have hHeld := hHeld'; clear hHeld'
      try simp only [Act.put, List.getElem_toArray, List.getElem_cons_succ, List.getElem_cons_zero, List.setIfInBounds_toArray, List.set_cons_zero, List.set_cons_succ]
      refine wpAnyL_ready (rs := [7]) (by kernel_rfl) (by simp) ?_
      refine AllReadyL.cons rfl (fun K hK => ?_) AllReadyL.nil
      refine St.step1 32 2 2 (.int .i64 0) 8 Tryz.underlying32 info_i64 rfl (by omega) rfl _ _ rfl _ _ rfl hS.out rfl rfl _ hqn.out (by omega) ?_
      intro gq cq wj hS'
      replace hS := hid (hS'.f1.drop.f1)
      clear hS'
      rw [hq2.out] at hS
      refine hK.out _ _ (HeldL.cons (fun _ => hq0.out _ hS.out.k4 hS.out.k0) HeldL.nil) (fun hHeld' => ?_)
      clear hK K hHeld; have hHeld := hHeld'; clear hHeld'
      try simp only [Act.put, List.getElem_toArray, List.getElem_cons_succ, List.getElem_cons_zero, List.setIfInBounds_toArray, List.set_cons_zero, List.set_cons_succ]
      refine wpAnyL_take0 (i := 8) (v := ?_) rfl (by kernel_rfl) (by kernel_rfl) (by kernel_rfl) (by rfl) (fun _ _ _ h => h) (Or.inl ⟨by rfl, ?_⟩) (by assumption) ?_
      rotate_left
      · (intro W _; go_simp; (with_reducible rfl))
      intro hHeld'
      clear hHeld; have hHeld := hHeld'; clear hHeld'
      try simp only [Act.put, List.getElem_toArray, List.getElem_cons_succ, List.getElem_cons_zero, List.setIfInBounds_toArray, List.set_cons_zero, List.set_cons_succ]
      refine wpAnyL_take0 (i := 9) (v := ?_) rfl (by kernel_rfl) (by kernel_rfl) (by kernel_rfl) (by rfl) (fun _ _ _ h => h) (Or.inl ⟨by rfl, ?_⟩) (by assumption) ?_
      rotate_left
      · (intro W _; go_simp; (with_reducible rfl))
      intro hHeld'
      clear hHeld; have hHeld := hHeld'; clear hHeld'
      try simp only [Act.put, List.getElem_toArray, List.getElem_cons_succ, List.getElem_cons_zero, List.setIfInBounds_toArray, List.set_cons_zero, List.set_cons_succ]
      have c1 := cell_of_row _ _ 0 _ _ _ hS.out.k0
      have c2 := frozen_of_row _ _ 0 _ _ hS.out.k0
      refine wpAnyL_ready (rs := [10]) (by kernel_rfl) (by simp) ?_
      refine AllReadyL.cons rfl (fun K hK => ?_) AllReadyL.nil
      go_simp
      replace hS := hid (hS.out.setBlk hbt 0 (.slice (some ⟨gq, 0, none⟩) (tq.length + 1) cq))
      clear c1 c2
      refine hK.out _ _ (HeldL.cons (fun h => absurd h (by decide +kernel)) HeldL.nil) (fun hHeld' => ?_)
      clear hK K hHeld; have hHeld := hHeld'; clear hHeld'
      try simp only [Act.put, List.getElem_toArray, List.getElem_cons_succ, List.getElem_cons_zero, List.setIfInBounds_toArray, List.set_cons_zero, List.set_cons_succ]
      refine wpAnyL_done (by kernel_rfl) ?_ _
      go_end0
      exact ⟨rfl, _, _, hS.out⟩
  · rw [if_neg hneg] at hm1
    rw [hm1]
    go_enter Tryz.func203, Tryz.ntmps203
    go_wp2
    go_end0
    exact ⟨rfl, _, _, hS.out⟩
end Go.Proofs.YthmcdfjijkecfaaGreat

/- Edges, compared by ==. -/
namespace Go.Proofs.YthmcdfjijkecfaaGreat
open Go.RowKit
set_option linter.unusedVariables false
set_option linter.unusedSimpArgs false

theorem guard_edge : Tryz.prog.eqGuardType Tryz.prog.depth 59 = false := by kernel_rfl
theorem key_edge : Tryz.prog.keyTypeAt 2 59 = true := by kernel_rfl
theorem sz_edgeE : (Tryz.prog.info? 59).map (·.size) = some 3 := by kernel_rfl
theorem cells_edge : Tryz.prog.cellsOf 59 = 3 := by kernel_rfl
theorem cells_i64e : Tryz.prog.cellsOf 2 = 1 := by kernel_rfl
theorem wf_i64e (a : Nat) (h : a < 1000000) : (Lit.int .i64 (a : Int)).wf = true := by
  have h0 : IntKind.i64.min = -9223372036854775808 := by decide
  have h1 : IntKind.i64.max = 9223372036854775807 := by decide
  simp [Lit.wf, IntKind.has, h0, h1]; omega
theorem lits_i64e (d : Nat) (a : Nat) (h : a < 1000000) : Tryz.prog.keyLits (d + 1) 2 [.int .i64 (a : Int)] = some [.int .i64 (a : Int)] := by
  unfold Program.keyLits
  rw [Tryz.underlying2]
  simp [wf_i64e a h]
theorem lits_edge (a b c : Nat) (ha : a < 1000000) (hb : b < 1000000) (hc : c < 1000000) : Tryz.prog.keyLits (0 + 2) 59 (c3 a b c) = some [.int .i64 (a : Int), .int .i64 (b : Int), .int .i64 (c : Int)] := by
  unfold Program.keyLits
  rw [Tryz.underlying59]
  simp only [show (c3 a b c).length = 3 from rfl, cells_edge, if_true, true_and]
  rw [if_pos (by decide +kernel)]
  simp only [List.mapM_cons, List.mapM_nil, cells_i64e]
  have e0 : ((c3 a b c).drop 0).take 1 = [Value.int .i64 (a : Int)] := rfl
  have e1 : ((c3 a b c).drop 1).take 1 = [Value.int .i64 (b : Int)] := rfl
  have e2 : ((c3 a b c).drop 2).take 1 = [Value.int .i64 (c : Int)] := rfl
  rw [e0, e1, e2, lits_i64e _ a ha, lits_i64e _ b hb, lits_i64e _ c hc]
  simp
theorem eq_edge (w : World) (a b c : Nat) (ha : a < 1000000) (hb : b < 1000000) (hc : c < 1000000) :
    (Op.equalIn 10000 59 (.agg (c3 a b c).toArray) (.agg (c3 a b c).toArray)).run Tryz.prog w = .ok true w := by
  have hf : (Value.agg (c3 a b c).toArray).formed Tryz.prog 59 = true := by
    simp [Value.formed, Tryz.underlying59, cells_edge, c3]
  have hl := lits_edge a b c ha hb hc
  obtain ⟨q, hq, hi⟩ := run_equalIn_deep (P := Tryz.prog) 9998 2 59 key_edge w 2 2 _ _ _ _ hf hf hl hl
  have e : q = true := by rw [hi]
  rw [← e]
  exact hq
theorem edgesAns_lt (m : Mach) (n : Int) : ∀ e ∈ (edgesAns m n).1, e.1 < 1000000 ∧ e.2.1 < 1000000 ∧ e.2.2 < 1000000 := by
  intro e he
  by_cases h : levelI m n = 0
  · obtain ⟨l, s, n', g, rfl, _, _, hpw⟩ := levelI_good h
    rw [edgesAns_0 g h] at he
    have hs := g.s16
    unfold edL at he
    simp only [List.range_zero, List.map_nil, List.append_nil, List.mem_flatMap, List.mem_map, List.mem_range] at he
    obtain ⟨i, hi, q, hq, rfl⟩ := he
    have h3 := pf_lt g q n' i hq
    exact ⟨by show i < 1000000; omega, by show q < 1000000; omega, by show pf m l q n' i < 1000000; omega⟩
  · rw [edgesAns_c h] at he; cases he
end Go.Proofs.YthmcdfjijkecfaaGreat

/- Machines, compared by ==; and the machine of a state of a table is of bytes, and a machine again. -/
namespace Go.Proofs.YthmcdfjijkecfaaGreat
open Go.RowKit
set_option linter.unusedVariables false
set_option linter.unusedSimpArgs false

theorem cells_b48 : Tryz.prog.cellsOf 25 = 48 := by kernel_rfl
theorem cells_mach : Tryz.prog.cellsOf 27 = 98 := by kernel_rfl
theorem cells_i64 : Tryz.prog.cellsOf 2 = 1 := by kernel_rfl
theorem wf_i64s (a : Nat) (h : a < 1000000) : (Lit.int .i64 (a : Int)).wf = true := by
  have h0 : IntKind.i64.min = -9223372036854775808 := by decide
  have h1 : IntKind.i64.max = 9223372036854775807 := by decide
  simp [Lit.wf, IntKind.has, h0, h1]; omega
theorem lits_i64 (d : Nat) (a : Nat) (h : a < 1000000) : Tryz.prog.keyLits (d + 1) 2 [.int .i64 (a : Int)] = some [.int .i64 (a : Int)] := by
  unfold Program.keyLits
  rw [Tryz.underlying2]
  simp [wf_i64s a h]
theorem mapM_all {α β : Type} (F : α → Option β) (G : α → β) : ∀ l : List α, (∀ a ∈ l, F a = some (G a)) → l.mapM F = some (l.map G)
  | [], _ => rfl
  | a :: l, h => by
    rw [List.mapM_cons, h a (by simp), mapM_all F G l (fun b hb => h b (by simp [hb]))]
    rfl
def lrow3 (f : Nat → Nat) (i : Nat) : List Lit := [.int .u8 (f (i * 3) : Nat), .int .u8 (f (i * 3 + 1) : Nat), .int .u8 (f (i * 3 + 2) : Nat)]
def lit48 (f : Nat → Nat) : List Lit := ((List.range 16).map (lrow3 f)).flatten
theorem cut3 {α : Type} (g : Nat → α) (i : Nat) (h : i < 16) : (((List.range 48).map g).drop (i * 3)).take 3 = [g (i * 3), g (i * 3 + 1), g (i * 3 + 2)] := by
  apply List.ext_getElem?
  intro n
  rw [List.getElem?_take]
  rcases n with _ | _ | _ | n
  · rw [if_pos (by omega), List.getElem?_drop, List.getElem?_map, List.getElem?_range (by omega)]; rfl
  · rw [if_pos (by omega), List.getElem?_drop, List.getElem?_map, List.getElem?_range (by omega)]; rfl
  · rw [if_pos (by omega), List.getElem?_drop, List.getElem?_map, List.getElem?_range (by omega)]; rfl
  · rw [if_neg (by omega)]; rfl
theorem lits_b48 (d : Nat) (f : Nat → Nat) (h : ∀ i, f i < 256) : Tryz.prog.keyLits (d + 3) 25 ((List.range 48).map fun i => .int .u8 (f i : Nat)) = some (lit48 f) := by
  unfold Program.keyLits
  rw [Tryz.underlying25]
  simp only [cells_b48, List.length_map, List.length_range, cells_b3, if_true]
  rw [mapM_all _ (lrow3 f)]
  · rfl
  · intro i hi
    rw [List.mem_range] at hi
    rw [cut3 _ i hi]
    exact lits_b3 d _ _ _ (h _) (h _) (h _)
theorem flat3_inj (f g : Nat → Nat) : ∀ l : List Nat, (l.map (lrow3 f)).flatten = (l.map (lrow3 g)).flatten ↔ ∀ i ∈ l, lrow3 f i = lrow3 g i
  | [] => by simp
  | a :: l => by
    simp only [List.map_cons, List.flatten_cons, List.mem_cons, forall_eq_or_imp]
    rw [← flat3_inj f g l]
    exact ⟨fun h => List.append_inj h rfl, fun h => by rw [h.1, h.2]⟩
theorem lit48_inj (f g : Nat → Nat) (h : lit48 f = lit48 g) : ∀ i, i < 48 → f i = g i := fun i hi => by
  have := (flat3_inj f g _).1 h (i / 3) (List.mem_range.2 (by omega))
  simp only [lrow3, List.cons.injEq, Lit.int.injEq, true_and, and_true, Int.natCast_inj] at this
  obtain ⟨h0, h1, h2⟩ := this
  rcases (show i = i / 3 * 3 ∨ i = i / 3 * 3 + 1 ∨ i = i / 3 * 3 + 2 by omega) with e | e | e
  · rw [e]; exact h0
  · rw [e]; exact h1
  · rw [e]; exact h2
theorem mcells_list (m : Mach) : (mcells m).toList = [.int .i64 m.L] ++ ([.int .i64 m.S] ++ (((List.range 48).map fun i => .int .u8 (m.nx i : Nat)) ++ ((List.range 48).map fun i => .int .u8 (m.ot i : Nat)))) := by
  apply List.ext_getElem?
  intro n
  rw [Array.getElem?_toList]
  by_cases h : n < 98
  · rw [mcells_get m n h]
    rcases n with _ | _ | n
    · rfl
    · rfl
    · rw [List.getElem?_append_right (by simp), List.getElem?_append_right (by simp)]
      simp only [List.length_cons, List.length_nil]
      rw [show n + 1 + 1 - (0 + 1) - (0 + 1) = n by omega]
      by_cases hn : n < 48
      · rw [List.getElem?_append_left (by simpa using hn)]
        simp [mf, hn]; omega
      · rw [List.getElem?_append_right (by simp; omega)]
        simp only [List.length_map, List.length_range]
        rw [List.getElem?_map, List.getElem?_range (by omega)]
        unfold mf
        rw [if_neg (by omega), if_neg (by omega), if_neg (by omega), show n + 1 + 1 - 50 = n - 48 by omega]
        rfl
  · rw [Array.getElem?_eq_none (by rw [size_mcells]; omega), List.getElem?_eq_none (by simp; omega)]
def mlits (a b : Nat) (m : Mach) : List Lit := [.int .i64 (a : Int)] ++ ([.int .i64 (b : Int)] ++ (lit48 m.nx ++ lit48 m.ot))
set_option maxRecDepth 4000 in
theorem lits_mach (d : Nat) (m : Mach) (hk : m.Ok) (a b : Nat) (ha : m.L = a) (hb : m.S = b) (ha' : a < 1000000) (hb' : b < 1000000) : Tryz.prog.keyLits (d + 4) 27 (mcells m).toList = some (mlits a b m) := by
  have hlen : (mcells m).toList.length = 98 := by rw [Array.length_toList, size_mcells]
  have hc := mcells_list m
  rw [ha, hb] at hc
  have hN : ((List.range 48).map fun i => Value.int .u8 (m.nx i : Nat)).length = 48 := by simp
  have hO : ((List.range 48).map fun i => Value.int .u8 (m.ot i : Nat)).length = 48 := by simp
  have kN := lits_b48 d m.nx (fun i => (hk i).1)
  have kO := lits_b48 d m.ot (fun i => (hk i).2)
  generalize (List.range 48).map (fun i => Value.int .u8 (m.nx i : Nat)) = N at *
  generalize (List.range 48).map (fun i => Value.int .u8 (m.ot i : Nat)) = O at *
  unfold Program.keyLits
  rw [Tryz.underlying27]
  simp only [hlen, cells_mach, if_true, true_and]
  rw [if_pos (by decide +kernel)]
  rw [hc]
  simp only [List.mapM_cons, List.mapM_nil, cells_i64, cells_b48]
  have e0 : ([Value.int .i64 (a : Int)] ++ ([Value.int .i64 (b : Int)] ++ (N ++ O))).drop 2 = N ++ O := rfl
  have e1 : ([Value.int .i64 (a : Int)] ++ ([Value.int .i64 (b : Int)] ++ (N ++ O))).drop 50 = O := by
    show (N ++ O).drop 48 = O
    rw [List.drop_append_of_le_length (by omega), List.drop_of_length_le (by omega), List.nil_append]
  have e2 : (N ++ O).take 48 = N := by rw [List.take_append_of_le_length (by omega), List.take_of_length_le (by omega)]
  have e3 : O.take 48 = O := List.take_of_length_le (by omega)
  have e4 : (([Value.int .i64 (a : Int)] ++ ([Value.int .i64 (b : Int)] ++ (N ++ O))).drop 0).take 1 = [Value.int .i64 (a : Int)] := rfl
  have e5 : (([Value.int .i64 (a : Int)] ++ ([Value.int .i64 (b : Int)] ++ (N ++ O))).drop 1).take 1 = [Value.int .i64 (b : Int)] := rfl
  rw [e0, e1, e2, e3, e4, e5, lits_i64 _ a ha', lits_i64 _ b hb', kN, kO]
  simp [mlits]
theorem mlits_inj {a b a' b' : Nat} {m k : Mach} (ha : m.L = a) (hb : m.S = b) (ha' : k.L = a') (hb' : k.S = b') : mlits a b m = mlits a' b' k ↔ mcells m = mcells k := by
  constructor
  · intro h
    unfold mlits at h
    have l1 : (lit48 m.nx).length = 48 := rfl
    have l2 : (lit48 k.nx).length = 48 := rfl
    have h1 := List.append_inj h rfl
    have h2 := List.append_inj h1.2 rfl
    have h3 := List.append_inj h2.2 (by rw [l1, l2])
    have i1 := lit48_inj _ _ h3.1
    have i2 := lit48_inj _ _ h3.2
    have e1 : a = a' := by have := h1.1; simp at this; omega
    have e2 : b = b' := by have := h2.1; simp at this; omega
    unfold mcells
    congr 1
    apply List.map_congr_left
    intro i hi
    rw [List.mem_range] at hi
    unfold mf
    rw [ha, hb, ha', hb', e1, e2]
    split
    · rfl
    · split
      · rfl
      · split
        · rw [i1 _ (by omega)]
        · rw [i2 _ (by omega)]
  · intro h
    have g : ∀ i, i < 98 → mf m i = mf k i := fun i hi => by
      have := mcells_get m i hi
      rw [h, mcells_get k i hi] at this
      exact (Option.some.inj this).symm
    have e1 : a = a' := by have := g 0 (by omega); simp [mf, ha, ha'] at this; omega
    have e2 : b = b' := by have := g 1 (by omega); simp [mf, hb, hb'] at this; omega
    have i1 : ∀ i, i < 48 → m.nx i = k.nx i := fun i hi => by
      have := g (i + 2) (by omega)
      unfold mf at this
      rw [if_neg (by omega), if_neg (by omega), if_pos (by omega), if_neg (by omega), if_neg (by omega), if_pos (by omega)] at this
      simp at this
      omega
    have i2 : ∀ i, i < 48 → m.ot i = k.ot i := fun i hi => by
      have := g (i + 50) (by omega)
      unfold mf at this
      rw [if_neg (by omega), if_neg (by omega), if_neg (by omega), if_neg (by omega), if_neg (by omega), if_neg (by omega)] at this
      simp at this
      omega
    unfold mlits lit48
    rw [e1, e2]
    congr 3
    · congr 1
      apply List.map_congr_left
      intro i hi
      rw [List.mem_range] at hi
      unfold lrow3
      rw [i1 _ (by omega), i1 _ (by omega), i1 _ (by omega)]
    · congr 1
      apply List.map_congr_left
      intro i hi
      rw [List.mem_range] at hi
      unfold lrow3
      rw [i2 _ (by omega), i2 _ (by omega), i2 _ (by omega)]
/-- Two machines. -/
theorem eq_mach (w : World) (m k : Mach) (hm : m.Ok) (hk : k.Ok) (a b a' b' : Nat) (ha : m.L = a) (hb : m.S = b) (ha' : k.L = a') (hb' : k.S = b') (la : a < 1000000) (lb : b < 1000000) (la' : a' < 1000000) (lb' : b' < 1000000) (r : Bool) (hr : Tells r (mcells m = mcells k)) :
    (Op.equalIn 10000 27 (.agg (mcells m)) (.agg (mcells k))).run Tryz.prog w = .ok r w := by
  have hf : ∀ m : Mach, (Value.agg (mcells m)).formed Tryz.prog 27 = true := fun m => by
    simp [Value.formed, Tryz.underlying27, cells_mach, size_mcells]
  obtain ⟨q, hq, hi⟩ := run_equalIn_deep (P := Tryz.prog) 9995 5 27 key_mach w 4 4 _ _ _ _ (hf m) (hf k) (lits_mach 0 m hm a b ha hb la lb) (lits_mach 0 k hk a' b' ha' hb' la' lb')
  have e : q = r := by
    rw [Bool.eq_iff_iff, hi, hr.out, mlits_inj ha hb ha' hb']
  rw [← e]
  exact hq

section
variable {T : Tab}
/-- The machine of a state of a table. -/
theorem fin_lt (hT : T.Ok) {q : Nat} (hq : q < T.n) {s : Nat} (hs : s ∈ fin T (fix T) q) : s < T.n := (bfs_uniq hT (fun q hq => fix_lt q hq) q hq T.n).2 s hs
theorem gth_nx (hT : T.Ok) {q : Nat} (hq : q < T.n) (p : Nat) : (gth T (fix T) (fin T (fix T) q)).nx p ≤ (fin T (fix T) q).length ∧ (p / 3 < (fin T (fix T) q).length → p % 3 < T.L → (gth T (fix T) (fin T (fix T) q)).nx p < (fin T (fix T) q).length) := by
  have hp := fin_pos T (fix T) q
  unfold gth gthP
  dsimp only
  split
  · rename_i h
    have hi : p / 3 < (fin T (fix T) q).length := by omega
    have hs : (fin T (fix T) q).getD (p / 3) 0 ∈ fin T (fix T) q := by
      rw [List.getD_eq_getElem?_getD, List.getElem?_eq_getElem hi]; exact List.getElem_mem hi
    have := mem_idxOf_lt (fin_closed hT (c := fix T) (fun q hq => fix_lt q hq) hq _ hs (p % 3) h.2)
    exact ⟨Nat.le_of_lt this, fun _ _ => this⟩
  · rename_i h
    exact ⟨Nat.zero_le _, fun h1 h2 => absurd ⟨.inl h1, h2⟩ h⟩
theorem gth_ot (hT : T.Ok) {q : Nat} (hq : q < T.n) {N : Nat} (hN : 0 < N) (hot : ∀ q x, q < T.n → x < T.L → T.ot q x < N) (p : Nat) : (gth T (fix T) (fin T (fix T) q)).ot p < N := by
  unfold gth gthP
  dsimp only
  split
  · rename_i h
    refine hot _ _ ?_ h.2
    have hi : p / 3 < (fin T (fix T) q).length := by omega
    rw [List.getD_eq_getElem?_getD, List.getElem?_eq_getElem hi]
    exact fin_lt hT hq (List.getElem_mem hi)
  · exact hN
theorem fromM_ok (hT : T.Ok) {q : Nat} (hq : q < T.n) (hot : ∀ q x, q < T.n → x < T.L → T.ot q x < 256) : (fromM T q).Ok := by
  unfold fromM
  split
  · rename_i h
    intro p
    exact ⟨by have := (gth_nx hT hq p).1; omega, gth_ot hT hq (by omega) hot p⟩
  · exact fun p => ⟨by show 0 < 256; omega, by show 0 < 256; omega⟩
theorem fromM_L (T : Tab) (q : Nat) : ∃ a : Nat, (fromM T q).L = a ∧ a ≤ T.L := by
  unfold fromM; split
  · exact ⟨T.L, rfl, Nat.le_refl _⟩
  · exact ⟨0, rfl, Nat.zero_le _⟩
theorem fromM_S (T : Tab) (q : Nat) : ∃ a : Nat, (fromM T q).S = a ∧ a ≤ 16 := by
  unfold fromM; split
  · rename_i h; exact ⟨_, rfl, h⟩
  · exact ⟨0, rfl, Nat.zero_le _⟩
/-- .. is a machine, where the table's rows are permutations. -/
theorem fromM_good (hT : T.Ok) {q : Nat} (hq : q < T.n) (h2 : 2 ≤ T.L) (h3 : T.L ≤ 3) (hot : ∀ q x, q < T.n → x < T.L → T.ot q x < T.L) (hinj : ∀ q, q < T.n → ∀ y x, y < x → x < T.L → T.ot q y ≠ T.ot q x) (hc : fromC T q = 0) :
    ∃ s, Good (fromM T q) T.L s := by
  have h : (fin T (fix T) q).length ≤ 16 := by
    unfold fromC at hc
    split at hc
    · assumption
    · cases hc
  refine ⟨(fin T (fix T) q).length, ?_⟩
  have hg : fromM T q = gth T (fix T) (fin T (fix T) q) := by unfold fromM; rw [if_pos h]
  rw [hg]
  have hat : ∀ r, r < (fin T (fix T) q).length → (fin T (fix T) q).getD r 0 < T.n := fun r hr => by
    rw [List.getD_eq_getElem?_getD, List.getElem?_eq_getElem hr]
    exact fin_lt hT hq (List.getElem_mem hr)
  refine ⟨rfl, rfl, h2, h3, fin_pos _ _ _, h, ?_, ?_, ?_, ?_⟩
  · intro r x hr hx
    exact (gth_nx hT hq _).2 (by omega) (by omega)
  · intro r x hr hx
    exact gth_ot hT hq (by omega) hot _
  · intro r hr y x hy hx
    unfold gth gthP
    dsimp only
    rw [if_pos (by omega), if_pos (by omega), show (r * 3 + y) / 3 = r by omega, show (r * 3 + x) / 3 = r by omega, show (r * 3 + y) % 3 = y by omega, show (r * 3 + x) % 3 = x by omega]
    exact hinj _ (hat r hr) y x hy hx
  · intro r x hr hx hn
    unfold gth gthP
    dsimp only
    rw [if_neg (by omega), if_neg (by omega)]
    exact ⟨rfl, rfl⟩
theorem tabOf_ot {m : Mach} {l s : Nat} (g : Good m l s) : ∀ q x, q < (tabOf m l s).n → x < (tabOf m l s).L → (tabOf m l s).ot q x < (tabOf m l s).L := fun q x hq hx => g.ot q x hq hx
theorem tabOf_inj {m : Mach} {l s : Nat} (g : Good m l s) : ∀ q, q < (tabOf m l s).n → ∀ y x, y < x → x < (tabOf m l s).L → (tabOf m l s).ot q y ≠ (tabOf m l s).ot q x := fun q hq y x hy hx => g.inj q hq y x hy hx
end
end Go.Proofs.YthmcdfjijkecfaaGreat
