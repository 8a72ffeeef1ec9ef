/- What the proof of FnActions leans on, part 14 of 23. -/
import Derived.Test.YthmcdfjijkecfaaZFnActionsM
/- The program's groupOf. -/
namespace Go.Proofs.Ythmcdfjijkecfaa
open Go.RowKit
set_option linter.unusedVariables false
set_option linter.unusedSimpArgs false
-- @LONG

open Classical in
/-- Some list is no group word. -/
noncomputable def badGw (m : Mach) (g : List Int) : Bool := decide (¬ IsGw m g)
set_option maxHeartbeats 1000000 in
theorem gof1_any (b : Nat) (w : World) (m : Mach) (hk : m.Ok) (hm : MB w 27 b m) (base : Nat) (v : Value) (g : List Int) (h : Own w base 2 v (ints g)) (hl : g.length < 2000000) :
    Calls Try.prog 239 #[v, .pointer (some ⟨b, 0, none⟩)] w fun e w' => e = .returned (.bool (badGw m g)) ∧ Below w.heap.size w w' := by
  classical
  have hi := hid (IsGroupWord_any w m hk base v g h hl (decide (IsGw m g)) decide_eq_true_iff)
  have hb := hid (show badGw m g = !decide (IsGw m g) from by unfold badGw; simp)
  rw [hb.out]
  replace hm := hid hm
  clear h hb
  generalize decide (IsGw m g) = r at *
  go_enter Try.func239, Try.ntmps239
  go_wp2_with (first
    | ((with_reducible refine gate (N := 4) rfl ?_); refine load_mach rfl _ rfl b rfl m hm.out ?_)
    | (go_at_call 60; (with_reducible refine (hi.out).mono ?_); rintro e w1 ⟨rfl, hb⟩; have hB := hid hb; clear hb))
  go_ret
  exact ⟨rfl, hB.out⟩
set_option maxHeartbeats 1000000 in
set_option maxRecDepth 100000 in
theorem indexFuncM_gof (b : Nat) (w : World) (base : Nat) (v : Value) (M : List (List Int)) (h : Mat w base v M) (hl : M.length < 2000000) (p : List Int → Bool)
    (hcall : ∀ W, Below w.heap.size w W → ∀ r row, row ∈ M → Own W base 2 r (ints row) → Calls Try.prog 239 #[r, .pointer (some ⟨b, 0, none⟩)] W fun e w' => e = .returned (.bool (p row)) ∧ Below W.heap.size W w') :
    Calls Try.prog 216 #[v, .func (.func 239) #[] #[.pointer (some ⟨b, 0, none⟩)]] w fun e w' => e = .returned (.int .i64 (idxP p M 0)) ∧ Below w.heap.size w w' := by
  obtain ⟨rows, hO, hrl, hrow⟩ := h
  obtain ⟨A1, c1, rfl, _, _⟩ := hO.form
  rw [hrl] at hO ⊢
  have hcell := hid (fun (k : Nat) (x : List Int) (hx : M[k]? = some x) => (show ∃ g r, A1 = some ⟨g, 0, none⟩ ∧ ∀ W, Below w.heap.size w W → W.cell? ⟨g, k, none⟩ = some r ∧ Own W base 2 r (ints x) from by
    have hk := (List.getElem?_eq_some_iff.1 hx).1
    obtain ⟨g1, c2, he, _, hg1⟩ := hO.blk (fun e => by rw [e] at hrl; rw [← hrl] at hk; simp at hk)
    injection he with e1 e2 e3
    subst e1
    obtain ⟨r, hr⟩ : ∃ r, rows[k]? = some r := ⟨_, List.getElem?_eq_getElem (by rw [hrl]; exact hk)⟩
    exact ⟨g1, r, rfl, fun W hW => ⟨(hO.below hW).cellAt k _ hr, (hrow k r x hr hx).below hW⟩⟩))
  replace hcall := hid hcall
  clear hO hrow
  obtain ⟨R, hR⟩ : ∃ R, R = idxP p M 0 := ⟨_, rfl⟩
  rw [← hR]
  replace hR := hid hR
  generalize hn : M.length = n at *
  replace hn := hid hn
  go_enter Try.func216, Try.ntmps216
  go_wp2
  go_loopw [8] (fun i wr => ∃ k : Nat, k ≤ n ∧ i = .int .i64 k ∧ Hid (R = idxP p (M.drop k) k) ∧ Below w.heap.size w wr) (fun i _ => n - (intOf i).toNat)
  case atStart => exact ⟨0, Nat.zero_le _, rfl, hR, Below.refl _ _⟩
  case round =>
    obtain ⟨k, hk, rfl, hA, rB⟩ := hrel
    clear hR
    replace rB := hid rB
    by_cases hlt : k < n
    · obtain ⟨x, hx⟩ : ∃ x, M[k]? = some x := ⟨_, List.getElem?_eq_getElem (by rw [hn.out]; exact hlt)⟩
      obtain ⟨g, r, rfl, hc⟩ := hcell.out k x hx
      have d1 := (hc wr rB.out).1
      have hcl := hid (hcall.out wr rB.out r x (List.mem_of_getElem? hx) (hc wr rB.out).2)
      have hT := hid (fun hp => idxP_drop_t (p := p) hx hp k)
      have hF := hid (fun hp => idxP_drop_f (p := p) hx hp k)
      clear hc hx
      cases hp : p x with
      | true =>
        rw [hp] at hcl
        have hA2 := hid (hA.out.trans (hT.out hp))
        clear hp hT hF
        go_wp2_with (first
          | (go_at_call 239; (with_reducible refine (hcl.out).mono ?_); rintro e w1 ⟨rfl, hb⟩; replace rB := hid (rB.out.trans (hb.mono rB.out.size)); clear hb))
        go_ret
        exact ⟨retI (by rw [hA2.out]), rB.out⟩
      | false =>
        rw [hp] at hcl
        have hA2 := hid (hA.out.trans (hF.out hp))
        clear hp hT hF
        go_wp2_with (first
          | (go_at_call 239; (with_reducible refine (hcl.out).mono ?_); rintro e w1 ⟨rfl, hb⟩; replace rB := hid (rB.out.trans (hb.mono rB.out.size)); clear hb))
        go_roundw
        case rel => exact ⟨k + 1, by omega, by go_num, hA2, rB.out⟩
        case measure => simp [intOf]; omega
    · obtain rfl : k = n := by omega
      have hA2 := hid (hA.out.trans (show _ = (-1 : Int) by rw [List.drop_eq_nil_of_le (by rw [hn.out]; exact Nat.le_refl _)]; rfl))
      go_wp2
      go_ret
      exact ⟨retI (by rw [hA2.out]), rB.out⟩
set_option maxHeartbeats 1000000 in
theorem containsFuncM_gof (b : Nat) (w : World) (base : Nat) (v : Value) (M : List (List Int)) (h : Mat w base v M) (hl : M.length < 2000000) (p : List Int → Bool)
    (hcall : ∀ W, Below w.heap.size w W → ∀ r row, row ∈ M → Own W base 2 r (ints row) → Calls Try.prog 239 #[r, .pointer (some ⟨b, 0, none⟩)] W fun e w' => e = .returned (.bool (p row)) ∧ Below W.heap.size W w') :
    Calls Try.prog 224 #[v, .func (.func 239) #[] #[.pointer (some ⟨b, 0, none⟩)]] w fun e w' => e = .returned (.bool (M.any p)) ∧ Below w.heap.size w w' := by
  have hi := hid (indexFuncM_gof b w base v M h hl p hcall)
  have ha := hid (idxP_any p M 0 (Int.le_refl _))
  clear hcall h hl
  generalize idxP p M 0 = r at *
  generalize M.any p = c at *
  go_enter Try.func224, Try.ntmps224
  go_wp2_with (first
    | (go_at_call 216; (with_reducible refine (hi.out).mono ?_); rintro e w1 ⟨rfl, hb⟩; replace hb := hid hb))
  go_ret
  refine ⟨retB ?_, hb.out⟩
  have h := ha.out
  rw [Bool.eq_iff_iff, ← h]
  simp

set_option maxHeartbeats 2000000 in
set_option maxRecDepth 4000 in
/-- No group. -/
theorem groupOf_n (w : World) (m : Mach) (hk : m.Ok) (base : Nat) (v : Value) (M : List (List Int)) (h : Mat w base v M) (hl : M.length < 2000000) (hlr : ∀ row ∈ M, row.length < 2000000) (hbad : ¬ IsM m ∨ ∃ row ∈ M, ¬ IsGw m row) :
    Calls Try.prog 167 #[.agg (mcells m), v] w fun e w' => e = .returned (.tuple #[.pointer none, .int .i64 1]) ∧ Below w.heap.size w w' := by
  have hS := hid ((St.start w).newMB m 27)
  have hmf : ∀ (fn : Fn) (first cap : Array Value) (w : World), (Instr.makeFunc fn first cap).run Try.prog w = .ok (.func fn first cap) w := fun _ _ _ _ => rfl
  by_cases hm : IsM m
  · have hi := hid (fun W => IsMachine_any W m hk true ⟨fun _ => hm, fun _ => rfl⟩)
    have hany : M.any (badGw m) = true := by
      obtain ⟨row, hr, hb⟩ := hbad.resolve_left (fun h => h hm)
      rw [List.any_eq_true]
      exact ⟨row, hr, by unfold badGw; simpa using hb⟩
    have hc := hid (fun W (hW : Below w.heap.size w W) (hmb : MB W 27 w.heap.size m) => (by
      have h1 := containsFuncM_gof w.heap.size W base v M (h.below hW) hl (badGw m) (fun W' hW' r row hr hO => gof1_any w.heap.size W' m hk (hmb.below hW' hmb.lt) base r row hO (hlr row hr))
      rw [hany] at h1; exact h1 : Calls Try.prog 224 #[v, .func (.func 239) #[] #[.pointer (some ⟨w.heap.size, 0, none⟩)]] W fun e w' => e = .returned (.bool true) ∧ Below W.heap.size W w'))
    replace hk := hid hk; replace h := hid h; clear hbad hany hm
    go_enter Try.func167, Try.ntmps167
    go_wp2_with (first
      | ((with_reducible refine gate (N := 6) rfl ?_); refine load_mach rfl _ rfl w.heap.size rfl m hS.out.m0 ?_)
      | (go_at_call 77; (with_reducible refine (hi.out _).mono ?_); rintro e w1 ⟨rfl, hb⟩; replace hS := hid (hS.out.call hb); clear hb)
      | (go_at_call 224; (with_reducible refine (hc.out _ hS.out.bel hS.out.m0).mono ?_); rintro e w2 ⟨rfl, hb⟩; replace hS := hid (hS.out.call hb); clear hb))
    go_ret2
    exact ⟨rfl, hS.out.bel⟩
  · have hi := hid (fun W => IsMachine_any W m hk false ⟨fun h => (by cases h), fun h => absurd h hm⟩)
    replace hk := hid hk; replace h := hid h; clear hbad hm
    go_enter Try.func167, Try.ntmps167
    go_wp2_with (first
      | ((with_reducible refine gate (N := 6) rfl ?_); refine load_mach rfl _ rfl w.heap.size rfl m hS.out.m0 ?_)
      | (go_at_call 77; (with_reducible refine (hi.out _).mono ?_); rintro e w1 ⟨rfl, hb⟩; replace hS := hid (hS.out.call hb); clear hb))
    go_ret2
    exact ⟨rfl, hS.out.bel⟩

set_option maxHeartbeats 2000000 in
set_option maxRecDepth 4000 in
/-- The group. -/
theorem groupOf_y (w : World) (m : Mach) (hk : m.Ok) (base : Nat) (v : Value) (M : List (List Int)) (h : Mat w base v M) (hl : M.length < 2000000) (hlr : ∀ row ∈ M, row.length < 2000000) (l s : Nat) (g : Good m l s) (hall : ∀ row ∈ M, IsGw m row) :
    Calls Try.prog 167 #[.agg (mcells m), v] w fun e w' => ∃ G v1 v2, e = .returned (.tuple #[.pointer (some ⟨G, 0, none⟩), .int .i64 0]) ∧ w.heap.size ≤ G ∧ GrB w' G w.heap.size m l s v1 v2 ∧ Below w.heap.size w w' := by
  have hS := hid ((St.start w).newMB m 27)
  have hmf : ∀ (fn : Fn) (first cap : Array Value) (w : World), (Instr.makeFunc fn first cap).run Try.prog w = .ok (.func fn first cap) w := fun _ _ _ _ => rfl
  have hi := hid (fun W => IsMachine_any W m hk true ⟨fun _ => g.isM, fun _ => rfl⟩)
  have hany : M.any (badGw m) = false := by
    rw [List.any_eq_false]
    intro row hr
    unfold badGw; simpa using hall row hr
  have hc := hid (fun W (hW : Below w.heap.size w W) (hmb : MB W 27 w.heap.size m) => (by
    have h1 := containsFuncM_gof w.heap.size W base v M (h.below hW) hl (badGw m) (fun W' hW' r row hr hO => gof1_any w.heap.size W' m hk (hmb.below hW' hmb.lt) base r row hO (hlr row hr))
    rw [hany] at h1; exact h1 : Calls Try.prog 224 #[v, .func (.func 239) #[] #[.pointer (some ⟨w.heap.size, 0, none⟩)]] W fun e w' => e = .returned (.bool false) ∧ Below W.heap.size W w'))
  have hng := hid (fun W => newGroup_any W m hk l s g)
  replace hk := hid hk; replace h := hid h; replace g := hid g; clear hall hany
  go_enter Try.func167, Try.ntmps167
  go_wp2_with (first
    | ((with_reducible refine gate (N := 6) rfl ?_); refine load_mach rfl _ rfl w.heap.size rfl m hS.out.m0 ?_)
    | ((with_reducible refine gate (N := 14) rfl ?_); refine load_mach rfl _ rfl w.heap.size rfl m hS.out.m0 ?_)
    | (go_at_call 77; (with_reducible refine (hi.out _).mono ?_); rintro e w1 ⟨rfl, hb⟩; replace hS := hid (hS.out.call hb); clear hb)
    | (go_at_call 224; (with_reducible refine (hc.out _ hS.out.bel hS.out.m0).mono ?_); rintro e w2 ⟨rfl, hb⟩; replace hS := hid (hS.out.call hb); clear hb)
    | (go_at_call 240; (with_reducible refine (hng.out _).mono ?_); rintro e w3 ⟨G, v1, v2, rfl, hle, hGB, hb⟩; have hle2 := hid (Nat.le_trans hS.out.le hle); have hGB2 := hid (GrB.mk hGB.blk (hGB.of.mono hS.out.le) (hGB.tr.mono hS.out.le)); replace hS := hid (hS.out.call hb); clear hb hle hGB))
  go_ret2
  exact ⟨G, v1, v2, rfl, hle2.out, hGB2.out, hS.out.bel⟩
end Go.Proofs.Ythmcdfjijkecfaa

/- The reference's machines with any number of states. -/
namespace Go.Proofs.Ythmcdfjijkecfaa
open Go.RowKit
set_option linter.unusedVariables false
set_option linter.unusedSimpArgs false

/-- An element of several cells appended, at a step of a region that draws: it lies in a box. -/
theorem St.stepN {ops : Array Oper} {o : Oper} {act : Act} {W w0 : World} {K : Act → World → Prop} {Q : Exit → Act → World → Prop} {E : Prop} {L : List Asn} {base : Nat} (t e tb : TypeId) (z : Value) (sz bytes : Nat)
    (ht : Try.prog.underlying t = some (.slice e)) (hinfo : (Try.prog.info? e).map (fun i => (i.zero, i.size, i.bytes)) = some (some z, sz, bytes)) (hz : z.cells.size = sz) (hsz : 0 < sz) (hb : bytes ≤ 64)
    (hgd : o.guard = none) (s x : Operand) (ho : o.op = .call { callee := .builtin .append, args := #[s, x], argTypes := #[t, t] })
    (v : Value) (n : Nat) (cs : List Value) (hs : act.eval s = v) {B : Nat} {news : List Value} (hS : St base w0 (Asn.ownN base e sz v n cs :: Asn.blk B news.toArray tb :: L) W) (hnl : news.length = sz) (hc1 : ∀ u ∈ news, u.oneCell' = true)
    (hx : act.eval x = .slice (some ⟨B, 0, none⟩) 1 1) (hlen : n ≤ 1000000)
    (h : ∀ g cap w', St base w0 (Asn.ownN base e sz (.slice (some ⟨g, 0, none⟩) (n + 1) cap) (n + 1) (cs ++ news) :: Asn.blk B news.toArray tb :: L) w' → K (act.put o.dst (.slice (some ⟨g, 0, none⟩) (n + 1) cap)) w') :
    if Region.wanted o (yielded ops act.tmps) = true then Oper.wp Try.prog o act W K Q else E := by
  obtain ⟨i, hi, hz0, hz1, hz2⟩ := info_parts hinfo
  have hw : Region.wanted o (yielded ops act.tmps) = true := by simp [Region.wanted, hgd]
  rw [if_pos hw]
  have hown : OwnN W base e sz v n cs := hS.star.1
  refine wp_append_lies W s x t ho base e i z sz bytes ht hi hz0 hz1 hz2 hz hsz v n cs hs hown ⟨B, 0, none⟩ 1 1 news hx (by rw [hnl, Nat.one_mul])
    (fun j u hu => ?_) hc1 (by omega) (by simp only [maxLen]; omega) (Nat.le_trans (Nat.mul_le_mul_left _ hb) (by omega)) hS.le _ rfl ?_
  · rw [Addr.add_mid, Nat.zero_add, cell_of_row W B j _ _ _ hS.star.2.2.1]
    simpa using hu
  · intro g cap w' h1 h2 h3 h4
    have hold : ∀ k, k < W.heap.size → v.ownBlock ≠ some k → w'.heap[k]? = W.heap[k]? := fun k hk hne => h2.block k hk (fun e => hne e.symm)
    exact h g cap w' (hS.appdN h1 ⟨h2.os, h2.tape, h2.output, h2.size, fun k hk => hold k (by have := hS.le; omega) (fun e => by have := (hown.lt k e).1; omega)⟩ hold (h3.imp id (fun e => Nat.le_of_eq e.symm)))

theorem OwnN.oneCell {w : World} {b e sz n : Nat} {v : Value} {cs : List Value} (h : OwnN w b e sz v n cs) : v.oneCell' = true := by
  rcases h.2 with ⟨rfl, _⟩ | ⟨g, cap, cur, rfl, _⟩ <;> rfl
/-- A struct or an array in a block of its own is handed back. -/
theorem ret_blk {P : Program} {fn : Func} {R : Ending → World → Prop} {a : Act} {w : World} {p ty : Nat} (h : fn.results = #[.cell p ty]) {g t : Nat} {cs : Array Value} {d : TypeDesc}
    (hp : a.tmps.getD p undef = .pointer (some ⟨g, 0, none⟩)) (hb : w.heap[g]? = some (.cells cs t (0, 0))) (hu : P.underlying ty = some d) (hd : (match d with | .struct _ | .array _ _ => true | _ => false) = true)
    (hi : (P.info? ty).map (·.size) = some cs.size) (hdf : a.defers = []) (hR : R (.returned (.agg cs)) w) : bodyPost P fn R .ret a w :=
  bodyPost_ret (results_cell_row h a.tmps w g t _ _ d hp hb hu hd hi) hdf hR

/-- The rows of a function as cells, three a row. -/
def rcs (k : IntKind) (f : Nat → Nat → Nat) (L n : Nat) : List Value := (List.range (n * 3)).map fun p => .int k ((if p % 3 < L then f (p / 3) (p % 3) else 0 : Nat) : Int)
def rc1 (k : IntKind) (f : Nat → Nat → Nat) (L q : Nat) : List Value := (List.range 3).map fun x => .int k ((if x < L then f q x else 0 : Nat) : Int)
theorem rcs_length (k : IntKind) (f : Nat → Nat → Nat) (L n : Nat) : (rcs k f L n).length = n * 3 := by simp [rcs]
theorem rc1_one (k : IntKind) (f : Nat → Nat → Nat) (L q : Nat) : ∀ u ∈ rc1 k f L q, u.oneCell' = true := by
  intro u hu
  obtain ⟨x, _, rfl⟩ := List.mem_map.1 hu
  rfl
theorem rc1_lit (k : IntKind) (f : Nat → Nat → Nat) (L q : Nat) : ∃ a b c : Nat, rc1 k f L q = [.int k (a : Int), .int k (b : Int), .int k (c : Int)] := ⟨_, _, _, rfl⟩
theorem rc1_get (k : IntKind) (f : Nat → Nat → Nat) (L q x : Nat) (hx : x < 3) : (rc1 k f L q)[x]? = some (.int k ((if x < L then f q x else 0 : Nat) : Int)) := by simp [rc1, hx]
theorem rcs_snoc (k : IntKind) (f : Nat → Nat → Nat) (L n : Nat) : rcs k f L (n + 1) = rcs k f L n ++ rc1 k f L n := by
  unfold rcs rc1
  rw [show (n + 1) * 3 = n * 3 + 3 by omega, List.range_add, List.map_append, List.map_map]
  congr 1
  apply List.map_congr_left
  intro x hx
  have hx3 := List.mem_range.1 hx
  simp only [Function.comp]
  rw [show (n * 3 + x) % 3 = x by omega, show (n * 3 + x) / 3 = n by omega]
theorem rcs_get (k : IntKind) (f : Nat → Nat → Nat) (L n q x : Nat) (hq : q < n) (hx : x < 3) : (rcs k f L n)[q * 3 + x]? = some (.int k ((if x < L then f q x else 0 : Nat) : Int)) := by
  unfold rcs
  rw [List.getElem?_map, List.getElem?_range (by omega), Option.map_some, show (q * 3 + x) % 3 = x by omega, show (q * 3 + x) / 3 = q by omega]
theorem rcs_row (k : IntKind) (f : Nat → Nat → Nat) (L n q : Nat) (hq : q < n) : ∀ j, j < (rc1 k f L q).length → (rcs k f L n)[q * 3 + j]? = (rc1 k f L q)[j]? := fun j hj => by
  have hj3 : j < 3 := by simpa [rc1] using hj
  rw [rcs_get k f L n q j hq hj3, rc1_get k f L q j hj3]
theorem rcs_in (k : IntKind) (f : Nat → Nat → Nat) (L n q x : Nat) (hq : q < n) (hx : x < L) (hL : L ≤ 3) : (rcs k f L n)[q * 3 + x]? = some (.int k (f q x : Nat)) := by
  rw [rcs_get k f L n q x hq (by omega), if_pos hx]

theorem info_r3 : (Try.prog.info? 226).map (fun i => (i.zero, i.size, i.bytes)) = some (some (.agg #[.int .i64 0, .int .i64 0, .int .i64 0]), 3, 24) := by kernel_rfl
theorem info_b3 : (Try.prog.info? 24).map (fun i => (i.zero, i.size, i.bytes)) = some (some (.agg #[.int .u8 0, .int .u8 0, .int .u8 0]), 3, 3) := by kernel_rfl
theorem sz_r3 : (Try.prog.info? 226).map (·.size) = some 3 := by kernel_rfl
theorem sz_large : (Try.prog.info? 225).map (·.size) = some 3 := by kernel_rfl

/-- A large machine as a value: what it holds. -/
def LG (w : World) (base : Nat) (vN vO : Value) (T : Tab) : Prop :=
  OwnN w base 226 3 vN T.n (rcs .i64 T.nx T.L T.n) ∧ OwnN w base 24 3 vO T.n (rcs .u8 T.ot T.L T.n)
theorem LG.below {w w' : World} {base : Nat} {vN vO : Value} {T : Tab} (h : LG w base vN vO T) (hb : Below w.heap.size w w') : LG w' base vN vO T :=
  ⟨h.1.keep fun k hk => hb.block k (h.1.lt k hk).2, h.2.keep fun k hk => hb.block k (h.2.lt k hk).2⟩

/-- A row that is filled. -/
def fil3 (f : Nat → Nat → Nat) (q x : Nat) : Array Value := #[.int .i64 ((if 0 < x then f q 0 else 0 : Nat) : Int), .int .i64 ((if 1 < x then f q 1 else 0 : Nat) : Int), .int .i64 ((if 2 < x then f q 2 else 0 : Nat) : Int)]
theorem fil3_set (f : Nat → Nat → Nat) (q x : Nat) (hx : x < 3) : (fil3 f q x).setIfInBounds x (.int .i64 (f q x : Nat)) = fil3 f q (x + 1) := by
  have : x = 0 ∨ x = 1 ∨ x = 2 := by omega
  rcases this with rfl | rfl | rfl <;> simp [fil3, Array.setIfInBounds]
theorem fil3_all (f : Nat → Nat → Nat) (q L : Nat) : fil3 f q L = (rc1 .i64 f L q).toArray := rfl
theorem fil3_get (f : Nat → Nat → Nat) (q x j : Nat) (hj : j < 3) : ∃ u, (fil3 f q x)[j]? = some u := ⟨_, Array.getElem?_eq_getElem (by simpa [fil3] using hj)⟩

theorem mf_row {m : Mach} {l s : Nat} (g : Good m l s) (q : Nat) (hq : q < s) : ∀ j, j < 3 → mf m (50 + q * 3 + j) = .int .u8 ((if j < l then (tabOf m l s).ot q j else 0 : Nat) : Int) := fun j hj => by
  rw [mf_ot]
  by_cases h : j < l
  · rw [if_pos h]; rfl
  · rw [if_neg h, (g.z q j (by have := g.s16; omega) hj (fun hh => h hh.2)).2]

set_option maxHeartbeats 4000000 in
set_option maxRecDepth 100000 in
theorem l07Of_any (w : World) (m : Mach) (l s : Nat) (g : Good m l s) :
    Calls Try.prog 253 #[.agg (mcells m)] w fun e w' => ∃ vN vO, e = .returned (.agg #[.int .i64 l, vN, vO]) ∧ LG w' w.heap.size vN vO (tabOf m l s) ∧ Below w.heap.size w w' := by
  have gL := hid g.L
  have gS := hid g.S
  have l2 := g.l2
  have l3 := g.l3
  have s16 := g.s16
  have hcn := hid (fun W (hW : MB W 27 w.heap.size m) q x (hq : q < s) (hx : x < l) => (show W.cell? ⟨w.heap.size, 2 + q * 3 + x, none⟩ = some (.int .u8 ((tabOf m l s).nx q x : Nat)) from hW.cnx q x (by omega) (by omega)))
  have hrg := hid (fun W (hW : MB W 27 w.heap.size m) q (hq : q < s) => (show W.rangeAt w.heap.size (50 + q * 3) (rc1 .u8 (tabOf m l s).ot l q) from fun j u hu => by
    have hj : j < 3 := by have h := (List.getElem?_eq_some_iff.1 hu).1; simpa [rc1] using h
    rw [rc1_get _ _ _ _ _ hj] at hu
    have h1 := World.rowIs.cell hW (i := 50 + q * 3 + j) (by omega)
    rw [mf_row g q hq j hj] at h1
    rw [h1, ← hu]))
  have hnx := hid (fun q x (hq : q < s) (hx : x < l) => (show (tabOf m l s).nx q x < 256 from by have := g.nx q x hq hx; show m.nx _ < 256; omega))
  have hTn := hid (show (tabOf m l s).n = s from rfl)
  have hTL := hid (show (tabOf m l s).L = l from rfl)
  have hS := hid (((((St.start w).newMB m 27).newBlk #[.int .i64 0, .slice none 0 0, .slice none 0 0] 225).newBlk #[.int .i64 (l : Int), .slice none 0 0, .slice none 0 0] 225).nilN 24 3)
  replace hS := hid (hS.out.nilN 226 3)
  simp only [heap_alloc_size] at hS
  have cL := hid ((MB.new w m 27).alloc (.cells #[.int .i64 0, .slice none 0 0, .slice none 0 0] 225))
  have cL2 := cL.out.cL
  rw [gL.out] at cL2
  clear cL
  replace g := hid g
  generalize tabOf m l s = T at *
  generalize mcells m = mc at *
  go_enter Try.func253, Try.ntmps253
  go_wp2
  clear cL2
  go_loopw [4] (fun i wr => ∃ q : Nat, q ≤ s ∧ i = .int .i64 q ∧ ∃ vN vO, St w.heap.size w [Asn.ownN w.heap.size 226 3 vN q (rcs .i64 T.nx l q), Asn.ownN w.heap.size 24 3 vO q (rcs .u8 T.ot l q), Asn.blk (w.heap.size + 1 + 1) #[.int .i64 (l : Int), vN, vO] 225, Asn.blk (w.heap.size + 1) #[.int .i64 0, .slice none 0 0, .slice none 0 0] 225, Asn.mb 27 w.heap.size m] wr) (fun i _ => s - (intOf i).toNat)
  case atStart => exact ⟨0, Nat.zero_le _, rfl, _, _, hS.out⟩
  case round =>
    obtain ⟨q, hq, rfl, vN, vO, rS⟩ := hrel
    clear hS
    have cS := rS.m4.cS
    rw [gS.out] at cS
    replace rS := hid rS
    by_cases hqs : q < s
    · have dq : decide ((q : Int) < (s : Int)) = true := decide_eq_true (by omega)
      go_wp2
      have yS := hid (show St w.heap.size w (Asn.blk wr.heap.size (fil3 T.nx q 0) 226 :: _) _ from rS.out.newBlk #[.int .i64 0, .int .i64 0, .int .i64 0] 226)
      have hbn2 : w.heap.size ≤ wr.heap.size := rS.out.le
      clear rS cS
      generalize wr.alloc (.cells #[.int .i64 0, .int .i64 0, .int .i64 0] 226) = wa at *
      generalize wr.heap.size = bn at *
      go_loopw [6] (fun i wr => ∃ x : Nat, x ≤ l ∧ i = .int .i64 x ∧ St w.heap.size w [Asn.blk bn (fil3 T.nx q x) 226, Asn.ownN w.heap.size 226 3 vN q (rcs .i64 T.nx l q), Asn.ownN w.heap.size 24 3 vO q (rcs .u8 T.ot l q), Asn.blk (w.heap.size + 1 + 1) #[.int .i64 (l : Int), vN, vO] 225, Asn.blk (w.heap.size + 1) #[.int .i64 0, .slice none 0 0, .slice none 0 0] 225, Asn.mb 27 w.heap.size m] wr) (fun i _ => l - (intOf i).toNat)
      case atStart => exact ⟨0, Nat.zero_le _, rfl, yS.out⟩
      case round =>
        obtain ⟨x, hx, rfl, zS⟩ := hrel
        clear yS
        have cL := zS.m5.cL
        rw [gL.out] at cL
        replace zS := hid zS
        by_cases hxl : x < l
        · have dx : decide ((x : Int) < (l : Int)) = true := decide_eq_true (by omega)
          have c1 := hcn.out wr zS.out.m5 q x hqs hxl
          have hlt := hnx.out q x hqs hxl
          have hset := hid (fil3_set T.nx q x (by omega))
          obtain ⟨u, hu⟩ := fil3_get T.nx q x x (by omega)
          have co : wr.cell? ⟨bn, x, none⟩ = some u := (cell_of_row _ _ x _ _ _ zS.out.k0).trans hu
          have fo := frozen_of_row _ _ x _ _ zS.out.k0
          clear hu
          generalize T.nx q x = v at *
          have zS2 := hid (zS.out.setBlk hbn2 x (.int .i64 (v : Int)))
          rw [hset.out] at zS2
          go_wp2
          go_roundw
          case rel => exact ⟨x + 1, by omega, by go_num, zS2.out⟩
          case measure => simp [intOf]; omega
        · obtain rfl : l = x := by omega
          rw [fil3_all] at zS
          have cb1 : wr.cell? ⟨w.heap.size + 1 + 1, 1, none⟩ = some vN := cell_of_row _ _ 1 _ _ _ zS.out.k3
          have rg := hid (show wr.rangeAt bn 0 (rc1 .i64 T.nx l q) from fun j u hu => by rw [Nat.zero_add, cell_of_row _ _ j _ _ _ zS.out.k0]; simpa using hu)
          have hl1 := hid (show (rc1 .i64 T.nx l q).length = 3 by simp [rc1])
          have hl2 := hid (show (rc1 .u8 T.ot l q).length = 3 by simp [rc1])
          have ho1 := hid (rc1_one .i64 T.nx l q)
          have ho2 := hid (rc1_one .u8 T.ot l q)
          have hs1 := hid (rcs_snoc .i64 T.nx l q)
          have hs2 := hid (rcs_snoc .u8 T.ot l q)
          obtain ⟨a0, a1, a2, hr1⟩ := rc1_lit .i64 T.nx l q
          obtain ⟨b0, b1, b2, hr2⟩ := rc1_lit .u8 T.ot l q
          rw [hr1] at hl1 ho1 hs1 rg zS
          rw [hr2] at hl2 ho2 hs2
          replace hr1 := hid hr1; replace hr2 := hid hr2
          go_upto_region 11 with (first
            | ((with_reducible refine gate (N := 34) rfl ?_); refine wpList_load_mid rfl 226 _ rfl bn 0 rfl _ _ rg.out Try.underlying226 rfl (by rw [hl1.out]; exact sz_r3) ?_)
            | ((with_reducible refine gate (N := 36) rfl ?_); refine St.appNw 222 226 _ 3 24 Try.underlying222 info_r3 rfl (by omega) (by omega) rfl _ _ rfl vN q _ rfl zS.out.f1 [.int .i64 (a0 : Int), .int .i64 (a1 : Int), .int .i64 (a2 : Int)] hl1.out ho1.out rfl (by omega) ?_; intro gn cn w4 zS'; replace zS := hid zS'.f1.drop.f2; clear zS' cb1 rg; have cb2 := cell_of_row _ _ 1 _ _ _ zS.out.k0; have f2 := frozen_of_row _ _ 1 _ _ zS.out.k0))
          clear cb2 f2
          replace zS := hid (show St w.heap.size w (Asn.blk (w.heap.size + 1 + 1) #[.int .i64 (l : Int), .slice (some ⟨gn, 0, none⟩) (q + 1) cn, vO] 225 :: _) _ from zS.out.setBlk (by omega) 1 (.slice (some ⟨gn, 0, none⟩) (q + 1) cn))
          rw [← hs1.out] at zS
          generalize w4.setCell ⟨w.heap.size + 1 + 1, 1, none⟩ (.slice (some ⟨gn, 0, none⟩) (q + 1) cn) = w5 at *
          replace zS := hid zS.out.drew
          have hrg2 := hid (fun (W : World) hW => (show W.rangeAt w.heap.size (50 + q * 3) [.int .u8 (b0 : Int), .int .u8 (b1 : Int), .int .u8 (b2 : Int)] from by have h := hrg.out W hW q hqs; rw [hr2.out] at h; exact h))
          have hT0 : w5.drew.cell? ⟨w.heap.size + 1 + 1, 2, none⟩ = some vO ∧ w5.drew.rangeAt w.heap.size (50 + q * 3) [.int .u8 (b0 : Int), .int .u8 (b1 : Int), .int .u8 (b2 : Int)] := ⟨cell_of_row _ _ 2 _ _ _ zS.out.k0, hrg2.out _ zS.out.m4⟩
          refine wp_region_heldL (L := [(9, (fun w' : World => w'.cell? ⟨w.heap.size + 1 + 1, 2, none⟩ = some vO ∧ w'.rangeAt w.heap.size (50 + q * 3) [.int .u8 (b0 : Int), .int .u8 (b1 : Int), .int .u8 (b2 : Int)]))]) (by kernel_rfl) (HeldL.cons (fun _ => hT0) HeldL.nil) (fun hHeld => ?_)
          clear hT0
          generalize w5.drew = wa at *
          have hq0 : (0 : Int) ≤ (q : Int) := Int.natCast_nonneg _
          have hq1 : (q : Int) < 16 := by omega
          refine wpAnyL_take0 (i := 0) (v := ?_) rfl (by kernel_rfl) (by kernel_rfl) (by kernel_rfl) (by rfl) (fun _ _ _ h => h) (Or.inl ⟨by rfl, ?_⟩) (by assumption) ?_
          rotate_left
          · (intro W _; go_simp; (with_reducible rfl))
          intro hHeld'
          clear hHeld; have hHeld := hHeld'; clear hHeld'
          try simp only [Act.put, List.setIfInBounds_toArray, List.set_cons_zero, List.set_cons_succ]
          refine wpAnyL_takeP (i := 1) 9 [] (v := ?_) (fun w' : World => w'.cell? ⟨w.heap.size + 1 + 1, 2, none⟩ = some vO ∧ w'.rangeAt w.heap.size (50 + q * 3) [.int .u8 (b0 : Int), .int .u8 (b1 : Int), .int .u8 (b2 : Int)]) rfl (by kernel_rfl) (by kernel_rfl) (by kernel_rfl) (by rfl) (by kernel_rfl) (by simp) (fun _ _ _ h => h) (Or.inl ⟨by rfl, ?_⟩) (by assumption) ?_
          rotate_left
          · (intro W hW; (obtain ⟨h1, h2⟩ := hW); go_simp; (with_reducible rfl))
          intro hHeld'
          clear hHeld; have hHeld := hHeld'; clear hHeld'
          try simp only [Act.put, List.setIfInBounds_toArray, List.set_cons_zero, List.set_cons_succ]
          refine wpAnyL_take0 (i := 2) (v := ?_) rfl (by kernel_rfl) (by kernel_rfl) (by kernel_rfl) (by rfl) (fun _ _ _ h => h) (Or.inl ⟨by rfl, ?_⟩) (by assumption) ?_
          rotate_left
          · (intro W _; go_simp; (with_reducible rfl))
          intro hHeld'
          clear hHeld; have hHeld := hHeld'; clear hHeld'
          try simp only [Act.put, List.setIfInBounds_toArray, List.set_cons_zero, List.set_cons_succ]
          refine wpAnyL_take0 (i := 3) (v := ?_) rfl (by kernel_rfl) (by kernel_rfl) (by kernel_rfl) (by rfl) (fun _ _ _ h => h) (Or.inl ⟨by rfl, ?_⟩) (by assumption) ?_
          rotate_left
          · (intro W _; go_simp; (with_reducible rfl))
          intro hHeld'
          clear hHeld; have hHeld := hHeld'; clear hHeld'
          try simp only [Act.put, List.setIfInBounds_toArray, List.set_cons_zero, List.set_cons_succ]
          refine wpAnyL_take0 (i := 4) (v := ?_) rfl (by kernel_rfl) (by kernel_rfl) (by kernel_rfl) (by rfl) (fun _ _ _ h => h) (Or.inl ⟨by rfl, ?_⟩) (by assumption) ?_
          rotate_left
          · (intro W _; go_simp; (with_reducible rfl))
          intro hHeld'
          clear hHeld; have hHeld := hHeld'; clear hHeld'
          try simp only [Act.put, List.setIfInBounds_toArray, List.set_cons_zero, List.set_cons_succ]
          refine wpAnyL_takeP (i := 5) 9 [] (v := (.agg #[.int .u8 (b0 : Int), .int .u8 (b1 : Int), .int .u8 (b2 : Int)])) (fun w' : World => w'.cell? ⟨w.heap.size + 1 + 1, 2, none⟩ = some vO ∧ w'.rangeAt w.heap.size (50 + q * 3) [.int .u8 (b0 : Int), .int .u8 (b1 : Int), .int .u8 (b2 : Int)]) rfl (by kernel_rfl) (by kernel_rfl) (by kernel_rfl) (by rfl) (by kernel_rfl) (by simp) (fun _ _ _ h => h) (Or.inl ⟨by rfl, ?_⟩) (by assumption) ?_
          · (intro W hW; exact exec_load _ rfl rfl (run_loadVar_mid _ _ _ _ _ _ hW.2 Try.underlying24 rfl (by rw [hl2.out]; exact sz_b3)))
          intro hHeld'
          clear hHeld; have hHeld := hHeld'; clear hHeld'
          try simp only [Act.put, List.setIfInBounds_toArray, List.set_cons_zero, List.set_cons_succ]
          refine wpAnyL_ready (rs := [6]) (by kernel_rfl) (by simp) ?_
          refine AllReadyL.cons rfl (fun K hK => ?_) AllReadyL.nil
          go_simp
          replace zS := hid (zS.out.newBlk ([.int .u8 (b0 : Int), .int .u8 (b1 : Int), .int .u8 (b2 : Int)] : List Value).toArray 24)
          generalize wa.heap.size = bB at *
          generalize wa.alloc (.cells ([.int .u8 (b0 : Int), .int .u8 (b1 : Int), .int .u8 (b2 : Int)] : List Value).toArray 24) = wb at *
          refine hK.out _ _ (HeldL.cons (fun _ => ⟨cell_of_row _ _ 2 _ _ _ zS.out.k1, hrg2.out _ zS.out.m5⟩) HeldL.nil) (fun hHeld' => ?_)
          clear hK K hHeld; have hHeld := hHeld'; clear hHeld'
          try simp only [Act.put, List.setIfInBounds_toArray, List.set_cons_zero, List.set_cons_succ]
          refine wpAnyL_ready (rs := [7]) (by kernel_rfl) (by simp) ?_
          refine AllReadyL.cons rfl (fun K hK => ?_) AllReadyL.nil
          refine St.stepN 223 24 24 _ 3 3 Try.underlying223 info_b3 rfl (by omega) (by omega) rfl _ _ rfl vO q _ rfl (zS.out.f3) hl2.out ho2.out rfl (by omega) ?_
          intro go co wc zS'
          replace zS := hid zS'.f1.drop; clear zS'
          refine hK.out _ _ (HeldL.cons (fun _ => ⟨cell_of_row _ _ 2 _ _ _ zS.out.k1, hrg2.out _ zS.out.m4⟩) HeldL.nil) (fun hHeld' => ?_)
          clear hK K hHeld; have hHeld := hHeld'; clear hHeld'
          try simp only [Act.put, List.setIfInBounds_toArray, List.set_cons_zero, List.set_cons_succ]
          refine wpAnyL_take0 (i := 8) (v := ?_) rfl (by kernel_rfl) (by kernel_rfl) (by kernel_rfl) (by rfl) (fun _ _ _ h => h) (Or.inl ⟨by rfl, ?_⟩) (by assumption) ?_
          rotate_left
          · (intro W _; go_simp; (with_reducible rfl))
          intro hHeld'
          clear hHeld; have hHeld := hHeld'; clear hHeld'
          try simp only [Act.put, List.setIfInBounds_toArray, List.set_cons_zero, List.set_cons_succ]
          have q1 : wc.cell? ⟨w.heap.size + 1 + 1, 2, none⟩ = some vO := cell_of_row _ _ 2 _ _ _ zS.out.k1
          have q2 := frozen_of_row _ _ 2 _ _ zS.out.k1
          refine wpAnyL_ready (rs := [9]) (by kernel_rfl) (by simp) ?_
          refine AllReadyL.cons rfl (fun K hK => ?_) AllReadyL.nil
          go_simp
          replace zS := hid (show St w.heap.size w (Asn.blk (w.heap.size + 1 + 1) #[.int .i64 (l : Int), .slice (some ⟨gn, 0, none⟩) (q + 1) cn, .slice (some ⟨go, 0, none⟩) (q + 1) co] 225 :: _) _ from zS.out.f1.setBlk (by omega) 2 (.slice (some ⟨go, 0, none⟩) (q + 1) co)); clear q1 q2
          rw [← hs2.out] at zS
          refine hK.out _ _ (HeldL.cons (fun h => absurd h (by decide +kernel)) HeldL.nil) (fun hHeld' => ?_)
          clear hK K hHeld; have hHeld := hHeld'; clear hHeld'
          try simp only [Act.put, List.setIfInBounds_toArray, List.set_cons_zero, List.set_cons_succ]
          refine wpAnyL_done (by kernel_rfl) ?_ _
          go_wp2
          go_roundw
          case rel => exact ⟨q + 1, by omega, by go_num, _, _, zS.out.f2.s1⟩
          case measure => simp [intOf]; omega
    · obtain rfl : s = q := by omega
      have hlg := hid (show LG wr w.heap.size vN vO T from ⟨by rw [hTn.out, hTL.out]; exact rS.out.n0, by rw [hTn.out, hTL.out]; exact rS.out.n1⟩)
      have hone := hid (show (#[Value.int .i64 (l : Int), vN, vO]).all (·.oneCell') = true from all_oneCell_toArray (cs := [Value.int .i64 (l : Int), vN, vO]) (fun v hv => by
        simp only [List.mem_cons, List.not_mem_nil, or_false] at hv
        rcases hv with rfl | rfl | rfl
        · rfl
        · exact rS.out.n0.oneCell
        · exact rS.out.n1.oneCell))
      have rg := hid (show wr.rangeAt (w.heap.size + 1 + 1) 0 [.int .i64 (l : Int), vN, vO] from fun j u hu => by rw [Nat.zero_add, cell_of_row _ _ j _ _ _ rS.out.k2]; simpa using hu)
      have rt := hid (show wr.there (w.heap.size + 1) 0 3 from fun j hj => by
        rw [Nat.zero_add]
        refine ⟨?_, frozen_of_row _ _ j _ _ rS.out.k3⟩
        rw [cell_of_row _ _ j _ _ _ rS.out.k3]
        have : j = 0 ∨ j = 1 ∨ j = 2 := by omega
        rcases this with rfl | rfl | rfl <;> rfl)
      go_wp2_with (first
        | ((with_reducible refine gate (N := 47) rfl ?_); refine wpList_load_mid rfl 225 _ rfl (w.heap.size + 1 + 1) 0 rfl [.int .i64 (l : Int), vN, vO] _ rg.out Try.underlying225 rfl sz_large ?_)
        | ((with_reducible refine gateOp (op := .store 225 (.tmp 2) (.tmp 47)) rfl ?_); refine wpList_store_mid rfl 225 _ _ rfl (w.heap.size + 1) 0 #[.int .i64 (l : Int), vN, vO] rfl rfl rt.out sz_large hone.out ?_))
      have zS := hid (show St w.heap.size w (Asn.blk (w.heap.size + 1) #[.int .i64 (l : Int), vN, vO] 225 :: _) (wr.setCells (w.heap.size + 1) 0 [.int .i64 (l : Int), vN, vO]) from ((rS.out.f3.setBlk (Nat.le_succ _) 0 (.int .i64 (l : Int))).setBlk (Nat.le_succ _) 1 vN).setBlk (Nat.le_succ _) 2 vO)
      exact ret_blk rfl rfl zS.out.k0 Try.underlying225 rfl sz_large rfl ⟨vN, vO, rfl, ⟨by rw [hTn.out, hTL.out]; exact zS.out.n1, by rw [hTn.out, hTL.out]; exact zS.out.n2⟩, zS.out.bel⟩
end Go.Proofs.Ythmcdfjijkecfaa
