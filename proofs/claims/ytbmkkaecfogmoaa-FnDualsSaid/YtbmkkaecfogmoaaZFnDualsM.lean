/- What the proof of FnDuals leans on, part 13 of 26. -/
import Derived.Test.YtbmkkaecfogmoaaZFnDualsL
import Derived.BigQuiet
import Derived.Laws.Strings
/- Texts joined, in a region that only reads. -/
namespace Go.Proofs.Ytbmkkaecfogmoaa
open Go.RowKit
set_option linter.unusedVariables false
set_option linter.unusedSimpArgs false

section
variable {ops : Array Oper} {C : World → Prop} {Q : Act → Prop} {a : Act} {o : Oper} {rest : List Oper}
/-- Two texts joined, in a region that only reads. -/
theorem quiet_add (hw : Region.wanted o (yielded ops a.tmps) = true) (x y : Operand) (t t2 : TypeId) (ho : o.op = .binOp .add t x y t2) (s1 s2 : ByteArray) (hx : a.eval x = .string s1) (hy : a.eval y = .string s2) (hs : s1.size + s2.size ≤ 9223372036854775807)
    (h : wpQuiet Try.prog ops C Q rest (a.put o.dst (.string (s1 ++ s2)))) : wpQuiet Try.prog ops C Q (o :: rest) a :=
  BigFrame.wpQuiet_want hw fun K hK => ⟨.string (s1 ++ s2), fun w _ => by
    have e : (execOp a.eval o).run Try.prog w = .ok (.value (.string (s1 ++ s2))) w := by
      unfold execOp
      simp only [ho, hx, hy]
      have e2 : (Op.stringOp .add s1 s2).run Try.prog w = .ok (.string (s1 ++ s2)) w := by apply run_string_add_sum; exact hs
      simp [go_sem, e2]
    unfold Oper.quietAt
    rw [e]
    exact ⟨rfl, rfl⟩, hK _ h⟩
end
end Go.Proofs.Ytbmkkaecfogmoaa

/- Group words: what IsGroupWord answers. -/
namespace Go.Proofs.Ytbmkkaecfogmoaa
open Go.RowKit
set_option linter.unusedVariables false
set_option linter.unusedSimpArgs false

/-- A number stands for a state or for its inverse. -/
def isNum (s : Nat) (k : Int) : Prop := k ≠ 0 ∧ -(s : Int) ≤ k ∧ k ≤ s
/-- A list is a group word. -/
def IsGw (m : Mach) (g : List Int) : Prop := IsM m ∧ g.length ≤ 40 ∧ ∀ k ∈ g, isNum m.S.toNat k
def badNum (s : Nat) (k : Int) : Bool := (k == 0) || !decide (-(s : Int) ≤ k ∧ k ≤ s)
theorem badNum_iff (s : Nat) (k : Int) : badNum s k = true ↔ ¬ isNum s k := by
  unfold badNum isNum
  rw [Bool.or_eq_true, Bool.not_eq_true', decide_eq_false_iff_not, beq_iff_eq]
  omega
theorem badAny_iff (s : Nat) (g : List Int) : g.any (badNum s) = true ↔ ¬ ∀ k ∈ g, isNum s k := by
  rw [List.any_eq_true]
  constructor
  · rintro ⟨x, hx, hb⟩ h
    exact (badNum_iff s x).1 hb (h x hx)
  · intro h
    apply Classical.byContradiction
    intro hn
    exact h fun k hk => Classical.byContradiction fun hb => hn ⟨k, hk, (badNum_iff s k).2 hb⟩

set_option maxHeartbeats 1000000 in
theorem gw1_any (b : Nat) (w : World) (m : Mach) (hm : MB w 27 b m) (l s : Nat) (g : Good m l s) (k : Int) :
    Calls Try.prog 150 #[.int .i64 k, .pointer (some ⟨b, 0, none⟩)] w fun e w' => e = .returned (.bool (badNum s k)) ∧ w = w' := by
  have cS := hm.cS
  rw [g.S] at cS
  have s16 := g.s16
  clear hm g
  by_cases hk : k = 0
  · subst hk
    have hr := hid (show badNum s 0 = true from rfl)
    generalize badNum s 0 = r at *
    go_enter Try.func150, Try.ntmps150
    go_wp2
    go_ret
    exact ⟨retB hr.out.symm, rfl⟩
  · have hk0 : (k == 0) = false := by simpa using hk
    have hin := hid (fun W => within_any k (-(s : Int)) s (decide (-(s : Int) ≤ k ∧ k ≤ s)) rfl W)
    have hr := hid (show badNum s k = !decide (-(s : Int) ≤ k ∧ k ≤ s) from by unfold badNum; rw [hk0]; rfl)
    have e1 : IntKind.i64.wrap (-(s : Int)) = -(s : Int) := IntWalk.i64_in _ (by omega)
    generalize badNum s k = r at *
    generalize decide (-(s : Int) ≤ k ∧ k ≤ s) = c at *
    go_enter Try.func150, Try.ntmps150
    go_wp2_with (first
      | (go_at_call 124; (with_reducible refine (hin.out _).mono ?_); rintro e w' ⟨rfl, rfl⟩))
    go_ret
    exact ⟨retB hr.out.symm, rfl⟩
set_option maxHeartbeats 1000000 in
set_option maxRecDepth 100000 in
theorem indexFuncI_gw (b : Nat) (w : World) (base : Nat) (v : Value) (l : List Int) (h : Own w base 2 v (ints l)) (hl : l.length < 2000000) (p : Int → Bool)
    (hcall : ∀ W, Below w.heap.size w W → ∀ x, x ∈ l → Calls Try.prog 150 #[.int .i64 x, .pointer (some ⟨b, 0, none⟩)] W fun e w' => e = .returned (.bool (p x)) ∧ Below W.heap.size W w') :
    Calls Try.prog 218 #[v, .func (.func 150) #[] #[.pointer (some ⟨b, 0, none⟩)]] w fun e w' => e = .returned (.int .i64 (idxP p l 0)) ∧ Below w.heap.size w w' := by
  have hil := ints_length l
  obtain ⟨A1, c1, rfl, _, _⟩ := h.form
  rw [hil] at h ⊢
  have hget := hid (fun (k : Nat) (x : Int) (hx : l[k]? = some x) => (show (ints l)[k]? = some (.int .i64 x) by simp [ints, hx]))
  have hcell := hid (fun (k : Nat) (x : Int) (hx : l[k]? = some x) => (show ∃ g, A1 = some ⟨g, 0, none⟩ ∧ ∀ W, Below w.heap.size w W → W.cell? ⟨g, k, none⟩ = some (.int .i64 x) from by
    obtain ⟨g1, c2, he, _, hg1⟩ := h.blk (fun e => by have h1 := congrArg List.length e; rw [hil] at h1; have h2 := (List.getElem?_eq_some_iff.1 hx).1; rw [List.length_nil] at h1; omega)
    injection he with e1 e2 e3
    subst e1
    exact ⟨g1, rfl, fun W hW => (h.below hW).cellAt k _ (hget.out k x hx)⟩))
  replace hcall := hid hcall
  clear h hil
  obtain ⟨R, hR⟩ : ∃ R, R = idxP p l 0 := ⟨_, rfl⟩
  rw [← hR]
  replace hR := hid hR
  generalize hn : l.length = n at *
  replace hn := hid hn
  go_enter Try.func218, Try.ntmps218
  go_wp2
  go_loopw [8] (fun i wr => ∃ k : Nat, k ≤ n ∧ i = .int .i64 k ∧ Hid (R = idxP p (l.drop k) k) ∧ Below w.heap.size w wr) (fun i _ => n - (intOf i).toNat)
  case atStart => exact ⟨0, Nat.zero_le _, rfl, hR, Below.refl _ _⟩
  case round =>
    obtain ⟨k, hk, rfl, hA, rB⟩ := hrel
    clear hR
    replace rB := hid rB
    by_cases hlt : k < n
    · obtain ⟨x, hx⟩ : ∃ x, l[k]? = some x := ⟨_, List.getElem?_eq_getElem (by rw [hn.out]; exact hlt)⟩
      obtain ⟨g, rfl, hc⟩ := hcell.out k x hx
      have d1 := hc wr rB.out
      have hcl := hid (hcall.out wr rB.out x (List.mem_of_getElem? hx))
      have hT := hid (fun hp => idxP_drop_t (p := p) hx hp k)
      have hF := hid (fun hp => idxP_drop_f (p := p) hx hp k)
      clear hc hx
      cases hp : p x with
      | true =>
        rw [hp] at hcl
        have hA2 := hid (hA.out.trans (hT.out hp))
        clear hp hT hF
        go_wp2_with (first
          | (go_at_call 150; (with_reducible refine (hcl.out).mono ?_); rintro e w1 ⟨rfl, hb⟩; replace rB := hid (rB.out.trans (hb.mono rB.out.size)); clear hb))
        go_ret
        exact ⟨retI (by rw [hA2.out]), rB.out⟩
      | false =>
        rw [hp] at hcl
        have hA2 := hid (hA.out.trans (hF.out hp))
        clear hp hT hF
        go_wp2_with (first
          | (go_at_call 150; (with_reducible refine (hcl.out).mono ?_); rintro e w1 ⟨rfl, hb⟩; replace rB := hid (rB.out.trans (hb.mono rB.out.size)); clear hb))
        go_roundw
        case rel => exact ⟨k + 1, by omega, by go_num, hA2, rB.out⟩
        case measure => simp [intOf]; omega
    · obtain rfl : k = n := by omega
      have hA2 := hid (hA.out.trans (show _ = (-1 : Int) by rw [List.drop_eq_nil_of_le (by rw [hn.out]; exact Nat.le_refl _)]; rfl))
      go_wp2
      go_ret
      exact ⟨retI (by rw [hA2.out]), rB.out⟩
set_option maxHeartbeats 1000000 in
theorem containsFuncI_gw (b : Nat) (w : World) (base : Nat) (v : Value) (l : List Int) (h : Own w base 2 v (ints l)) (hl : l.length < 2000000) (p : Int → Bool)
    (hcall : ∀ W, Below w.heap.size w W → ∀ x, x ∈ l → Calls Try.prog 150 #[.int .i64 x, .pointer (some ⟨b, 0, none⟩)] W fun e w' => e = .returned (.bool (p x)) ∧ Below W.heap.size W w') :
    Calls Try.prog 122 #[v, .func (.func 150) #[] #[.pointer (some ⟨b, 0, none⟩)]] w fun e w' => e = .returned (.bool (l.any p)) ∧ Below w.heap.size w w' := by
  have hi := hid (indexFuncI_gw b w base v l h hl p hcall)
  have ha := hid (idxP_any p l 0 (Int.le_refl _))
  clear hcall h hl
  generalize idxP p l 0 = r at *
  generalize l.any p = c at *
  go_enter Try.func122, Try.ntmps122
  go_wp2_with (first
    | (go_at_call 218; (with_reducible refine (hi.out).mono ?_); rintro e w1 ⟨rfl, hb⟩; replace hb := hid hb))
  go_ret
  refine ⟨retB ?_, hb.out⟩
  have h := ha.out
  rw [Bool.eq_iff_iff, ← h]
  simp

set_option maxHeartbeats 2000000 in
set_option maxRecDepth 4000 in
theorem IsGroupWord_any (w : World) (m : Mach) (hk : m.Ok) (base : Nat) (v : Value) (g : List Int) (h : Own w base 2 v (ints g)) (hl : g.length < 2000000) (r : Bool) (hr : Tells r (IsGw m g)) :
    Calls Try.prog 48 #[.agg (mcells m), v] w fun e w' => e = .returned (.bool r) ∧ Below w.heap.size w w' := by
  have hS := hid ((St.start w).newMB m 27)
  have hmf : ∀ (fn : Fn) (first cap : Array Value) (w : World), (Instr.makeFunc fn first cap).run Try.prog w = .ok (.func fn first cap) w := fun _ _ _ _ => rfl
  have hil := ints_length g
  obtain ⟨A, c, rfl, _, _⟩ := h.form
  rw [hil] at h ⊢
  replace h := hid h
  by_cases hm : IsM m
  · obtain ⟨l, s, gd⟩ := hm.good
    have hS2 : m.S.toNat = s := by rw [gd.S]; rfl
    have hi := hid (fun W => IsMachine_any W m hk true ⟨fun _ => hm, fun _ => rfl⟩)
    have hc := hid (fun W (hW : Below w.heap.size w W) (hmb : MB W 27 w.heap.size m) => containsFuncI_gw w.heap.size W base _ g (h.out.below hW) hl (badNum s) (fun W' hW' x _ => (gw1_any w.heap.size W' m (hmb.below hW' hmb.lt) l s gd x).mono fun e w' hh => ⟨hh.1, hh.2 ▸ Below.refl _ _⟩))
    have hb := badAny_iff s g
    have hgw : IsGw m g ↔ g.length ≤ 40 ∧ ∀ k ∈ g, isNum s k := by unfold IsGw; rw [hS2]; exact ⟨fun h => h.2, fun h => ⟨hm, h⟩⟩
    have hr2 := hr.out
    by_cases h40 : g.length ≤ 40
    · have d1 : decide ((g.length : Int) ≤ 40) = true := decide_eq_true (by omega)
      have hfin : Hid (r = !(g.any (badNum s))) := by
        refine hid ?_
        rw [Bool.eq_iff_iff, hr2, hgw]
        cases hh : g.any (badNum s)
        · rw [hh] at hb
          simp only [Bool.not_false, iff_true]
          exact ⟨h40, Classical.byContradiction fun hn => by have := hb.2 hn; cases this⟩
        · simp only [Bool.not_true, Bool.false_eq_true, iff_false]
          exact fun hn => (hb.1 hh) hn.2
      replace hk := hid hk
      clear hr hr2 hgw hb hm gd
      generalize g.any (badNum s) = bad at *
      generalize g.length = n at *
      go_enter Try.func48, Try.ntmps48
      go_wp2_with (first
        | ((with_reducible refine gate (N := 5) rfl ?_); refine load_mach rfl _ rfl w.heap.size rfl m hS.out.m0 ?_)
        | (go_at_call 65; (with_reducible refine (hi.out _).mono ?_); rintro e w1 ⟨rfl, hb⟩; replace hS := hid (hS.out.call hb); clear hb)
        | (go_at_call 122; (with_reducible refine (hc.out _ hS.out.bel hS.out.m0).mono ?_); rintro e w2 ⟨rfl, hb⟩; replace hS := hid (hS.out.call hb); clear hb))
      go_ret
      exact ⟨retB hfin.out.symm, hS.out.bel⟩
    · have d1 : decide ((g.length : Int) ≤ 40) = false := decide_eq_false (by omega)
      have hfin : Hid (r = false) := by
        refine hid ?_
        rw [Bool.eq_false_iff, Ne, hr2, hgw]
        exact fun hn => h40 hn.1
      replace hk := hid hk
      clear hr hr2 hgw hb hm gd
      generalize g.length = n at *
      go_enter Try.func48, Try.ntmps48
      go_wp2_with (first
        | ((with_reducible refine gate (N := 5) rfl ?_); refine load_mach rfl _ rfl w.heap.size rfl m hS.out.m0 ?_)
        | (go_at_call 65; (with_reducible refine (hi.out _).mono ?_); rintro e w1 ⟨rfl, hb⟩; replace hS := hid (hS.out.call hb); clear hb))
      go_ret
      exact ⟨retB hfin.out.symm, hS.out.bel⟩
  · have hi := hid (fun W => IsMachine_any W m hk false ⟨fun h => (by cases h), fun h => absurd h hm⟩)
    have hfin : Hid (r = false) := by
      refine hid ?_
      rw [Bool.eq_false_iff, Ne, hr.out]
      exact fun hn => hm hn.1
    replace hk := hid hk
    clear hr hm
    generalize g.length = n at *
    go_enter Try.func48, Try.ntmps48
    go_wp2_with (first
      | ((with_reducible refine gate (N := 5) rfl ?_); refine load_mach rfl _ rfl w.heap.size rfl m hS.out.m0 ?_)
      | (go_at_call 65; (with_reducible refine (hi.out _).mono ?_); rintro e w1 ⟨rfl, hb⟩; replace hS := hid (hS.out.call hb); clear hb))
    go_ret
    exact ⟨retB hfin.out.symm, hS.out.bel⟩
end Go.Proofs.Ytbmkkaecfogmoaa

/- Trivial states: what the program's trivial answers. -/
namespace Go.Proofs.Ytbmkkaecfogmoaa
open Go.RowKit
set_option linter.unusedVariables false
set_option linter.unusedSimpArgs false
-- @LONG

/-- A state is trivial: it is among states that keep all letters and go on among themselves. -/
def Tv (T : Tab) (q : Nat) : Prop := ∃ S : Nat → Prop, S q ∧ ∀ r, S r → r < T.n ∧ ∀ x, x < T.L → T.ot r x = x ∧ S (T.nx r x)
theorem Tv.keep {T : Tab} {q : Nat} (h : Tv T q) : ∀ x, x < T.L → T.ot q x = x ∧ Tv T (T.nx q x) := fun x hx => by
  obtain ⟨S, hq, hS⟩ := h
  exact ⟨((hS q hq).2 x hx).1, S, ((hS q hq).2 x hx).2, hS⟩
theorem Tv.lt {T : Tab} {q : Nat} (h : Tv T q) : q < T.n := by obtain ⟨S, hq, hS⟩ := h; exact (hS q hq).1
open Classical in
noncomputable def tvL (T : Tab) : List Bool := (List.range T.n).map fun q => decide (Tv T q)
theorem tvL_length (T : Tab) : (tvL T).length = T.n := by simp [tvL]
theorem tvL_get (T : Tab) (q : Nat) (h : q < T.n) : ∃ b, (tvL T)[q]? = some b ∧ (b = true ↔ Tv T q) := by
  classical
  exact ⟨decide (Tv T q), by simp [tvL, h], decide_eq_true_iff⟩
def bls (l : List Bool) : List Value := l.map Value.bool
theorem bls_length (l : List Bool) : (bls l).length = l.length := by simp [bls]
theorem bls_get {l : List Bool} {i : Nat} {b : Bool} (h : l[i]? = some b) : (bls l)[i]? = some (.bool b) := by simp [bls, h]
theorem bls_set (l : List Bool) (i : Nat) (b : Bool) : (bls l).set i (.bool b) = bls (l.set i b) := by simp [bls, List.map_set]

/-- What keeps all letters. -/
def kept (T : Tab) (q : Nat) : Bool := alls T.L fun x => T.ot q x == x
theorem kept_iff (T : Tab) (q : Nat) : kept T q = true ↔ ∀ x, x < T.L → T.ot q x = x := by unfold kept; rw [alls_iff]; simp
theorem Tv.kept {T : Tab} {q : Nat} (h : Tv T q) : kept T q = true := (kept_iff T q).2 fun x hx => (h.keep x hx).1
/-- What is known on the way: nothing trivial is lost, nothing that turns letters is there. -/
def TvB (T : Tab) (bl : List Bool) : Prop := bl.length = T.n ∧ (∀ q, bl[q]? = some true → Go.Proofs.Ytbmkkaecfogmoaa.kept T q = true) ∧ ∀ q, Tv T q → bl[q]? = some true
/-- Those before q go on among themselves. -/
def TvC (T : Tab) (bl : List Bool) (q : Nat) : Prop := ∀ j, j < q → bl[j]? = some true → ∀ x, x < T.L → bl[T.nx j x]? = some true
/-- Some of the next states is not there. -/
def lost (T : Tab) (bl : List Bool) (q : Nat) : Bool := (rwI T.nx q T.L).any fun r => !(bl.getD r.toNat false)
theorem lost_iff {T : Tab} (hT : T.Ok) {bl : List Bool} (h : bl.length = T.n) {q : Nat} (hq : q < T.n) : lost T bl q = false ↔ ∀ x, x < T.L → bl[T.nx q x]? = some true := by
  unfold lost rwI
  rw [List.any_eq_false]
  constructor
  · intro hh x hx
    have h1 := hh ((T.nx q x : Nat) : Int) (List.mem_map.2 ⟨x, List.mem_range.2 hx, rfl⟩)
    have hlt := hT.nx q x hq hx
    rw [Int.toNat_natCast, List.getD_eq_getElem?_getD, List.getElem?_eq_getElem (by omega)] at h1
    rw [List.getElem?_eq_getElem (by omega)]
    simpa using h1
  · intro hh r hr
    obtain ⟨x, hx, rfl⟩ := List.mem_map.1 hr
    rw [Int.toNat_natCast, List.getD_eq_getElem?_getD, hh x (List.mem_range.1 hx)]
    simp
/-- How many are there. -/
def cntB : List Bool → Nat
  | [] => 0
  | b :: l => (if b then 1 else 0) + cntB l
theorem cntB_set : ∀ (l : List Bool) (q : Nat), l[q]? = some true → cntB (l.set q false) + 1 = cntB l
  | b :: l, 0, h => by simp at h; subst h; simp [cntB]; omega
  | b :: l, q + 1, h => by
    have := cntB_set l q (by simpa using h)
    simp [cntB]; omega
theorem cntB_le : ∀ l : List Bool, cntB l ≤ l.length
  | [] => Nat.le_refl _
  | b :: l => by have := cntB_le l; unfold cntB; simp; split <;> omega
theorem getE_set (l : List Bool) (q j : Nat) (b : Bool) (hq : q < l.length) : (l.set q b)[j]? = if j = q then some b else l[j]? := by
  by_cases h : j = q
  · subst h; rw [if_pos rfl, List.getElem?_set_self hq]
  · rw [if_neg h, List.getElem?_set_ne (Ne.symm h)]
/-- A state that goes on to one that is not there is none. -/
theorem TvB.strike {T : Tab} (hT : T.Ok) {bl : List Bool} (h : TvB T bl) {q : Nat} (hq : q < T.n) (hl : lost T bl q = true) : TvB T (bl.set q false) := by
  refine ⟨by rw [List.length_set]; exact h.1, fun j hj => ?_, fun j hj => ?_⟩
  · rw [getE_set _ _ _ _ (by rw [h.1]; exact hq)] at hj
    split at hj
    · simp at hj
    · exact h.2.1 j hj
  · rw [getE_set _ _ _ _ (by rw [h.1]; exact hq)]
    split
    · rename_i e
      subst e
      have : lost T bl j = false := (lost_iff hT h.1 hq).2 fun x hx => h.2.2 _ (hj.keep x hx).2
      rw [hl] at this; cases this
    · exact h.2.2 j hj
theorem TvC.more {T : Tab} (hT : T.Ok) {bl : List Bool} (hb : bl.length = T.n) {q : Nat} (hq : q < T.n) (h : TvC T bl q) (hl : bl[q]? = some true → lost T bl q = false) : TvC T bl (q + 1) := fun j hj hjt => by
  by_cases e : j = q
  · subst e; exact (lost_iff hT hb hq).1 (hl hjt)
  · exact h j (by omega) hjt
theorem TvB.done {T : Tab} {bl : List Bool} (h : TvB T bl) (hc : TvC T bl T.n) : bl = tvL T := by
  apply List.ext_getElem?
  intro q
  by_cases hq : q < T.n
  · obtain ⟨b, hb, hbi⟩ := tvL_get T q hq
    rw [hb, List.getElem?_eq_getElem (by rw [h.1]; exact hq)]
    congr 1
    rw [Bool.eq_iff_iff, hbi]
    constructor
    · intro hg
      refine ⟨fun r => bl[r]? = some true, by show bl[q]? = some true; rw [List.getElem?_eq_getElem (by rw [h.1]; exact hq), hg], fun r hr => ?_⟩
      have hrl : r < T.n := by rw [← h.1]; exact (List.getElem?_eq_some_iff.1 hr).1
      exact ⟨hrl, fun x hx => ⟨(kept_iff T r).1 (h.2.1 r hr) x hx, hc r hrl hr x hx⟩⟩
    · intro ht
      have := h.2.2 q ht
      rw [List.getElem?_eq_getElem (by rw [h.1]; exact hq)] at this
      simpa using this
  · rw [List.getElem?_eq_none (by rw [h.1]; omega), List.getElem?_eq_none (by rw [tvL_length]; omega)]
/-- The list as far as it is written: q states told, and x letters of the next one. -/
def keptL (T : Tab) (q : Nat) (n : Nat) : List Bool := (List.range n).map fun j => if j < q then Go.Proofs.Ytbmkkaecfogmoaa.kept T j else false
theorem keptL_length (T : Tab) (q n : Nat) : (keptL T q n).length = n := by simp [keptL]
theorem keptL_set (T : Tab) (q n : Nat) : (keptL T q n).set q (Go.Proofs.Ytbmkkaecfogmoaa.kept T q) = keptL T (q + 1) n := by
  apply List.ext_getElem?
  intro j
  by_cases hj : j < n
  · rw [List.getElem?_set]
    by_cases e : q = j
    · subst e; simp [keptL, hj]
    · have e2 : decide (j < q) = decide (j < q + 1) := decide_eq_decide.2 (by omega)
      simp [keptL, hj, e, e2]
  · rw [List.getElem?_eq_none (by simp [keptL]; omega), List.getElem?_eq_none (by simp [keptL]; omega)]
theorem keptL_done (T : Tab) : TvB T (keptL T T.n T.n) := by
  refine ⟨keptL_length _ _ _, fun q hq => ?_, fun q hq => ?_⟩
  · have h1 := (List.getElem?_eq_some_iff.1 hq).1
    rw [keptL_length] at h1
    simpa [keptL, h1] using hq
  · have h1 := hq.lt
    simp [keptL, h1, hq.kept]
theorem keptL_zero (T : Tab) (n : Nat) : bls (keptL T 0 n) = List.replicate n (.bool false) := by
  apply List.ext_getElem?
  intro j
  by_cases hj : j < n
  · simp [bls, keptL, hj]
  · rw [List.getElem?_eq_none (by simp [bls, keptL]; omega), List.getElem?_eq_none (by simp; omega)]
end Go.Proofs.Ytbmkkaecfogmoaa

/- Trivial states: the program's trivial. -/
namespace Go.Proofs.Ytbmkkaecfogmoaa
open Go.RowKit
set_option linter.unusedVariables false
set_option linter.unusedSimpArgs false
-- @LONG

theorem info_bool : (Try.prog.info? 4).map (fun i => (i.zero, i.size, i.bytes)) = some (some (.bool false), 1, 1) := by kernel_rfl
set_option maxHeartbeats 1000000 in
theorem triv1_any (b3 go n c r : Nat) (u : Bool) (w : World) (hb : w.cell? ⟨b3, 0, none⟩ = some (.slice (some ⟨go, 0, none⟩) n c)) (hr : r < n) (hu : w.cell? ⟨go, r, none⟩ = some (.bool u)) :
    Calls Try.prog 186 #[.int .i64 r, .pointer (some ⟨b3, 0, none⟩)] w fun e w' => e = .returned (.bool (!u)) ∧ w = w' := by
  have r0 : (0 : Int) ≤ (r : Int) := Int.natCast_nonneg _
  have r1 : (r : Int) < (n : Int) := by omega
  go_enter Try.func186, Try.ntmps186
  go_wp2
  go_ret
  exact ⟨rfl, rfl⟩
set_option maxHeartbeats 1000000 in
set_option maxRecDepth 100000 in
theorem indexFuncI_triv (b : Nat) (w : World) (base : Nat) (v : Value) (l : List Int) (h : Own w base 2 v (ints l)) (hl : l.length < 2000000) (p : Int → Bool)
    (hcall : ∀ W, Below w.heap.size w W → ∀ x, x ∈ l → Calls Try.prog 186 #[.int .i64 x, .pointer (some ⟨b, 0, none⟩)] W fun e w' => e = .returned (.bool (p x)) ∧ Below W.heap.size W w') :
    Calls Try.prog 218 #[v, .func (.func 186) #[] #[.pointer (some ⟨b, 0, none⟩)]] w fun e w' => e = .returned (.int .i64 (idxP p l 0)) ∧ Below w.heap.size w w' := by
  have hil := ints_length l
  obtain ⟨A1, c1, rfl, _, _⟩ := h.form
  rw [hil] at h ⊢
  have hget := hid (fun (k : Nat) (x : Int) (hx : l[k]? = some x) => (show (ints l)[k]? = some (.int .i64 x) by simp [ints, hx]))
  have hcell := hid (fun (k : Nat) (x : Int) (hx : l[k]? = some x) => (show ∃ g, A1 = some ⟨g, 0, none⟩ ∧ ∀ W, Below w.heap.size w W → W.cell? ⟨g, k, none⟩ = some (.int .i64 x) from by
    obtain ⟨g1, c2, he, _, hg1⟩ := h.blk (fun e => by have h1 := congrArg List.length e; rw [hil] at h1; have h2 := (List.getElem?_eq_some_iff.1 hx).1; rw [List.length_nil] at h1; omega)
    injection he with e1 e2 e3
    subst e1
    exact ⟨g1, rfl, fun W hW => (h.below hW).cellAt k _ (hget.out k x hx)⟩))
  replace hcall := hid hcall
  clear h hil
  obtain ⟨R, hR⟩ : ∃ R, R = idxP p l 0 := ⟨_, rfl⟩
  rw [← hR]
  replace hR := hid hR
  generalize hn : l.length = n at *
  replace hn := hid hn
  go_enter Try.func218, Try.ntmps218
  go_wp2
  go_loopw [8] (fun i wr => ∃ k : Nat, k ≤ n ∧ i = .int .i64 k ∧ Hid (R = idxP p (l.drop k) k) ∧ Below w.heap.size w wr) (fun i _ => n - (intOf i).toNat)
  case atStart => exact ⟨0, Nat.zero_le _, rfl, hR, Below.refl _ _⟩
  case round =>
    obtain ⟨k, hk, rfl, hA, rB⟩ := hrel
    clear hR
    replace rB := hid rB
    by_cases hlt : k < n
    · obtain ⟨x, hx⟩ : ∃ x, l[k]? = some x := ⟨_, List.getElem?_eq_getElem (by rw [hn.out]; exact hlt)⟩
      obtain ⟨g, rfl, hc⟩ := hcell.out k x hx
      have d1 := hc wr rB.out
      have hcl := hid (hcall.out wr rB.out x (List.mem_of_getElem? hx))
      have hT := hid (fun hp => idxP_drop_t (p := p) hx hp k)
      have hF := hid (fun hp => idxP_drop_f (p := p) hx hp k)
      clear hc hx
      cases hp : p x with
      | true =>
        rw [hp] at hcl
        have hA2 := hid (hA.out.trans (hT.out hp))
        clear hp hT hF
        go_wp2_with (first
          | (go_at_call 186; (with_reducible refine (hcl.out).mono ?_); rintro e w1 ⟨rfl, hb⟩; replace rB := hid (rB.out.trans (hb.mono rB.out.size)); clear hb))
        go_ret
        exact ⟨retI (by rw [hA2.out]), rB.out⟩
      | false =>
        rw [hp] at hcl
        have hA2 := hid (hA.out.trans (hF.out hp))
        clear hp hT hF
        go_wp2_with (first
          | (go_at_call 186; (with_reducible refine (hcl.out).mono ?_); rintro e w1 ⟨rfl, hb⟩; replace rB := hid (rB.out.trans (hb.mono rB.out.size)); clear hb))
        go_roundw
        case rel => exact ⟨k + 1, by omega, by go_num, hA2, rB.out⟩
        case measure => simp [intOf]; omega
    · obtain rfl : k = n := by omega
      have hA2 := hid (hA.out.trans (show _ = (-1 : Int) by rw [List.drop_eq_nil_of_le (by rw [hn.out]; exact Nat.le_refl _)]; rfl))
      go_wp2
      go_ret
      exact ⟨retI (by rw [hA2.out]), rB.out⟩
set_option maxHeartbeats 1000000 in
theorem containsFuncI_triv (b : Nat) (w : World) (base : Nat) (v : Value) (l : List Int) (h : Own w base 2 v (ints l)) (hl : l.length < 2000000) (p : Int → Bool)
    (hcall : ∀ W, Below w.heap.size w W → ∀ x, x ∈ l → Calls Try.prog 186 #[.int .i64 x, .pointer (some ⟨b, 0, none⟩)] W fun e w' => e = .returned (.bool (p x)) ∧ Below W.heap.size W w') :
    Calls Try.prog 122 #[v, .func (.func 186) #[] #[.pointer (some ⟨b, 0, none⟩)]] w fun e w' => e = .returned (.bool (l.any p)) ∧ Below w.heap.size w w' := by
  have hi := hid (indexFuncI_triv b w base v l h hl p hcall)
  have ha := hid (idxP_any p l 0 (Int.le_refl _))
  clear hcall h hl
  generalize idxP p l 0 = r at *
  generalize l.any p = c at *
  go_enter Try.func122, Try.ntmps122
  go_wp2_with (first
    | (go_at_call 218; (with_reducible refine (hi.out).mono ?_); rintro e w1 ⟨rfl, hb⟩; replace hb := hid hb))
  go_ret
  refine ⟨retB ?_, hb.out⟩
  have h := ha.out
  rw [Bool.eq_iff_iff, ← h]
  simp

set_option maxHeartbeats 8000000 in
set_option maxRecDepth 100000 in
theorem trivial_any (w : World) (G : Nat) (vN vO : Value) (T : Tab) (hT : T.Ok) (hL : T.L ≤ 3) (hL0 : 0 < T.L) (hn : T.n < 100000) (hTB : TB w G vN vO T) :
    Calls Try.prog 83 #[.pointer (some ⟨G, 0, none⟩)] w fun e w' => ∃ v, e = .returned v ∧ Own w' w.heap.size 4 v (bls (tvL T)) ∧ Below w.heap.size w w' := by
  have hpos := hT.pos
  obtain ⟨gN, cN, rfl, _, _⟩ := hTB.2.1.blk (fun e => by have h1 := congrArg List.length e; rw [tbL_length] at h1; simp at h1; omega)
  obtain ⟨gO, cO, rfl, _, _⟩ := hTB.2.2.blk (fun e => by have h1 := congrArg List.length e; rw [tbL_length] at h1; simp at h1; omega)
  rw [tbL_length, tbL_length] at hTB
  have hread := hid (fun W (hb : Below w.heap.size w W) => (show W.cell? ⟨G, 0, none⟩ = some (.slice (some ⟨gN, 0, none⟩) T.n cN) ∧ W.cell? ⟨G, 1, none⟩ = some (.slice (some ⟨gO, 0, none⟩) T.n cO) from ⟨(hTB.below hb).c0, (hTB.below hb).c1⟩))
  have hrowN := hid (fun q (hq : q < T.n) => (show ∃ g c, ∀ W, Below w.heap.size w W → W.cell? ⟨gN, q, none⟩ = some (.slice (some ⟨g, 0, none⟩) T.L c) ∧ Own W G 2 (.slice (some ⟨g, 0, none⟩) T.L c) (ints (rwI T.nx q T.L)) from by
    obtain ⟨rows, hO, hlr, hall⟩ := hTB.2.1
    have hi : q < rows.length := by rw [hlr, tbL_length]; exact hq
    obtain ⟨r, hr⟩ : ∃ r, rows[q]? = some r := ⟨_, List.getElem?_eq_getElem hi⟩
    have hrow := hall q r _ hr (tbL_get T.nx T.n T.L q hq)
    obtain ⟨g, c, rfl, _, _⟩ := hrow.blk (fun e => by have h1 := congrArg List.length e; rw [ints_length, rwI_length] at h1; simp at h1; omega)
    rw [ints_length, rwI_length] at hr hrow
    exact ⟨g, c, fun W hb => ⟨(hO.below hb).cellAt q _ hr, hrow.below hb⟩⟩))
  have hrowO := hid (fun q (hq : q < T.n) => (show ∃ g c, ∀ W, Below w.heap.size w W → W.cell? ⟨gO, q, none⟩ = some (.slice (some ⟨g, 0, none⟩) T.L c) ∧ ∀ x, x < T.L → W.cell? ⟨g, x, none⟩ = some (.int .i64 (T.ot q x : Nat)) from by
    obtain ⟨rows, hO, hlr, hall⟩ := hTB.2.2
    have hi : q < rows.length := by rw [hlr, tbL_length]; exact hq
    obtain ⟨r, hr⟩ : ∃ r, rows[q]? = some r := ⟨_, List.getElem?_eq_getElem hi⟩
    have hrow := hall q r _ hr (tbL_get T.ot T.n T.L q hq)
    obtain ⟨g, c, rfl, _, _⟩ := hrow.blk (fun e => by have h1 := congrArg List.length e; rw [ints_length, rwI_length] at h1; simp at h1; omega)
    rw [ints_length, rwI_length] at hr hrow
    exact ⟨g, c, fun W hb => ⟨(hO.below hb).cellAt q _ hr, fun x hx => (hrow.below hb).cellAt x _ (by simp [ints, rwI_get _ _ _ _ hx])⟩⟩))
  have hmk := fun W : World => run_make_row' (P := Try.prog) 90 4 (.bool false) 1 Try.underlying90 info_bool rfl .i64 .i64 T.n (by omega) (by omega) W
  have hmc := hid (toList_madeCells_one (.bool false) T.n)
  generalize madeCells #[.bool false] T.n = mc at *
  have hmcs := hid (show mc.size = T.n by rw [← Array.length_toList, hmc.out, List.length_replicate])
  have hmf : ∀ (fn : Fn) (first cap : Array Value) (w : World), (Instr.makeFunc fn first cap).run Try.prog w = .ok (.func fn first cap) w := fun _ _ _ _ => rfl
  have hS := (St.start w).newArr mc T.n hmcs.out 4 (by omega)
  rw [hmc.out, ← keptL_zero T T.n] at hS
  have hS2 := hid (hS.newBlk #[.slice (some ⟨w.heap.size, 0, none⟩) T.n T.n] 90)
  rw [heap_alloc_size] at hS2
  clear hS
  have e1 := (hread.out w (Below.refl _ _)).2
  have hkd := hid (keptL_done T)
  have hks := hid (keptL_set T)
  have hlt := hid (fun q x hq hx => hT.nx q x hq hx)
  have hgo := hid (Nat.le_refl w.heap.size)
  replace hT := hid hT; replace hTB := hid hTB; replace hmcs := hid hmcs
  generalize hnn : T.n = n at *
  generalize hLL : T.L = L at *
  replace hnn := hid hnn; replace hLL := hid hLL
  go_enter Try.func83, Try.ntmps83
  go_upto_region 2 with (fail)
  clear e1
  have e1 := (hread.out _ hS2.out.bel).2
  generalize (w.alloc (.cells mc 4)).alloc (.cells #[.slice (some ⟨w.heap.size, 0, none⟩) n n] 90) = W1 at *
  generalize hgoe : w.heap.size = go at *
  replace hgoe := hid hgoe
  go_wp2
  clear e1
  go_loopw [22] (fun i wr => ∃ q : Nat, q ≤ n ∧ i = .int .i64 q ∧ St go w [Asn.blk (go + 1) #[.slice (some ⟨go, 0, none⟩) n n] 90, Asn.own go 4 (.slice (some ⟨go, 0, none⟩) n n) (bls (keptL T q n))] wr) (fun i _ => n - (intOf i).toNat)
  case atStart => exact ⟨0, Nat.zero_le _, rfl, hS2.out⟩
  case round =>
    obtain ⟨q, hq, rfl, rS⟩ := hrel
    clear hS2
    replace rS := hid rS
    by_cases hqn : q < n
    · obtain ⟨g2, c2, hr2⟩ := hrowO.out q hqn
      have e1 := (hr2 _ rS.out.bel).1
      have cb := cell_of_row _ _ 0 _ _ _ rS.out.k0
      have hl0 := hid (show (bls (keptL T q n)).length = n by rw [bls_length, keptL_length])
      have fo := Own.frozenAt rS.out.o1 hl0.out q
      obtain ⟨u0, hu0⟩ : ∃ u, (bls (keptL T q n))[q]? = some u := ⟨_, List.getElem?_eq_getElem (by rw [hl0.out]; exact hqn)⟩
      have co := Own.cellAt rS.out.o1 q u0 hu0
      clear hu0
      have hset := hid (rS.out.f1.setOwn hl0.out q (.bool true) hqn)
      rw [bls_set] at hset
      go_upto_region 6 with (fail)
      replace hset := hid hset.out
      generalize wr.setCell ⟨go, q, none⟩ (.bool true) = wa at *
      clear e1 cb fo co rS
      go_wp2
      have hset2 := hid (show St go w [Asn.own go 4 (.slice (some ⟨go, 0, none⟩) n n) (bls ((keptL T q n).set q (alls 0 fun x => T.ot q x == x))), Asn.blk (go + 1) #[.slice (some ⟨go, 0, none⟩) n n] 90] wa from hset.out)
      clear hset
      go_loopw [32] (fun i wr => ∃ x : Nat, x ≤ L ∧ i = .int .i64 x ∧ St go w [Asn.own go 4 (.slice (some ⟨go, 0, none⟩) n n) (bls ((keptL T q n).set q (alls x fun x => T.ot q x == x))), Asn.blk (go + 1) #[.slice (some ⟨go, 0, none⟩) n n] 90] wr) (fun i _ => L - (intOf i).toNat)
      case atStart => exact ⟨0, Nat.zero_le _, rfl, hset2.out⟩
      case round =>
        obtain ⟨x, hx, rfl, yS⟩ := hrel
        clear hset2
        replace yS := hid yS
        by_cases hxL : x < L
        · have ci := (hr2 _ yS.out.bel).2 x hxL
          have cb := cell_of_row _ _ 0 _ _ _ yS.out.k1
          have hl1 := hid (show (bls ((keptL T q n).set q (alls x fun x => T.ot q x == x))).length = n by rw [bls_length, List.length_set, keptL_length])
          have hg1 := hid (show ((keptL T q n).set q (alls x fun x => T.ot q x == x))[q]? = some (alls x fun x => T.ot q x == x) by rw [List.getElem?_set_self (by rw [keptL_length]; exact hqn)])
          have hsc := hid (show alls (x + 1) (fun x => T.ot q x == x) = ((alls x fun x => T.ot q x == x) && (T.ot q x == x)) from alls_succ x _)
          have hss := hid (fun b => (show ((keptL T q n).set q (alls x fun x => T.ot q x == x)).set q b = (keptL T q n).set q b by rw [List.set_set]))
          have hnx := hid (fun b => bls_set ((keptL T q n).set q (alls x fun x => T.ot q x == x)) q b)
          generalize (keptL T q n).set q (alls x fun x => T.ot q x == x) = bl at *
          have co := Own.cellAt yS.out.o0 q _ (bls_get hg1.out)
          have fo := Own.frozenAt yS.out.o0 hl1.out q
          have hst := hid (fun b => (show St go w [Asn.own go 4 (.slice (some ⟨go, 0, none⟩) n n) (bls (bl.set q b)), Asn.blk (go + 1) #[.slice (some ⟨go, 0, none⟩) n n] 90] (wr.drew.setCell ⟨go, q, none⟩ (.bool b)) from by have h := yS.out.drew.setOwn hl1.out q (.bool b) hqn; rw [hnx.out] at h; exact h))
          by_cases hyy : T.ot q x = x
          · have hye : (((T.ot q x : Nat) : Int) == (x : Int)) = true := by simp [hyy]
            have hye2 : (T.ot q x == x) = true := by simp [hyy]
            clear hyy
            generalize T.ot q x = y at *
            cases hal : (alls x fun x => T.ot q x == x) with
            | true =>
              rw [hal] at co hsc
              clear hal
              have hfin := hid (show (keptL T q n).set q (alls (x + 1) fun x => T.ot q x == x) = bl.set q true by rw [hsc.out, hye2, hss.out]; rfl)
              have fo2 : wr.drew.frozen? ⟨go, q, none⟩ = false := fo
              have co2 : wr.drew.cell? ⟨go, q, none⟩ = some (.bool true) := co
              replace hst := hid (hst.out true)
              go_upto_region 9 with (fail)
              refine wp_region_still_tail 12 (by kernel_rfl) (by kernel_rfl) ?_
              simp only [List.take_succ_cons, List.take_zero, List.drop_succ_cons, List.drop_zero]
              repeat still_step
              try refine wpStill_nil ?_
              change wpList _ _ _ _ _ wr.drew
              clear fo co cb ci yS
              generalize wr.drew = wd at *
              go_wp2
              go_roundw
              case rel => exact ⟨x + 1, by omega, by go_num, by rw [hfin.out]; exact hst.out⟩
              case measure => simp [intOf]; omega
            | false =>
              rw [hal] at co hsc
              clear hal
              have hfin := hid (show (keptL T q n).set q (alls (x + 1) fun x => T.ot q x == x) = bl.set q false by rw [hsc.out, hye2, hss.out]; rfl)
              have fo2 : wr.drew.frozen? ⟨go, q, none⟩ = false := fo
              have co2 : wr.drew.cell? ⟨go, q, none⟩ = some (.bool false) := co
              replace hst := hid (hst.out false)
              go_upto_region 9 with (fail)
              refine wp_region_still_tail 12 (by kernel_rfl) (by kernel_rfl) ?_
              simp only [List.take_succ_cons, List.take_zero, List.drop_succ_cons, List.drop_zero]
              repeat still_step
              try refine wpStill_nil ?_
              change wpList _ _ _ _ _ wr.drew
              clear fo co cb ci yS
              generalize wr.drew = wd at *
              go_wp2
              go_roundw
              case rel => exact ⟨x + 1, by omega, by go_num, by rw [hfin.out]; exact hst.out⟩
              case measure => simp [intOf]; omega
          · have hye : (((T.ot q x : Nat) : Int) == (x : Int)) = false := by simp; omega
            have hye2 : (T.ot q x == x) = false := by simp [hyy]
            clear hyy
            generalize T.ot q x = y at *
            cases hal : (alls x fun x => T.ot q x == x) with
            | true =>
              rw [hal] at co hsc
              clear hal
              have hfin := hid (show (keptL T q n).set q (alls (x + 1) fun x => T.ot q x == x) = bl.set q false by rw [hsc.out, hye2, hss.out]; rfl)
              have fo2 : wr.drew.frozen? ⟨go, q, none⟩ = false := fo
              have co2 : wr.drew.cell? ⟨go, q, none⟩ = some (.bool true) := co
              replace hst := hid (hst.out false)
              go_upto_region 9 with (fail)
              refine wp_region_still_tail 12 (by kernel_rfl) (by kernel_rfl) ?_
              simp only [List.take_succ_cons, List.take_zero, List.drop_succ_cons, List.drop_zero]
              repeat still_step
              try refine wpStill_nil ?_
              change wpList _ _ _ _ _ wr.drew
              clear fo co cb ci yS
              generalize wr.drew = wd at *
              go_wp2
              go_roundw
              case rel => exact ⟨x + 1, by omega, by go_num, by rw [hfin.out]; exact hst.out⟩
              case measure => simp [intOf]; omega
            | false =>
              rw [hal] at co hsc
              clear hal
              have hfin := hid (show (keptL T q n).set q (alls (x + 1) fun x => T.ot q x == x) = bl.set q false by rw [hsc.out, hye2, hss.out]; rfl)
              have fo2 : wr.drew.frozen? ⟨go, q, none⟩ = false := fo
              have co2 : wr.drew.cell? ⟨go, q, none⟩ = some (.bool false) := co
              replace hst := hid (hst.out false)
              go_upto_region 9 with (fail)
              refine wp_region_still_tail 12 (by kernel_rfl) (by kernel_rfl) ?_
              simp only [List.take_succ_cons, List.take_zero, List.drop_succ_cons, List.drop_zero]
              repeat still_step
              try refine wpStill_nil ?_
              change wpList _ _ _ _ _ wr.drew
              clear fo co cb ci yS
              generalize wr.drew = wd at *
              go_wp2
              go_roundw
              case rel => exact ⟨x + 1, by omega, by go_num, by rw [hfin.out]; exact hst.out⟩
              case measure => simp [intOf]; omega
        · obtain rfl : x = L := by omega
          have hk : (keptL T q n).set q (alls x fun x => T.ot q x == x) = keptL T (q + 1) n := by rw [← hks.out q n]; unfold Go.Proofs.Ytbmkkaecfogmoaa.kept; rw [hLL.out]
          rw [hk] at yS
          clear hk
          go_wp2
          go_roundw
          case rel => exact ⟨q + 1, by omega, by go_num, yS.out.f1⟩
          case measure => simp [intOf]; omega
    · obtain rfl : q = n := by omega
      have hB0 : Hid (TvB T (keptL T q q)) := hkd
      obtain ⟨bl, hbl⟩ : ∃ bl, bl = keptL T q q := ⟨_, rfl⟩
      rw [← hbl] at hB0 rS
      clear hbl hkd hks hrowO hmk hmc hmcs
      have hcb := hid (show cntB bl + 1 ≤ q + 1 from by have h1 := cntB_le bl; have h2 := hB0.out.1; rw [hnn.out] at h2; omega)
      go_wp2
      go_loopg [8] (q + 1) (fun gk a wr => ∃ (bl : List Bool) (ab : Bool), a = .bool ab ∧ Hid (TvB T bl) ∧ Hid (ab = true → cntB bl + 1 ≤ gk) ∧ Hid (ab = false → TvC T bl q) ∧ St go w [Asn.blk (go + 1) #[.slice (some ⟨go, 0, none⟩) q q] 90, Asn.own go 4 (.slice (some ⟨go, 0, none⟩) q q) (bls bl)] wr)
      case atStart => exact ⟨bl, true, rfl, hB0, fun _ => hcb.out, fun h => (by cases h), rS.out⟩
      case round =>
        obtain ⟨bl, ab, rfl, hB, hc1, hc2, yS⟩ := hrel
        clear rS hB0 hcb
        replace yS := hid yS
        cases ab with
        | false =>
          have hfin := hid (hB.out.done (by have h := hc2.out rfl; rw [← hnn.out] at h; exact h))
          clear hc1 hc2
          have cb := cell_of_row _ _ 0 _ _ _ yS.out.k0
          go_wp2
          go_ret
          exact ⟨_, rfl, by rw [← hfin.out, hgoe.out]; exact yS.out.o1, by rw [hgoe.out]; exact yS.out.bel⟩
        | true =>
          clear hc2
          have e0 := (hread.out _ yS.out.bel).1
          go_wp2
          clear e0
          go_loopw [8, 57] (fun a i wr => ∃ (j : Nat) (b2 : List Bool) (a2 : Bool), j ≤ q ∧ i = .int .i64 j ∧ a = .bool a2 ∧ Hid (TvB T b2) ∧ Hid (cntB b2 ≤ cntB bl) ∧ Hid (a2 = true → cntB b2 + 1 ≤ cntB bl) ∧ Hid (a2 = false → TvC T b2 j) ∧ St go w [Asn.blk (go + 1) #[.slice (some ⟨go, 0, none⟩) q q] 90, Asn.own go 4 (.slice (some ⟨go, 0, none⟩) q q) (bls b2)] wr) (fun _ i _ => q - (intOf i).toNat)
          case atStart => exact ⟨0, bl, false, Nat.zero_le _, rfl, rfl, hB, Nat.le_refl _, (fun h => by cases h), (fun _ j hj => absurd hj (by omega)), yS.out⟩
          case round =>
            obtain ⟨j, b2, a2, hj, rfl, rfl, hB2, hle, hd1, hd2, zS⟩ := hrel
            clear yS
            replace zS := hid zS
            by_cases hjq : j < q
            · obtain ⟨g2, c2, hr2⟩ := hrowN.out j hjq
              have e1 := (hr2 _ zS.out.bel).1
              have cb := cell_of_row _ _ 0 _ _ _ zS.out.k0
              have hbl := hid (show (bls b2).length = q by rw [bls_length, hB2.out.1, hnn.out])
              obtain ⟨u, hu⟩ : ∃ u, b2[j]? = some u := ⟨_, List.getElem?_eq_getElem (by rw [hB2.out.1, hnn.out]; exact hjq)⟩
              have co := Own.cellAt zS.out.o1 j _ (bls_get hu)
              cases u with
              | false =>
                have hC := hid (fun h => TvC.more hT.out hB2.out.1 (by rw [hnn.out]; exact hjq) (hd2.out h) (fun k => by rw [hu] at k; cases k))
                clear hu
                go_wp2
                go_roundw
                case rel => exact ⟨j + 1, b2, a2, by omega, by go_num, rfl, hB2, hle, hd1, hC, zS.out⟩
                case measure => simp [intOf]; omega
              | true =>
                have hlo : (rwI T.nx j L).any (fun r => !(b2.getD r.toNat false)) = lost T b2 j := by rw [← hLL.out]; rfl
                have hcf := hid (containsFuncI_triv (go + 1) wr G (.slice (some ⟨g2, 0, none⟩) L c2) (rwI T.nx j L) (hr2 _ zS.out.bel).2 (by rw [rwI_length]; omega) (fun r => !(b2.getD r.toNat false)) (fun W' hW' x hx => by
                  obtain ⟨k, hk, rfl⟩ := List.mem_map.1 hx
                  have hkl := hlt.out j k hjq (List.mem_range.1 hk)
                  have zS' := zS.out.call hW'
                  have hg : b2[T.nx j k]? = some (b2.getD (T.nx j k) false) := by
                    have hl2 : T.nx j k < b2.length := by rw [hB2.out.1, hnn.out]; exact hkl
                    rw [List.getD_eq_getElem?_getD, List.getElem?_eq_getElem hl2]; rfl
                  refine (triv1_any (go + 1) go q q (T.nx j k) _ W' (cell_of_row _ _ 0 _ _ _ zS'.k0) hkl (Own.cellAt zS'.o1 _ _ (bls_get hg))).mono ?_
                  rintro e w' ⟨rfl, rfl⟩
                  exact ⟨rfl, Below.refl _ _⟩))
                rw [hlo] at hcf
                cases hl : lost T b2 j with
                | false =>
                  rw [hl] at hcf
                  have hC := hid (fun h => TvC.more hT.out hB2.out.1 (by rw [hnn.out]; exact hjq) (hd2.out h) (fun _ => hl))
                  clear hu hl hlo
                  go_wp2_with (first
                    | (go_at_call 122; (with_reducible refine (hcf.out).mono ?_); rintro e w2 ⟨rfl, hb⟩; replace zS := hid (zS.out.call hb); clear hb))
                  go_roundw
                  case rel => exact ⟨j + 1, b2, a2, by omega, by go_num, rfl, hB2, hle, hd1, hC, zS.out⟩
                  case measure => simp [intOf]; omega
                | true =>
                  rw [hl] at hcf
                  have hB3 := hid (TvB.strike hT.out hB2.out (by rw [hnn.out]; exact hjq) hl)
                  have hc3 := hid (show cntB (b2.set j false) + 1 ≤ cntB bl from by have h1 := cntB_set b2 j hu; have h2 := hle.out; omega)
                  clear hl hlo
                  go_upto_region 19 with (first
                    | (go_at_call 122; (with_reducible refine (hcf.out).mono ?_); rintro e w2 ⟨rfl, hb⟩; replace zS := hid (zS.out.call hb); clear hb))
                  clear cb co e1
                  have cb := cell_of_row _ _ 0 _ _ _ zS.out.k0
                  have co := Own.cellAt zS.out.o1 j _ (bls_get hu)
                  have fo := Own.frozenAt zS.out.o1 hbl.out j
                  clear hu
                  have zS2 := hid (zS.out.f1.setOwn hbl.out j (.bool false) hjq)
                  rw [bls_set] at zS2
                  go_wp2
                  go_roundw
                  case rel => exact ⟨j + 1, b2.set j false, true, by omega, by go_num, rfl, hB3, hid (by have := hc3.out; omega), fun _ => hc3.out, (fun h => by cases h), zS2.out.f1⟩
                  case measure => simp [intOf]; omega
            · obtain rfl : j = q := by omega
              have hc4 := hid (show (a2 = true → cntB b2 + 1 ≤ (if a2 = true then cntB b2 + 1 else 0)) ∧ (if a2 = true then cntB b2 + 1 else 0) < gk from by
                have h1 := hc1.out (by first | rfl | trivial)
                cases a2 with
                | true => have h2 := hd1.out rfl; simp; omega
                | false => simp; omega)
              clear hc1
              go_wp2
              go_roundg (if a2 = true then cntB b2 + 1 else 0)
              case measure => exact hc4.out.2
              case rel => exact ⟨b2, a2, rfl, hB2, hid hc4.out.1, hd2, zS.out⟩
end Go.Proofs.Ytbmkkaecfogmoaa

/- The group of a machine, in its block. -/
namespace Go.Proofs.Ytbmkkaecfogmoaa
open Go.RowKit
set_option linter.unusedVariables false
set_option linter.unusedSimpArgs false
-- @LONG

/-- The cells of a group: a machine, its inverse, the least equal states, the trivial ones. -/
def gcells (m k : Mach) (v1 v2 : Value) : Array Value := mcells m ++ mcells k ++ #[v1, v2]
theorem gcells_m {m k : Mach} {v1 v2 : Value} (i : Nat) (h : i < 98) : (gcells m k v1 v2)[i]? = some (mf m i) := by
  unfold gcells
  rw [Array.append_assoc, Array.getElem?_append_left (by rw [size_mcells]; exact h)]
  exact mcells_get m i h
theorem gcells_k {m k : Mach} {v1 v2 : Value} (i : Nat) (h : i < 98) : (gcells m k v1 v2)[98 + i]? = some (mf k i) := by
  unfold gcells
  rw [Array.append_assoc, Array.getElem?_append_right (by rw [size_mcells]; omega), size_mcells, Array.getElem?_append_left (by rw [size_mcells]; omega), show 98 + i - 98 = i by omega]
  exact mcells_get k i h
theorem gcells_1 {m k : Mach} {v1 v2 : Value} : (gcells m k v1 v2)[196]? = some v1 := by
  unfold gcells
  rw [Array.getElem?_append_right (by rw [Array.size_append, size_mcells, size_mcells]; omega), Array.size_append, size_mcells, size_mcells]
  rfl
theorem gcells_2 {m k : Mach} {v1 v2 : Value} : (gcells m k v1 v2)[197]? = some v2 := by
  unfold gcells
  rw [Array.getElem?_append_right (by rw [Array.size_append, size_mcells, size_mcells]; omega), Array.size_append, size_mcells, size_mcells]
  rfl
/-- A group in its block, with what it points to. -/
structure GrB (w : World) (G base : Nat) (m : Mach) (l s : Nat) (v1 v2 : Value) : Prop where
  blk : w.heap[G]? = some (.cells (gcells m (inv m l s) v1 v2) 221 (0, 0))
  of : Own w base 2 v1 (nats ((List.range s).map (fix (tabOf m l s))))
  tr : Own w base 4 v2 (bls (tvL (tabOf m l s)))
section
variable {w w' : World} {G base : Nat} {m : Mach} {l s : Nat} {v1 v2 : Value}
theorem GrB.lt (h : GrB w G base m l s v1 v2) : G < w.heap.size := (Array.getElem?_eq_some_iff.1 h.blk).1
theorem GrB.below (h : GrB w G base m l s v1 v2) (hb : Below w.heap.size w w') : GrB w' G base m l s v1 v2 := ⟨(hb.block G h.lt).trans h.blk, h.of.below hb, h.tr.below hb⟩
theorem GrB.drewN (h : GrB w G base m l s v1 v2) (n : Nat) : GrB (w.drewN n) G base m l s v1 v2 := ⟨h.blk, h.of.drewN n, h.tr.drewN n⟩
theorem GrB.cL (h : GrB w G base m l s v1 v2) : w.cell? ⟨G, 0, none⟩ = some (.int .i64 m.L) := (cell_of_row w G 0 _ _ _ h.blk).trans (gcells_m 0 (by omega))
theorem GrB.cnx (h : GrB w G base m l s v1 v2) (q x : Nat) (hq : q < 16) (hx : x < 3) : w.cell? ⟨G, 2 + q * 3 + x, none⟩ = some (.int .u8 (m.nx (q * 3 + x) : Nat)) := by
  rw [cell_of_row w G _ _ _ _ h.blk, gcells_m _ (by omega), mf_nx m q x hq hx]
theorem GrB.cot (h : GrB w G base m l s v1 v2) (q x : Nat) (hq : q < 16) (hx : x < 3) : w.cell? ⟨G, 50 + q * 3 + x, none⟩ = some (.int .u8 (m.ot (q * 3 + x) : Nat)) := by
  rw [cell_of_row w G _ _ _ _ h.blk, gcells_m _ (by omega), mf_ot m q x]
theorem GrB.bnx (h : GrB w G base m l s v1 v2) (q x : Nat) (hq : q < 16) (hx : x < 3) : w.cell? ⟨G, 98 + (2 + q * 3 + x), none⟩ = some (.int .u8 ((inv m l s).nx (q * 3 + x) : Nat)) := by
  rw [cell_of_row w G _ _ _ _ h.blk, gcells_k _ (by omega), mf_nx _ q x hq hx]
theorem GrB.bot (h : GrB w G base m l s v1 v2) (q x : Nat) (hq : q < 16) (hx : x < 3) : w.cell? ⟨G, 98 + (50 + q * 3 + x), none⟩ = some (.int .u8 ((inv m l s).ot (q * 3 + x) : Nat)) := by
  rw [cell_of_row w G _ _ _ _ h.blk, gcells_k _ (by omega), mf_ot _ q x]
theorem GrB.c1 (h : GrB w G base m l s v1 v2) : w.cell? ⟨G, 196, none⟩ = some v1 := (cell_of_row w G 196 _ _ _ h.blk).trans gcells_1
theorem GrB.c2 (h : GrB w G base m l s v1 v2) : w.cell? ⟨G, 197, none⟩ = some v2 := (cell_of_row w G 197 _ _ _ h.blk).trans gcells_2
end
set_option maxRecDepth 100000 in
theorem built_group (m k : Mach) (A1 A2 : Option Addr) (n1 c1 n2 c2 : Nat) : Try.prog.built 221 [(0, .agg (mcells m)), (1, .agg (mcells k)), (2, .slice A1 n1 c1), (3, .slice A2 n2 c2)] = some (gcells m k (.slice A1 n1 c1) (.slice A2 n2 c2)) := by kernel_rfl
theorem exec_build {a : Act} {o : Oper} {W : World} {t : TypeId} (parts : Array (Nat × Operand)) {cells : Array Value} (ho : o.op = .build t parts) (h : Try.prog.built t (parts.map fun (i, x) => (i, a.eval x)).toList = some cells) :
    (execOp a.eval o).run Try.prog W = .ok (.value (.agg cells)) W := by
  have h2 := run_build (P := Try.prog) W t _ cells h
  unfold execOp
  simp only [ho, Sem.run_bind, h2, Result.andThen_ok, Sem.run_pure]
theorem exec_group {a : Act} {o : Oper} {W : World} (x y z u : Operand) (ho : o.op = .build 221 #[(0, x), (1, y), (2, z), (3, u)]) (m k : Mach) (A1 A2 : Option Addr) (n1 c1 n2 c2 : Nat)
    (hx : a.eval x = .agg (mcells m)) (hy : a.eval y = .agg (mcells k)) (hz : a.eval z = .slice A1 n1 c1) (hu : a.eval u = .slice A2 n2 c2) :
    (execOp a.eval o).run Try.prog W = .ok (.value (.agg (gcells m k (.slice A1 n1 c1) (.slice A2 n2 c2)))) W := by
  have e : ((#[(0, x), (1, y), (2, z), (3, u)] : Array (Nat × Operand)).map fun (i, x) => (i, a.eval x)).toList = [(0, .agg (mcells m)), (1, .agg (mcells k)), (2, .slice A1 n1 c1), (3, .slice A2 n2 c2)] := by simp [hx, hy, hz, hu]
  exact exec_build _ ho (by rw [e]; exact built_group m k A1 A2 n1 c1 n2 c2)

set_option maxHeartbeats 4000000 in
set_option maxRecDepth 100000 in
theorem newGroup_any (w : World) (m : Mach) (hk : m.Ok) (l s : Nat) (g : Good m l s) :
    Calls Try.prog 226 #[.agg (mcells m)] w fun e w' => ∃ G v1 v2, e = .returned (.pointer (some ⟨G, 0, none⟩)) ∧ w.heap.size ≤ G ∧ GrB w' G w.heap.size m l s v1 v2 ∧ Below w.heap.size w w' := by
  have hS := hid ((St.start w).newMB m 27)
  have hta := hid (fun W hW => table_any w.heap.size W m hW l s g)
  have hiv := hid (fun W hW => inverse_any w.heap.size W m hW l s g hk)
  have hle := hid (fun W G vN vO hW => least_any W G vN vO (tabOf m l s) (tabOf_ok g) (by show l < 100; have := g.l3; omega) (by show 0 < l; have := g.l2; omega) (by show s < 100000; have := g.s16; omega) hW)
  have htr := hid (fun W G vN vO hW => trivial_any W G vN vO (tabOf m l s) (tabOf_ok g) g.l3 (by show 0 < l; have := g.l2; omega) (by show s < 100000; have := g.s16; omega) hW)
  have hgb := hid (fun W G v1 v2 base h1 h2 h3 => (GrB.mk h1 h2 h3 : GrB W G base m l s v1 v2))
  replace hk := hid hk; replace g := hid g
  go_enter Try.func226, Try.ntmps226
  go_upto_region 2 with (first
    | (go_at_call 82; (with_reducible refine (hta.out _ hS.out.m0).mono ?_); rintro e w1 ⟨vN, vO, rfl, hT, hb⟩; replace hS := hid (hS.out.call hb); replace hT := hid hT; clear hb))
  rw [heap_alloc_size] at hT
  generalize w.heap.size + 1 = G1 at *
  replace hS := hid hS.out.drew
  replace hT := hid (show TB w1.drew G1 vN vO (tabOf m l s) from hT.out.below (below_drewN (Below.refl _ _) 1))
  refine wp_region_heldL (L := [(7, (fun w' : World => MB w' 27 w.heap.size m))]) (by kernel_rfl) (HeldL.cons (fun _ => hS.out.m0) HeldL.nil) (fun hHeld => ?_)
  generalize w1.drew = wa at *
  refine wpAnyL_takeP (i := 0) 7 [6] (v := (.agg (mcells m))) (fun w' : World => MB w' 27 w.heap.size m) rfl (by kernel_rfl) (by kernel_rfl) (by kernel_rfl) (by rfl) (by kernel_rfl) (by simp) (fun _ _ _ h => h) (Or.inl ⟨by rfl, ?_⟩) (by assumption) ?_
  · (intro W hW; exact exec_load _ rfl rfl (load_run hW))
  intro hHeld'
  clear hHeld; have hHeld := hHeld'; clear hHeld'
  try simp only [Act.put, List.getElem_toArray, List.getElem_cons_succ, List.getElem_cons_zero, List.setIfInBounds_toArray, List.set_cons_zero, List.set_cons_succ]
  refine wpAnyL_take0 (i := 2) (v := ?_) rfl (by kernel_rfl) (by kernel_rfl) (by kernel_rfl) (by rfl) (fun _ _ _ h => h) (Or.inl ⟨by rfl, ?_⟩) (by assumption) ?_
  rotate_left
  · (intro W _; go_simp; (with_reducible rfl))
  intro hHeld'
  clear hHeld; have hHeld := hHeld'; clear hHeld'
  try simp only [Act.put, List.getElem_toArray, List.getElem_cons_succ, List.getElem_cons_zero, List.setIfInBounds_toArray, List.set_cons_zero, List.set_cons_succ]
  refine wpAnyL_take0 (i := 4) (v := ?_) rfl (by kernel_rfl) (by kernel_rfl) (by kernel_rfl) (by rfl) (fun _ _ _ h => h) (Or.inl ⟨by rfl, ?_⟩) (by assumption) ?_
  rotate_left
  · (intro W _; go_simp; (with_reducible rfl))
  intro hHeld'
  clear hHeld; have hHeld := hHeld'; clear hHeld'
  try simp only [Act.put, List.getElem_toArray, List.getElem_cons_succ, List.getElem_cons_zero, List.setIfInBounds_toArray, List.set_cons_zero, List.set_cons_succ]
  refine wpAnyL_ready (rs := [1]) (by kernel_rfl) (by simp) ?_
  refine AllReadyL.cons rfl (fun K hK => ?_) AllReadyL.nil
  go_simp
  (with_reducible refine (hiv.out _ hS.out.m0).mono ?_)
  rintro e w2 ⟨rfl, hb⟩
  replace hS := hid (hS.out.call hb)
  replace hT := hid (hT.out.below hb)
  clear hb
  go_simp
  refine hK.out _ _ (HeldL.cons (fun _ => hS.out.m0) HeldL.nil) (fun hHeld' => ?_)
  clear hK K hHeld; have hHeld := hHeld'; clear hHeld'
  try simp only [Act.put, List.getElem_toArray, List.getElem_cons_succ, List.getElem_cons_zero, List.setIfInBounds_toArray, List.set_cons_zero, List.set_cons_succ]
  refine wpAnyL_ready (rs := [3]) (by kernel_rfl) (by simp) ?_
  refine AllReadyL.cons rfl (fun K hK => ?_) AllReadyL.nil
  go_simp
  (with_reducible refine (hle.out _ _ _ _ hT.out).mono ?_)
  rintro e w3 ⟨v1, rfl, hO1, hb⟩
  replace hS := hid (hS.out.callOwn hb hO1)
  replace hT := hid (hT.out.below hb)
  clear hb hO1
  go_simp
  refine hK.out _ _ (HeldL.cons (fun _ => hS.out.m1) HeldL.nil) (fun hHeld' => ?_)
  clear hK K hHeld; have hHeld := hHeld'; clear hHeld'
  try simp only [Act.put, List.getElem_toArray, List.getElem_cons_succ, List.getElem_cons_zero, List.setIfInBounds_toArray, List.set_cons_zero, List.set_cons_succ]
  refine wpAnyL_ready (rs := [5]) (by kernel_rfl) (by simp) ?_
  refine AllReadyL.cons rfl (fun K hK => ?_) AllReadyL.nil
  go_simp
  (with_reducible refine (htr.out _ _ _ _ hT.out).mono ?_)
  rintro e w4 ⟨v2, rfl, hO2, hb⟩
  replace hS := hid (hS.out.callOwn hb hO2)
  clear hb hO2 hT
  obtain ⟨A1, c1, rfl, _, _⟩ := hS.out.o1.form
  obtain ⟨A2, c2, rfl, _, _⟩ := hS.out.o0.form
  go_simp
  refine hK.out _ _ (HeldL.cons (fun _ => hS.out.m2) HeldL.nil) (fun hHeld' => ?_)
  clear hK K hHeld; have hHeld := hHeld'; clear hHeld'
  try simp only [Act.put, List.getElem_toArray, List.getElem_cons_succ, List.getElem_cons_zero, List.setIfInBounds_toArray, List.set_cons_zero, List.set_cons_succ]
  refine wpAnyL_take0 (i := 6) (v := (.agg (gcells m (inv m l s) (.slice A1 (nats (List.map (fix (tabOf m l s)) (List.range (tabOf m l s).n))).length c1) (.slice A2 (bls (tvL (tabOf m l s))).length c2)))) rfl (by kernel_rfl) (by kernel_rfl) (by kernel_rfl) (by rfl) (fun _ _ _ h => h) (Or.inl ⟨by rfl, ?_⟩) (by assumption) ?_
  · (intro W _; exact exec_group _ _ _ _ rfl m (inv m l s) _ _ _ _ _ _ rfl rfl rfl rfl)
  intro hHeld'
  clear hHeld; have hHeld := hHeld'; clear hHeld'
  try simp only [Act.put, List.getElem_toArray, List.getElem_cons_succ, List.getElem_cons_zero, List.setIfInBounds_toArray, List.set_cons_zero, List.set_cons_succ]
  refine wpAnyL_ready (rs := [7]) (by kernel_rfl) (by simp) ?_
  refine AllReadyL.cons rfl (fun K hK => ?_) AllReadyL.nil
  go_simp
  have hge := hid hS.out.le
  replace hS := hid (hS.out.newBlk (gcells m (inv m l s) (.slice A1 (nats (List.map (fix (tabOf m l s)) (List.range (tabOf m l s).n))).length c1) (.slice A2 (bls (tvL (tabOf m l s))).length c2)) 221)
  generalize w4.heap.size = G at *
  refine hK.out _ _ (HeldL.cons (fun h => absurd h (by decide +kernel)) HeldL.nil) (fun hHeld' => ?_)
  clear hK K hHeld; have hHeld := hHeld'; clear hHeld'
  try simp only [Act.put, List.getElem_toArray, List.getElem_cons_succ, List.getElem_cons_zero, List.setIfInBounds_toArray, List.set_cons_zero, List.set_cons_succ]
  refine wpAnyL_take0 (i := 8) (v := ?_) rfl (by kernel_rfl) (by kernel_rfl) (by kernel_rfl) (by rfl) (fun _ _ _ h => h) (Or.inl ⟨by rfl, ?_⟩) (by assumption) ?_
  rotate_left
  · (intro W _; go_simp; (with_reducible rfl))
  intro hHeld'
  clear hHeld; have hHeld := hHeld'; clear hHeld'
  try simp only [Act.put, List.getElem_toArray, List.getElem_cons_succ, List.getElem_cons_zero, List.setIfInBounds_toArray, List.set_cons_zero, List.set_cons_succ]
  refine wpAnyL_done (by kernel_rfl) ?_ _
  have hfin := hid (hgb.out _ _ _ _ _ hS.out.k0 hS.out.o2 hS.out.o1)
  go_wp2
  go_ret
  exact ⟨G, _, _, rfl, hge.out, hfin.out, hS.out.bel⟩
end Go.Proofs.Ytbmkkaecfogmoaa

/- What a number of a group word makes of a letter: the program's apply, at and image. -/
namespace Go.Proofs.Ytbmkkaecfogmoaa
open Go.RowKit
set_option linter.unusedVariables false
set_option linter.unusedSimpArgs false
-- @LONG

/-- The image of a letter, and the number that goes on. -/
def apO (m : Mach) (l s : Nat) (k : Int) (x : Nat) : Nat := if 0 < k then m.ot ((k - 1).toNat * 3 + x) else (inv m l s).ot ((-k - 1).toNat * 3 + x)
def apN (m : Mach) (l s : Nat) (k : Int) (x : Nat) : Int := if 0 < k then (m.nx ((k - 1).toNat * 3 + x) : Int) + 1 else -((inv m l s).nx ((-k - 1).toNat * 3 + x) : Int) - 1
section
variable {m : Mach} {l s : Nat}
theorem isNum_cases {k : Int} (h : isNum s k) : ∃ q : Nat, q < s ∧ (k = (q : Int) + 1 ∨ k = -((q : Int) + 1)) := by
  obtain ⟨h1, h2, h3⟩ := h
  by_cases hk : 0 < k
  · exact ⟨(k - 1).toNat, by omega, .inl (by omega)⟩
  · exact ⟨(-k - 1).toNat, by omega, .inr (by omega)⟩
theorem apO_pos (q x : Nat) : apO m l s ((q : Int) + 1) x = m.ot (q * 3 + x) := by
  unfold apO; rw [if_pos (by omega), show ((q : Int) + 1 - 1).toNat = q by omega]
theorem apN_pos (q x : Nat) : apN m l s ((q : Int) + 1) x = (m.nx (q * 3 + x) : Int) + 1 := by
  unfold apN; rw [if_pos (by omega), show ((q : Int) + 1 - 1).toNat = q by omega]
theorem apO_neg (q x : Nat) : apO m l s (-((q : Int) + 1)) x = (inv m l s).ot (q * 3 + x) := by
  unfold apO; rw [if_neg (by omega), show (-(-((q : Int) + 1)) - 1).toNat = q by omega]
theorem apN_neg (q x : Nat) : apN m l s (-((q : Int) + 1)) x = -((inv m l s).nx (q * 3 + x) : Int) - 1 := by
  unfold apN; rw [if_neg (by omega), show (-(-((q : Int) + 1)) - 1).toNat = q by omega]
theorem apO_lt (g : Good m l s) {k : Int} (h : isNum s k) {x : Nat} (hx : x < l) : apO m l s k x < l := by
  obtain ⟨q, hq, rfl | rfl⟩ := isNum_cases h
  · rw [apO_pos]; exact g.ot q x hq hx
  · rw [apO_neg]; exact (inv_good g).ot q x hq hx
theorem apN_num (g : Good m l s) {k : Int} (h : isNum s k) {x : Nat} (hx : x < l) : isNum s (apN m l s k x) := by
  obtain ⟨q, hq, rfl | rfl⟩ := isNum_cases h
  · rw [apN_pos]
    have := g.nx q x hq hx
    exact ⟨by omega, by omega, by omega⟩
  · rw [apN_neg]
    have := (inv_good g).nx q x hq hx
    exact ⟨by omega, by omega, by omega⟩
end
/-- The image of a letter under a word, and its section there. -/
def atX (m : Mach) (l s : Nat) : List Int → Nat → Nat
  | [], x => x
  | k :: t, x => atX m l s t (apO m l s k x)
def atS (m : Mach) (l s : Nat) : List Int → Nat → List Int
  | [], _ => []
  | k :: t, x => apN m l s k x :: atS m l s t (apO m l s k x)
section
variable {m : Mach} {l s : Nat}
theorem atX_snoc (u : List Int) (k : Int) : ∀ x, atX m l s (u ++ [k]) x = apO m l s k (atX m l s u x) := by
  induction u with
  | nil => intro x; rfl
  | cons a t ih => intro x; exact ih _
theorem atS_snoc (u : List Int) (k : Int) : ∀ x, atS m l s (u ++ [k]) x = atS m l s u x ++ [apN m l s k (atX m l s u x)] := by
  induction u with
  | nil => intro x; rfl
  | cons a t ih => intro x; show _ :: atS m l s (t ++ [k]) _ = _; rw [ih]; rfl
theorem atS_length (u : List Int) : ∀ x, (atS m l s u x).length = u.length := by
  induction u with
  | nil => intro x; rfl
  | cons a t ih => intro x; show (atS m l s t _).length + 1 = _; rw [ih]; rfl
theorem atX_lt (g : Good m l s) : ∀ (u : List Int) (x : Nat), (∀ k ∈ u, isNum s k) → x < l → atX m l s u x < l
  | [], x, _, hx => hx
  | k :: t, x, h, hx => atX_lt g t _ (fun j hj => h j (List.mem_cons_of_mem _ hj)) (apO_lt g (h k List.mem_cons_self) hx)
theorem atS_num (g : Good m l s) : ∀ (u : List Int) (x : Nat), (∀ k ∈ u, isNum s k) → x < l → ∀ k ∈ atS m l s u x, isNum s k
  | [], _, _, _, k, hk => by simp [atS] at hk
  | a :: t, x, h, hx, k, hk => by
    rcases List.mem_cons.1 hk with rfl | hk
    · exact apN_num g (h a List.mem_cons_self) hx
    · exact atS_num g t _ (fun j hj => h j (List.mem_cons_of_mem _ hj)) (apO_lt g (h a List.mem_cons_self) hx) k hk
end
/-- The image of a word under a group word, and its section there. -/
def imgW (m : Mach) (l s : Nat) : List Int → List Nat → List Nat
  | _, [] => []
  | g, x :: t => atX m l s g x :: imgW m l s (atS m l s g x) t
def secW (m : Mach) (l s : Nat) : List Int → List Nat → List Int
  | g, [] => g
  | g, x :: t => secW m l s (atS m l s g x) t
section
variable {m : Mach} {l s : Nat}
theorem imgW_length (u : List Nat) : ∀ g, (imgW m l s g u).length = u.length := by
  induction u with
  | nil => intro g; rfl
  | cons a t ih => intro g; show (imgW m l s _ t).length + 1 = _; rw [ih]; rfl
theorem secW_snoc (u : List Nat) (x : Nat) : ∀ g, secW m l s g (u ++ [x]) = atS m l s (secW m l s g u) x := by
  induction u with
  | nil => intro g; rfl
  | cons a t ih => intro g; exact ih _
theorem imgW_snoc (u : List Nat) (x : Nat) : ∀ g, imgW m l s g (u ++ [x]) = imgW m l s g u ++ [atX m l s (secW m l s g u) x] := by
  induction u with
  | nil => intro g; rfl
  | cons a t ih => intro g; show _ :: imgW m l s _ (t ++ [x]) = _; rw [ih]; rfl
theorem secW_length (u : List Nat) : ∀ g, (secW m l s g u).length = g.length := by
  induction u with
  | nil => intro g; rfl
  | cons a t ih => intro g; show (secW m l s _ t).length = _; rw [ih, atS_length]
theorem secW_num (gd : Good m l s) : ∀ (u : List Nat) (g : List Int), (∀ k ∈ g, isNum s k) → (∀ x ∈ u, x < l) → ∀ k ∈ secW m l s g u, isNum s k
  | [], g, h, _ => h
  | x :: t, g, h, hu => secW_num gd t _ (atS_num gd g x h (hu x List.mem_cons_self)) (fun y hy => hu y (List.mem_cons_of_mem _ hy))
theorem imgW_lt (gd : Good m l s) : ∀ (u : List Nat) (g : List Int), (∀ k ∈ g, isNum s k) → (∀ x ∈ u, x < l) → ∀ y ∈ imgW m l s g u, y < l
  | [], _, _, _, y, hy => by simp [imgW] at hy
  | x :: t, g, h, hu, y, hy => by
    rcases List.mem_cons.1 hy with rfl | hy
    · exact atX_lt gd g x h (hu x List.mem_cons_self)
    · exact imgW_lt gd t _ (atS_num gd g x h (hu x List.mem_cons_self)) (fun z hz => hu z (List.mem_cons_of_mem _ hz)) y hy
end
/-- A list as far as it is written. -/
def wr0 (l : List Int) (n : Nat) : List Int := l ++ List.replicate (n - l.length) 0
theorem wr0_length (l : List Int) (n : Nat) (h : l.length ≤ n) : (wr0 l n).length = n := by simp [wr0]; omega
theorem wr0_set (l : List Int) (n : Nat) (h : l.length < n) (v : Int) : (wr0 l n).set l.length v = wr0 (l ++ [v]) n := by
  unfold wr0
  rw [List.set_append_right _ _ (Nat.le_refl _), Nat.sub_self, show n - l.length = (n - (l ++ [v]).length) + 1 by simp; omega, List.replicate_succ, List.set_cons_zero, List.append_assoc]
  rfl
theorem wr0_full (l : List Int) : wr0 l l.length = l := by simp [wr0]
theorem wr0_nil (n : Nat) : ints (wr0 [] n) = List.replicate n (.int .i64 0) := by simp [wr0, ints]

/-- What is needed of a group's block. -/
def GM (w : World) (G : Nat) (m : Mach) (l s : Nat) (v1 v2 : Value) : Prop := w.heap[G]? = some (.cells (gcells m (inv m l s) v1 v2) 221 (0, 0))
section
variable {w w' : World} {G : Nat} {m : Mach} {l s : Nat} {v1 v2 : Value}
theorem GrB.gm {base : Nat} (h : GrB w G base m l s v1 v2) : GM w G m l s v1 v2 := h.blk
theorem GM.lt (h : GM w G m l s v1 v2) : G < w.heap.size := (Array.getElem?_eq_some_iff.1 h).1
theorem GM.below (h : GM w G m l s v1 v2) (hb : Below w.heap.size w w') : GM w' G m l s v1 v2 := (hb.block G h.lt).trans h
theorem GM.cL (h : GM w G m l s v1 v2) : w.cell? ⟨G, 0, none⟩ = some (.int .i64 m.L) := (cell_of_row w G 0 _ _ _ h).trans (gcells_m 0 (by omega))
theorem GM.cnx (h : GM w G m l s v1 v2) (q x : Nat) (hq : q < 16) (hx : x < 3) : w.cell? ⟨G, 2 + q * 3 + x, none⟩ = some (.int .u8 (m.nx (q * 3 + x) : Nat)) := by
  rw [cell_of_row w G _ _ _ _ h, gcells_m _ (by omega), mf_nx m q x hq hx]
theorem GM.cot (h : GM w G m l s v1 v2) (q x : Nat) (hq : q < 16) (hx : x < 3) : w.cell? ⟨G, 50 + q * 3 + x, none⟩ = some (.int .u8 (m.ot (q * 3 + x) : Nat)) := by
  rw [cell_of_row w G _ _ _ _ h, gcells_m _ (by omega), mf_ot m q x]
theorem GM.bnx (h : GM w G m l s v1 v2) (q x : Nat) (hq : q < 16) (hx : x < 3) : w.cell? ⟨G, 100 + q * 3 + x, none⟩ = some (.int .u8 ((inv m l s).nx (q * 3 + x) : Nat)) := by
  rw [show 100 + q * 3 + x = 98 + (2 + q * 3 + x) by omega, cell_of_row w G _ _ _ _ h, gcells_k _ (by omega), mf_nx _ q x hq hx]
theorem GM.bot (h : GM w G m l s v1 v2) (q x : Nat) (hq : q < 16) (hx : x < 3) : w.cell? ⟨G, 148 + q * 3 + x, none⟩ = some (.int .u8 ((inv m l s).ot (q * 3 + x) : Nat)) := by
  rw [show 148 + q * 3 + x = 98 + (50 + q * 3 + x) by omega, cell_of_row w G _ _ _ _ h, gcells_k _ (by omega), mf_ot _ q x]
end
theorem next_0 (G : Nat) (w : World) (q x v : Nat) (hq : q < 16) (hx : x < 3) (hk : v < 256) (h1 : w.cell? ⟨G, 2 + q * 3 + x, none⟩ = some (.int .u8 (v : Nat))) :
    Calls Try.prog 184 #[.pointer (some ⟨G, 0, none⟩), .int .i64 q, .int .i64 x] w fun e w' => e = .returned (.int .i64 (v : Nat)) ∧ w = w' := by
  go_enter Try.func184, Try.ntmps184
  go_wp2
  go_ret
  exact ⟨by simp, rfl⟩
theorem next_98 (G : Nat) (w : World) (q x v : Nat) (hq : q < 16) (hx : x < 3) (hk : v < 256) (h1 : w.cell? ⟨G, 100 + q * 3 + x, none⟩ = some (.int .u8 (v : Nat))) :
    Calls Try.prog 184 #[.pointer (some ⟨G, 98, none⟩), .int .i64 q, .int .i64 x] w fun e w' => e = .returned (.int .i64 (v : Nat)) ∧ w = w' := by
  go_enter Try.func184, Try.ntmps184
  go_wp2
  go_ret
  exact ⟨by simp, rfl⟩
theorem out_0 (G : Nat) (w : World) (q x v : Nat) (hq : q < 16) (hx : x < 3) (hk : v < 256) (h1 : w.cell? ⟨G, 50 + q * 3 + x, none⟩ = some (.int .u8 (v : Nat))) :
    Calls Try.prog 185 #[.pointer (some ⟨G, 0, none⟩), .int .i64 q, .int .i64 x] w fun e w' => e = .returned (.int .i64 (v : Nat)) ∧ w = w' := by
  go_enter Try.func185, Try.ntmps185
  go_wp2
  go_ret
  exact ⟨by simp, rfl⟩
theorem out_98 (G : Nat) (w : World) (q x v : Nat) (hq : q < 16) (hx : x < 3) (hk : v < 256) (h1 : w.cell? ⟨G, 148 + q * 3 + x, none⟩ = some (.int .u8 (v : Nat))) :
    Calls Try.prog 185 #[.pointer (some ⟨G, 98, none⟩), .int .i64 q, .int .i64 x] w fun e w' => e = .returned (.int .i64 (v : Nat)) ∧ w = w' := by
  go_enter Try.func185, Try.ntmps185
  go_wp2
  go_ret
  exact ⟨by simp, rfl⟩
set_option maxHeartbeats 2000000 in
set_option maxRecDepth 100000 in
theorem apply_any (w : World) (G : Nat) (m : Mach) (l s : Nat) (g : Good m l s) (v1 v2 : Value) (hG : GM w G m l s v1 v2) (k : Int) (hk : isNum s k) (x : Nat) (hx : x < l) :
    Calls Try.prog 232 #[.pointer (some ⟨G, 0, none⟩), .int .i64 k, .int .i64 x] w fun e w' => e = .returned (.tuple #[.int .i64 (apO m l s k x : Nat), .int .i64 (apN m l s k x)]) ∧ ∃ d, w' = w.drewN d := by
  obtain ⟨q, hq, rfl | rfl⟩ := isNum_cases hk
  · rw [apO_pos, apN_pos]
    have s16 := g.s16; have l3 := g.l3
    have ho := hid (fun n => out_0 G (w.drewN n) q x (m.ot (q * 3 + x)) (by omega) (by omega) (by have := g.ot q x hq hx; omega) (hG.cot q x (by omega) (by omega)))
    have hn := hid (fun n => next_0 G (w.drewN n) q x (m.nx (q * 3 + x)) (by omega) (by omega) (by have := g.nx q x hq hx; omega) (hG.cnx q x (by omega) (by omega)))
    have hnl := g.nx q x hq hx
    have e1 : IntKind.i64.wrap ((q : Int) + 1 - 1) = (q : Int) := by rw [IntWalk.i64_in _ (by omega)]; omega
    have e2 : IntKind.i64.wrap ((m.nx (q * 3 + x) : Int) + 1) = (m.nx (q * 3 + x) : Int) + 1 := IntWalk.i64_in _ (by omega)
    have d1 : decide ((0 : Int) < (q : Int) + 1) = true := decide_eq_true (by omega)
    have e3 : (q : Int) + 1 - 1 = q := by omega
    generalize m.ot (q * 3 + x) = ot at *
    generalize m.nx (q * 3 + x) = nx at *
    clear hk hG g
    go_enter Try.func232, Try.ntmps232
    go_upto_region 2 with (fail)
    go_quiet (first
      | (go_at_call 185; exact quiet_same (ho.out _))
      | (go_at_call 184; exact quiet_same (hn.out _)))
    go_wp2
    go_ret2
    exact ⟨rfl, _, rfl⟩
  · rw [apO_neg, apN_neg]
    have s16 := g.s16; have l3 := g.l3
    have gI := inv_good g
    have ho := hid (fun n => out_98 G (w.drewN n) q x ((inv m l s).ot (q * 3 + x)) (by omega) (by omega) (by have := gI.ot q x hq hx; omega) (hG.bot q x (by omega) (by omega)))
    have hn := hid (fun n => next_98 G (w.drewN n) q x ((inv m l s).nx (q * 3 + x)) (by omega) (by omega) (by have := gI.nx q x hq hx; omega) (hG.bnx q x (by omega) (by omega)))
    have hnl := gI.nx q x hq hx
    have e1 : IntKind.i64.wrap (-(-((q : Int) + 1))) = (q : Int) + 1 := by rw [IntWalk.i64_in _ (by omega)]; omega
    have e2 : IntKind.i64.wrap (-((inv m l s).nx (q * 3 + x) : Int)) = -((inv m l s).nx (q * 3 + x) : Int) := IntWalk.i64_in _ (by omega)
    have e4 : IntKind.i64.wrap (-((inv m l s).nx (q * 3 + x) : Int) - 1) = -((inv m l s).nx (q * 3 + x) : Int) - 1 := IntWalk.i64_in _ (by omega)
    have d1 : decide ((0 : Int) < -((q : Int) + 1)) = false := decide_eq_false (by omega)
    have e3 : (q : Int) + 1 - 1 = q := by omega
    generalize (inv m l s).ot (q * 3 + x) = ot at *
    generalize (inv m l s).nx (q * 3 + x) = nx at *
    obtain ⟨kk, hkk⟩ : ∃ kk : Int, kk = -((q : Int) + 1) := ⟨_, rfl⟩
    rw [← hkk] at d1 e1 ⊢
    clear hk hG g gI
    replace hkk := hid hkk
    go_enter Try.func232, Try.ntmps232
    go_upto_region 3 with (fail)
    go_quiet (first
      | (go_at_call 185; exact quiet_same (ho.out _))
      | (go_at_call 184; exact quiet_same (hn.out _)))
    go_wp2
    go_ret2
    exact ⟨rfl, _, rfl⟩
end Go.Proofs.Ytbmkkaecfogmoaa

/- The program's group.at and group.image. -/
namespace Go.Proofs.Ytbmkkaecfogmoaa
open Go.RowKit
set_option linter.unusedVariables false
set_option linter.unusedSimpArgs false
-- @LONG

set_option maxHeartbeats 2000000 in
set_option maxRecDepth 100000 in
theorem at_any (w : World) (G : Nat) (m : Mach) (l s : Nat) (g : Good m l s) (v1 v2 : Value) (hG : GM w G m l s v1 v2) (base : Nat) (v : Value) (u : List Int) (hu : Own w base 2 v (ints u)) (hn : ∀ k ∈ u, isNum s k) (hul : u.length ≤ 1000) (x : Nat) (hx : x < l) :
    Calls Try.prog 158 #[.pointer (some ⟨G, 0, none⟩), v, .int .i64 x] w fun e w' => ∃ v', e = .returned (.tuple #[.int .i64 (atX m l s u x : Nat), v']) ∧ Own w' w.heap.size 2 v' (ints (atS m l s u x)) ∧ Below w.heap.size w w' := by
  have hil := ints_length u
  obtain ⟨A, c, rfl, _, _⟩ := hu.form
  rw [hil] at hu ⊢
  have hcell := hid (fun (k : Nat) (y : Int) (hy : u[k]? = some y) => (show ∃ gA, A = some ⟨gA, 0, none⟩ ∧ ∀ W, Below w.heap.size w W → W.cell? ⟨gA, k, none⟩ = some (.int .i64 y) from by
    obtain ⟨g1, c2, he, _, hg1⟩ := hu.blk (fun e => by have h1 := congrArg List.length e; rw [hil] at h1; have h2 := (List.getElem?_eq_some_iff.1 hy).1; rw [List.length_nil] at h1; omega)
    injection he with e1 e2 e3
    subst e1
    exact ⟨g1, rfl, fun W hW => (hu.below hW).cellAt k _ (by simp [ints, hy])⟩))
  have hap := hid (fun W (hW : Below w.heap.size w W) k (hk : isNum s k) y (hy : y < l) => apply_any W G m l s g v1 v2 (hG.below hW) k hk y hy)
  have hmk := fun W : World => run_make_row' (P := Try.prog) 29 2 (.int .i64 0) 8 Try.underlying29 info_i64 rfl .i64 .i64 u.length (by omega) (by omega) W
  have hmc := hid (toList_madeCells_one (.int .i64 0) u.length)
  generalize madeCells #[.int .i64 0] u.length = mc at *
  have hmcs := hid (show mc.size = u.length by rw [← Array.length_toList, hmc.out, List.length_replicate])
  have hS := (St.start w).newArr mc u.length hmcs.out 2 (by omega)
  rw [hmc.out, ← wr0_nil u.length] at hS
  replace hS := hid hS
  have hsx := hid (fun i y (hy : u[i]? = some y) => (show u.take (i + 1) = u.take i ++ [y] from by rw [List.take_add_one, hy]; rfl))
  have hlt := hid (fun i => atX_lt g (u.take i) x (fun k hk => hn k (List.mem_of_mem_take hk)) hx)
  have hxs := hid (fun i y => atX_snoc (m := m) (l := l) (s := s) (u.take i) y x)
  have hss := hid (fun i y => atS_snoc (m := m) (l := l) (s := s) (u.take i) y x)
  have hsl := hid (fun i (hi : i ≤ u.length) => (show (atS m l s (u.take i) x).length = i from by rw [atS_length, List.length_take]; omega))
  have h0X := hid (show atX m l s u x = atX m l s (u.take u.length) x by rw [List.take_length])
  have h0S := hid (show atS m l s u x = wr0 (atS m l s (u.take u.length) x) u.length by rw [List.take_length]; have h := wr0_full (atS m l s u x); rw [atS_length] at h; exact h.symm)
  rw [h0X.out, h0S.out]
  replace hn := hid hn
  clear hu hil hG g hmc h0X h0S
  generalize hgo : w.heap.size = go at *
  replace hgo := hid hgo
  generalize hN : u.length = N at *
  replace hN := hid hN
  go_enter Try.func158, Try.ntmps158
  go_upto_region 2 with (fail)
  rw [hgo.out]
  generalize w.alloc (.cells mc 2) = W1 at *
  go_wp2
  go_loopw [2, 16] (fun y i wr => ∃ j : Nat, j ≤ N ∧ i = .int .i64 j ∧ y = .int .i64 (atX m l s (u.take j) x : Nat) ∧ St go w [Asn.own go 2 (.slice (some ⟨go, 0, none⟩) N N) (ints (wr0 (atS m l s (u.take j) x) N))] wr) (fun _ i _ => N - (intOf i).toNat)
  case atStart => exact ⟨0, Nat.zero_le _, rfl, rfl, hS.out⟩
  case round =>
    obtain ⟨j, hj, rfl, rfl, rS⟩ := hrel
    clear hS
    replace rS := hid rS
    by_cases hjN : j < N
    · obtain ⟨y, hy⟩ : ∃ y, u[j]? = some y := ⟨_, List.getElem?_eq_getElem (by rw [hN.out]; exact hjN)⟩
      obtain ⟨gA, rfl, hc⟩ := hcell.out j y hy
      have d1 := hc wr (by have h := rS.out.bel; exact h)
      have hyn := hid (hn.out y (List.mem_of_getElem? hy))
      have hcl := hid (fun W (hW : Below go w W) => hap.out W hW y hyn.out _ (hlt.out j))
      have hl1 := hid (show (ints (wr0 (atS m l s (u.take j) x) N)).length = N by rw [ints_length]; exact wr0_length _ _ (by rw [hsl.out j hj]; exact hj))
      have hl2 := hid (hsl.out j hj)
      have hset := hid (fun z => (show (ints (wr0 (atS m l s (u.take j) x) N)).set j (.int .i64 z) = ints (wr0 (atS m l s (u.take j) x ++ [z]) N) from by
        have h := wr0_set (atS m l s (u.take j) x) N (by rw [hl2.out]; exact hjN) z
        rw [hl2.out] at h
        rw [← h]; simp [ints, List.map_set]))
      have hX := hid ((congrArg (fun t => atX m l s t x) (hsx.out j y hy)).trans (hxs.out j y))
      have hSS := hid ((congrArg (fun t => atS m l s t x) (hsx.out j y hy)).trans (hss.out j y))
      obtain ⟨c0, hc0⟩ : ∃ z, (ints (wr0 (atS m l s (u.take j) x) N))[j]? = some z := ⟨_, List.getElem?_eq_getElem (by rw [hl1.out]; exact hjN)⟩
      have hco := hid (fun W (hW : St go w [Asn.own go 2 (.slice (some ⟨go, 0, none⟩) N N) (ints (wr0 (atS m l s (u.take j) x) N))] W) => (show W.cell? ⟨go, j, none⟩ = some c0 ∧ W.frozen? ⟨go, j, none⟩ = false from ⟨Own.cellAt hW.o0 j _ hc0, Own.frozenAt hW.o0 hl1.out j⟩))
      clear hc hy hc0
      generalize atX m l s (u.take j) x = xj at *
      generalize apO m l s y xj = xo at *
      generalize apN m l s y xj = xn at *
      go_wp2_with (first
        | (go_at_call 232; (with_reducible refine (hcl.out _ rS.out.bel).mono ?_); rintro e w3 ⟨rfl, d, rfl⟩; replace rS := hid (rS.out.drewN d); obtain ⟨co, fo⟩ := hco.out _ rS.out; generalize wr.drewN d = wd at *; replace rS := hid (rS.out.setOwn hl1.out j (.int .i64 xn) hjN)))
      rw [hset.out, ← hSS.out] at rS
      go_roundw
      case rel => exact ⟨j + 1, by omega, by go_num, by rw [hX.out], rS.out⟩
      case measure => simp [intOf]; omega
    · obtain rfl : j = N := by omega
      go_wp2
      go_ret2
      exact ⟨_, rfl, rS.out.o0, rS.out.bel⟩
end Go.Proofs.Ytbmkkaecfogmoaa

/- The program's group.image. -/
namespace Go.Proofs.Ytbmkkaecfogmoaa
open Go.RowKit
set_option linter.unusedVariables false
set_option linter.unusedSimpArgs false
-- @LONG

/-- A row of digits as far as it is written. -/
def Asn.dig (b n : Nat) (u : List Nat) : Asn := ⟨fun k => k = b, fun w => w.rowIs b 5 n (dgs u), fun h hk => World.rowIs.of_block h (hk b rfl), fun h k hk => hk ▸ World.rowIs.lt h⟩
section
variable {w w0 : World} {L : List Asn} {base b n : Nat} {u : List Nat}
theorem St.d0 (h : St base w0 (Asn.dig b n u :: L) w) : w.rowIs b 5 n (dgs u) := h.g0
theorem St.newDig (h : St base w0 L w) (n : Nat) : St base w0 (Asn.dig w.heap.size n [] :: L) (w.alloc (.cells (madeCells #[.int .u8 0] n) 5)) :=
  h.allocPush (a := Asn.dig w.heap.size n []) _ (World.rowIs.congr (World.rowIs_made w (.int .u8 0) n 5) (fun i hi => by unfold dgs; simp)) fun _ hk => hk
theorem St.setDig (h : St base w0 (Asn.dig b n u :: L) w) (hb : base ≤ b) (y : Nat) (i : Nat) (hi : u.length = i) : St base w0 (Asn.dig b n (u ++ [y]) :: L) (w.setCell ⟨b, i, none⟩ (.int .u8 (48 + (y : Int)))) := by
  subst hi
  exact h.turn (a' := Asn.dig b n (u ++ [y])) (World.rowIs.congr (World.rowIs.set h.d0 u.length _) (fun i hi => dgs_snoc u y i)) (fun k hk => .inl hk) (fun k hk => (show k = b from hk) ▸ hb) ((Below.refl _ _).setCell hb _)
    fun k _ hk => heap_setCell_other w ⟨b, u.length, none⟩ k _ hk
theorem St.own0 {t : Nat} {v : Value} {cs : List Value} {b0 : Nat} (h : St base w0 (Asn.own b0 t v cs :: L) w) : St base w0 (Asn.own 0 t v cs :: L) w :=
  ⟨h.bel, h.le, (show Own w b0 t v cs from h.star.1).mono (Nat.zero_le _), h.star.2.1, h.star.2.2⟩
/-- An argument's slice. -/
theorem St.arg {t : Nat} {v : Value} {cs : List Value} {b0 : Nat} (w : World) (h : Own w b0 t v cs) : St w.heap.size w [Asn.own 0 t v cs] w :=
  (St.start w).push (a := Asn.own 0 t v cs) (h.mono (Nat.zero_le _)) fun _ _ hF => hF
end

set_option maxHeartbeats 2000000 in
set_option maxRecDepth 100000 in
theorem image_any (w : World) (G : Nat) (m : Mach) (l s : Nat) (g : Good m l s) (v1 v2 : Value) (hG : GM w G m l s v1 v2) (base : Nat) (v : Value) (gw : List Int) (hgw : Own w base 2 v (ints gw)) (hn : ∀ k ∈ gw, isNum s k) (hgl : gw.length ≤ 1000) (u : List Nat) (hu : ∀ x ∈ u, x < l) (hlen : u.length ≤ 1000) :
    Calls Try.prog 153 #[.pointer (some ⟨G, 0, none⟩), v, .string (wstr u)] w fun e w' => ∃ v', e = .returned (.tuple #[.string (wstr (imgW m l s gw u)), v']) ∧ Own w' 0 2 v' (ints (secW m l s gw u)) ∧ Below w.heap.size w w' := by
  have hsz := wstr_size u
  have hmk := fun W : World => run_make_row' (P := Try.prog) 22 5 (.int .u8 0) 1 Try.underlying22 info_u8 rfl .i64 .i64 u.length (by omega) (by omega) W
  have hbyte := hid (fun k hk => wstr_byte u k hk (fun x hx => by have := hu x hx; have := g.l3; omega))
  have hS := hid ((St.arg w hgw).newDig u.length)
  have hat := hid (fun W (hW : Below w.heap.size w W) v (u' : List Int) (h1 : Own W 0 2 v (ints u')) (h2 : ∀ k ∈ u', isNum s k) (h3 : u'.length ≤ 1000) x (hx : x < l) => at_any W G m l s g v1 v2 (hG.below hW) 0 v u' h1 h2 h3 x hx)
  have hnum := hid (fun k => secW_num g (u.take k) gw hn (fun x hx => hu x (List.mem_of_mem_take hx)))
  have hsl := hid (fun k => secW_length (m := m) (l := l) (s := s) (u.take k) gw)
  have hil := hid (fun k (hk : k ≤ u.length) => (show (imgW m l s gw (u.take k)).length = k by rw [imgW_length, List.length_take]; omega))
  have hse := hid (fun k x => secW_snoc (m := m) (l := l) (s := s) (u.take k) x gw)
  have him := hid (fun k x => imgW_snoc (m := m) (l := l) (s := s) (u.take k) x gw)
  have hlt := hid (fun k x (hx : x < l) => atX_lt g (secW m l s gw (u.take k)) x (hnum.out k) hx)
  have l3 := g.l3
  have hgo := hid (Nat.le_refl w.heap.size)
  replace hu := hid hu
  replace hn := hid hn
  have h0X := hid (show imgW m l s gw u = imgW m l s gw (u.take u.length) by rw [List.take_length])
  have h0S := hid (show secW m l s gw u = secW m l s gw (u.take u.length) by rw [List.take_length])
  rw [h0X.out, h0S.out]
  clear hG g hgw h0X h0S
  generalize hws : wstr u = ws at *
  replace hws := hid hws
  generalize madeCells #[.int .u8 0] u.length = mc at *
  generalize hgoe : w.heap.size = go at *
  replace hgoe := hid hgoe
  generalize hN : u.length = N at *
  replace hN := hid hN
  go_enter Try.func153, Try.ntmps153
  go_upto_region 2 with (fail)
  rw [hgoe.out]
  generalize w.alloc (.cells mc 5) = W1 at *
  go_wp2
  clear hmk
  go_loopw [1, 16] (fun v i wr => ∃ k : Nat, k ≤ N ∧ i = .int .i64 k ∧ St go w [Asn.dig go N (imgW m l s gw (u.take k)), Asn.own 0 2 v (ints (secW m l s gw (u.take k)))] wr) (fun _ i _ => N - (intOf i).toNat)
  case atStart => exact ⟨0, Nat.zero_le _, rfl, hS.out⟩
  case round =>
    obtain ⟨k, hk, rfl, rS⟩ := hrel
    clear hS
    replace rS := hid rS
    by_cases hkN : k < N
    · have hx := hu.out _ (getD_mem u k (by rw [hN.out]; exact hkN))
      have hb := hbyte.out k (by omega)
      have htk := take_snoc' u k (by rw [hN.out]; exact hkN)
      have hsn := hid ((congrArg (fun t => secW m l s gw t) htk).trans (hse.out k (u.getD k 0)))
      have hin := hid ((congrArg (fun t => imgW m l s gw t) htk).trans (him.out k (u.getD k 0)))
      have hlk := hid (hil.out k hk)
      have hcl := hid (fun W (hW : Below go w W) v (h1 : Own W 0 2 v (ints (secW m l s gw (u.take k)))) => hat.out W hW v _ h1 (hnum.out k) (by rw [hsl.out k]; exact hgl) _ hx)
      have hlx := hlt.out k _ hx
      have e2 : ((u.getD k 0 : Nat) : Int) % 256 = (u.getD k 0 : Nat) := by omega
      have hco := hid (fun (W : World) (hW : W.rowIs go 5 N (dgs (imgW m l s gw (u.take k)))) => (show ∃ c0, W.cell? ⟨go, k, none⟩ = some c0 ∧ W.frozen? ⟨go, k, none⟩ = false from ⟨_, hW.cell hkN, hW.frozen k⟩))
      clear htk hx
      generalize imgW m l s gw (u.take k) = im at *
      generalize secW m l s gw (u.take k) = se at *
      generalize u.getD k 0 = x at *
      have e1 : 48 + (x : Int) - 48 = x := by omega
      generalize hy : atX m l s se x = y at *
      replace hy := hid hy
      go_wp2_with (first
        | (go_at_call 158; (with_reducible refine (hcl.out _ rS.out.bel _ rS.out.o1).mono ?_); rintro e w3 ⟨v', rfl, hO, hb2⟩; replace rS := hid (rS.out.callOwn hb2 hO).own0; clear hO hb2; obtain ⟨c0, co, fo⟩ := hco.out _ rS.out.f1.d0)
        | (go_at_call 189; (with_reducible refine (letter_any y (by omega) _).mono ?_); rintro e w1 ⟨rfl, rfl⟩))
      replace rS := hid (rS.out.f1.setDig (Nat.le_of_eq rfl) y k hlk.out)
      rw [← hin.out] at rS
      go_roundw
      case rel => exact ⟨k + 1, by omega, by go_num, by rw [hsn.out]; exact ⟨rS.out.bel, rS.out.le, rS.out.g0, fun k hk hF => rS.out.star.2.1 k hk (hF.elim .inl fun h => h.elim), rS.out.g1, fun k hk hF => hF, trivial⟩⟩
      case measure => simp [intOf]; omega
    · obtain rfl : k = N := by omega
      have hconv := conv_dgs (hil.out k (Nat.le_refl _)) rS.out.d0
      go_wp2
      go_ret2
      exact ⟨_, rfl, rS.out.o1, rS.out.bel⟩
end Go.Proofs.Ytbmkkaecfogmoaa
