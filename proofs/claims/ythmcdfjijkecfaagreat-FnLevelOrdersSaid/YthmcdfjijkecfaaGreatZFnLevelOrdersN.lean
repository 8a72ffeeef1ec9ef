/- What the proof of FnLevelOrders leans on, part 14 of 21. -/
import Derived.Test.YthmcdfjijkecfaaGreatZFnLevelOrdersM
import Derived.BigQuiet
import Derived.Laws.Strings
/- Texts joined, in a region that only reads. -/
namespace Go.Proofs.YthmcdfjijkecfaaGreat
open Go.RowKit
set_option linter.unusedVariables false
set_option linter.unusedSimpArgs false

section
variable {ops : Array Oper} {C : World → Prop} {Q : Act → Prop} {a : Act} {o : Oper} {rest : List Oper}
/-- Two texts joined, in a region that only reads. -/
theorem quiet_add (hw : Region.wanted o (yielded ops a.tmps) = true) (x y : Operand) (t t2 : TypeId) (ho : o.op = .binOp .add t x y t2) (s1 s2 : ByteArray) (hx : a.eval x = .string s1) (hy : a.eval y = .string s2) (hs : s1.size + s2.size ≤ 9223372036854775807)
    (h : wpQuiet Tryz.prog ops C Q rest (a.put o.dst (.string (s1 ++ s2)))) : wpQuiet Tryz.prog ops C Q (o :: rest) a :=
  BigFrame.wpQuiet_want hw fun K hK => ⟨.string (s1 ++ s2), fun w _ => by
    have e : (execOp a.eval o).run Tryz.prog w = .ok (.value (.string (s1 ++ s2))) w := by
      unfold execOp
      simp only [ho, hx, hy]
      have e2 : (Op.stringOp .add s1 s2).run Tryz.prog w = .ok (.string (s1 ++ s2)) w := by apply run_string_add_sum; exact hs
      simp [go_sem, e2]
    unfold Oper.quietAt
    rw [e]
    exact ⟨rfl, rfl⟩, hK _ h⟩
end
end Go.Proofs.YthmcdfjijkecfaaGreat

/- The program's groupOf. -/
namespace Go.Proofs.YthmcdfjijkecfaaGreat
open Go.RowKit
set_option linter.unusedVariables false
set_option linter.unusedSimpArgs false
-- @LONG

open Classical in
/-- Some list is no group word. -/
noncomputable def badGw (m : Mach) (g : List Int) : Bool := decide (¬ IsGw m g)
set_option maxHeartbeats 1000000 in
theorem gof1_any (b : Nat) (w : World) (m : Mach) (hk : m.Ok) (hm : MB w 27 b m) (base : Nat) (v : Value) (g : List Int) (h : Own w base 2 v (ints g)) (hl : g.length < 2000000) :
    Calls Tryz.prog 214 #[v, .pointer (some ⟨b, 0, none⟩)] w fun e w' => e = .returned (.bool (badGw m g)) ∧ Below w.heap.size w w' := by
  classical
  have hi := hid (IsGroupWord_any w m hk base v g h hl (decide (IsGw m g)) decide_eq_true_iff)
  have hb := hid (show badGw m g = !decide (IsGw m g) from by unfold badGw; simp)
  rw [hb.out]
  replace hm := hid hm
  clear h hb
  generalize decide (IsGw m g) = r at *
  go_enter Tryz.func214, Tryz.ntmps214
  go_wp2_with (first
    | ((with_reducible refine gate (N := 4) rfl ?_); refine load_mach rfl _ rfl b rfl m hm.out ?_)
    | (go_at_call 215; (with_reducible refine (hi.out).mono ?_); rintro e w1 ⟨rfl, hb⟩; have hB := hid hb; clear hb))
  go_ret
  exact ⟨rfl, hB.out⟩
set_option maxHeartbeats 1000000 in
set_option maxRecDepth 100000 in
theorem indexFuncM_gof (b : Nat) (w : World) (base : Nat) (v : Value) (M : List (List Int)) (h : Mat w base v M) (hl : M.length < 2000000) (p : List Int → Bool)
    (hcall : ∀ W, Below w.heap.size w W → ∀ r row, row ∈ M → Own W base 2 r (ints row) → Calls Tryz.prog 214 #[r, .pointer (some ⟨b, 0, none⟩)] W fun e w' => e = .returned (.bool (p row)) ∧ Below W.heap.size W w') :
    Calls Tryz.prog 184 #[v, .func (.func 214) #[] #[.pointer (some ⟨b, 0, none⟩)]] w fun e w' => e = .returned (.int .i64 (idxP p M 0)) ∧ Below w.heap.size w w' := by
  obtain ⟨rows, hO, hrl, hrow⟩ := h
  obtain ⟨A1, c1, rfl, _, _⟩ := hO.form
  rw [hrl] at hO ⊢
  have hcell := hid (fun (k : Nat) (x : List Int) (hx : M[k]? = some x) => (show ∃ g r, A1 = some ⟨g, 0, none⟩ ∧ ∀ W, Below w.heap.size w W → W.cell? ⟨g, k, none⟩ = some r ∧ Own W base 2 r (ints x) from by
    have hk := (List.getElem?_eq_some_iff.1 hx).1
    obtain ⟨g1, c2, he, _, hg1⟩ := hO.blk (fun e => by rw [e] at hrl; rw [← hrl] at hk; simp at hk)
    injection he with e1 e2 e3
    subst e1
    obtain ⟨r, hr⟩ : ∃ r, rows[k]? = some r := ⟨_, List.getElem?_eq_getElem (by rw [hrl]; exact hk)⟩
    exact ⟨g1, r, rfl, fun W hW => ⟨(hO.below hW).cellAt k _ hr, (hrow k r x hr hx).below hW⟩⟩))
  replace hcall := hid hcall
  clear hO hrow
  obtain ⟨R, hR⟩ : ∃ R, R = idxP p M 0 := ⟨_, rfl⟩
  rw [← hR]
  replace hR := hid hR
  generalize hn : M.length = n at *
  replace hn := hid hn
  go_enter Tryz.func184, Tryz.ntmps184
  go_wp2
  go_loopw [8] (fun i wr => ∃ k : Nat, k ≤ n ∧ i = .int .i64 k ∧ Hid (R = idxP p (M.drop k) k) ∧ Below w.heap.size w wr) (fun i _ => n - (intOf i).toNat)
  case atStart => exact ⟨0, Nat.zero_le _, rfl, hR, Below.refl _ _⟩
  case round =>
    obtain ⟨k, hk, rfl, hA, rB⟩ := hrel
    clear hR
    replace rB := hid rB
    by_cases hlt : k < n
    · obtain ⟨x, hx⟩ : ∃ x, M[k]? = some x := ⟨_, List.getElem?_eq_getElem (by rw [hn.out]; exact hlt)⟩
      obtain ⟨g, r, rfl, hc⟩ := hcell.out k x hx
      have d1 := (hc wr rB.out).1
      have hcl := hid (hcall.out wr rB.out r x (List.mem_of_getElem? hx) (hc wr rB.out).2)
      have hT := hid (fun hp => idxP_drop_t (p := p) hx hp k)
      have hF := hid (fun hp => idxP_drop_f (p := p) hx hp k)
      clear hc hx
      cases hp : p x with
      | true =>
        rw [hp] at hcl
        have hA2 := hid (hA.out.trans (hT.out hp))
        clear hp hT hF
        go_wp2_with (first
          | (go_at_call 214; (with_reducible refine (hcl.out).mono ?_); rintro e w1 ⟨rfl, hb⟩; replace rB := hid (rB.out.trans (hb.mono rB.out.size)); clear hb))
        go_ret
        exact ⟨retI (by rw [hA2.out]), rB.out⟩
      | false =>
        rw [hp] at hcl
        have hA2 := hid (hA.out.trans (hF.out hp))
        clear hp hT hF
        go_wp2_with (first
          | (go_at_call 214; (with_reducible refine (hcl.out).mono ?_); rintro e w1 ⟨rfl, hb⟩; replace rB := hid (rB.out.trans (hb.mono rB.out.size)); clear hb))
        go_roundw
        case rel => exact ⟨k + 1, by omega, by go_num, hA2, rB.out⟩
        case measure => simp [intOf]; omega
    · obtain rfl : k = n := by omega
      have hA2 := hid (hA.out.trans (show _ = (-1 : Int) by rw [List.drop_eq_nil_of_le (by rw [hn.out]; exact Nat.le_refl _)]; rfl))
      go_wp2
      go_ret
      exact ⟨retI (by rw [hA2.out]), rB.out⟩
set_option maxHeartbeats 1000000 in
theorem containsFuncM_gof (b : Nat) (w : World) (base : Nat) (v : Value) (M : List (List Int)) (h : Mat w base v M) (hl : M.length < 2000000) (p : List Int → Bool)
    (hcall : ∀ W, Below w.heap.size w W → ∀ r row, row ∈ M → Own W base 2 r (ints row) → Calls Tryz.prog 214 #[r, .pointer (some ⟨b, 0, none⟩)] W fun e w' => e = .returned (.bool (p row)) ∧ Below W.heap.size W w') :
    Calls Tryz.prog 188 #[v, .func (.func 214) #[] #[.pointer (some ⟨b, 0, none⟩)]] w fun e w' => e = .returned (.bool (M.any p)) ∧ Below w.heap.size w w' := by
  have hi := hid (indexFuncM_gof b w base v M h hl p hcall)
  have ha := hid (idxP_any p M 0 (Int.le_refl _))
  clear hcall h hl
  generalize idxP p M 0 = r at *
  generalize M.any p = c at *
  go_enter Tryz.func188, Tryz.ntmps188
  go_wp2_with (first
    | (go_at_call 184; (with_reducible refine (hi.out).mono ?_); rintro e w1 ⟨rfl, hb⟩; replace hb := hid hb))
  go_ret
  refine ⟨retB ?_, hb.out⟩
  have h := ha.out
  rw [Bool.eq_iff_iff, ← h]
  simp

set_option maxHeartbeats 2000000 in
set_option maxRecDepth 4000 in
/-- No group. -/
theorem groupOf_n (w : World) (m : Mach) (hk : m.Ok) (base : Nat) (v : Value) (M : List (List Int)) (h : Mat w base v M) (hl : M.length < 2000000) (hlr : ∀ row ∈ M, row.length < 2000000) (hbad : ¬ IsM m ∨ ∃ row ∈ M, ¬ IsGw m row) :
    Calls Tryz.prog 133 #[.agg (mcells m), v] w fun e w' => e = .returned (.tuple #[.pointer none, .int .i64 1]) ∧ Below w.heap.size w w' := by
  have hS := hid ((St.start w).newMB m 27)
  have hmf : ∀ (fn : Fn) (first cap : Array Value) (w : World), (Instr.makeFunc fn first cap).run Tryz.prog w = .ok (.func fn first cap) w := fun _ _ _ _ => rfl
  by_cases hm : IsM m
  · have hi := hid (fun W => IsMachine_any W m hk true ⟨fun _ => hm, fun _ => rfl⟩)
    have hany : M.any (badGw m) = true := by
      obtain ⟨row, hr, hb⟩ := hbad.resolve_left (fun h => h hm)
      rw [List.any_eq_true]
      exact ⟨row, hr, by unfold badGw; simpa using hb⟩
    have hc := hid (fun W (hW : Below w.heap.size w W) (hmb : MB W 27 w.heap.size m) => (by
      have h1 := containsFuncM_gof w.heap.size W base v M (h.below hW) hl (badGw m) (fun W' hW' r row hr hO => gof1_any w.heap.size W' m hk (hmb.below hW' hmb.lt) base r row hO (hlr row hr))
      rw [hany] at h1; exact h1 : Calls Tryz.prog 188 #[v, .func (.func 214) #[] #[.pointer (some ⟨w.heap.size, 0, none⟩)]] W fun e w' => e = .returned (.bool true) ∧ Below W.heap.size W w'))
    replace hk := hid hk; replace h := hid h; clear hbad hany hm
    go_enter Tryz.func133, Tryz.ntmps133
    go_wp2_with (first
      | ((with_reducible refine gate (N := 6) rfl ?_); refine load_mach rfl _ rfl w.heap.size rfl m hS.out.m0 ?_)
      | (go_at_call 97; (with_reducible refine (hi.out _).mono ?_); rintro e w1 ⟨rfl, hb⟩; replace hS := hid (hS.out.call hb); clear hb)
      | (go_at_call 188; (with_reducible refine (hc.out _ hS.out.bel hS.out.m0).mono ?_); rintro e w2 ⟨rfl, hb⟩; replace hS := hid (hS.out.call hb); clear hb))
    go_ret2
    exact ⟨rfl, hS.out.bel⟩
  · have hi := hid (fun W => IsMachine_any W m hk false ⟨fun h => (by cases h), fun h => absurd h hm⟩)
    replace hk := hid hk; replace h := hid h; clear hbad hm
    go_enter Tryz.func133, Tryz.ntmps133
    go_wp2_with (first
      | ((with_reducible refine gate (N := 6) rfl ?_); refine load_mach rfl _ rfl w.heap.size rfl m hS.out.m0 ?_)
      | (go_at_call 97; (with_reducible refine (hi.out _).mono ?_); rintro e w1 ⟨rfl, hb⟩; replace hS := hid (hS.out.call hb); clear hb))
    go_ret2
    exact ⟨rfl, hS.out.bel⟩

set_option maxHeartbeats 2000000 in
set_option maxRecDepth 4000 in
/-- The group. -/
theorem groupOf_y (w : World) (m : Mach) (hk : m.Ok) (base : Nat) (v : Value) (M : List (List Int)) (h : Mat w base v M) (hl : M.length < 2000000) (hlr : ∀ row ∈ M, row.length < 2000000) (l s : Nat) (g : Good m l s) (hall : ∀ row ∈ M, IsGw m row) :
    Calls Tryz.prog 133 #[.agg (mcells m), v] w fun e w' => ∃ G v1 v2, e = .returned (.tuple #[.pointer (some ⟨G, 0, none⟩), .int .i64 0]) ∧ w.heap.size ≤ G ∧ GrB w' G w.heap.size m l s v1 v2 ∧ Below w.heap.size w w' := by
  have hS := hid ((St.start w).newMB m 27)
  have hmf : ∀ (fn : Fn) (first cap : Array Value) (w : World), (Instr.makeFunc fn first cap).run Tryz.prog w = .ok (.func fn first cap) w := fun _ _ _ _ => rfl
  have hi := hid (fun W => IsMachine_any W m hk true ⟨fun _ => g.isM, fun _ => rfl⟩)
  have hany : M.any (badGw m) = false := by
    rw [List.any_eq_false]
    intro row hr
    unfold badGw; simpa using hall row hr
  have hc := hid (fun W (hW : Below w.heap.size w W) (hmb : MB W 27 w.heap.size m) => (by
    have h1 := containsFuncM_gof w.heap.size W base v M (h.below hW) hl (badGw m) (fun W' hW' r row hr hO => gof1_any w.heap.size W' m hk (hmb.below hW' hmb.lt) base r row hO (hlr row hr))
    rw [hany] at h1; exact h1 : Calls Tryz.prog 188 #[v, .func (.func 214) #[] #[.pointer (some ⟨w.heap.size, 0, none⟩)]] W fun e w' => e = .returned (.bool false) ∧ Below W.heap.size W w'))
  have hng := hid (fun W => newGroup_any W m hk l s g)
  replace hk := hid hk; replace h := hid h; replace g := hid g; clear hall hany
  go_enter Tryz.func133, Tryz.ntmps133
  go_wp2_with (first
    | ((with_reducible refine gate (N := 6) rfl ?_); refine load_mach rfl _ rfl w.heap.size rfl m hS.out.m0 ?_)
    | ((with_reducible refine gate (N := 14) rfl ?_); refine load_mach rfl _ rfl w.heap.size rfl m hS.out.m0 ?_)
    | (go_at_call 97; (with_reducible refine (hi.out _).mono ?_); rintro e w1 ⟨rfl, hb⟩; replace hS := hid (hS.out.call hb); clear hb)
    | (go_at_call 188; (with_reducible refine (hc.out _ hS.out.bel hS.out.m0).mono ?_); rintro e w2 ⟨rfl, hb⟩; replace hS := hid (hS.out.call hb); clear hb)
    | (go_at_call 216; (with_reducible refine (hng.out _).mono ?_); rintro e w3 ⟨G, v1, v2, rfl, hle, hGB, hb⟩; have hle2 := hid (Nat.le_trans hS.out.le hle); have hGB2 := hid (GrB.mk hGB.blk (hGB.of.mono hS.out.le) (hGB.tr.mono hS.out.le)); replace hS := hid (hS.out.call hb); clear hb hle hGB))
  go_ret2
  exact ⟨G, v1, v2, rfl, hle2.out, hGB2.out, hS.out.bel⟩
end Go.Proofs.YthmcdfjijkecfaaGreat

/- Cycles: divisors, multiples, and what the program and the reference make of a permutation. -/
namespace Go.Proofs.YthmcdfjijkecfaaGreat
open Go.RowKit
set_option linter.unusedVariables false
set_option linter.unusedSimpArgs false
-- @LONG

theorem gcd_step (x y : Nat) : Nat.gcd y (x % y) = Nat.gcd x y := by
  rw [Nat.gcd_comm y (x % y), ← Nat.gcd_rec y x, Nat.gcd_comm]
theorem lcm_step (a b : Nat) : a / Nat.gcd a b * b = Nat.lcm a b := by
  have h := Nat.gcd_mul_lcm a b
  rcases Nat.eq_zero_or_pos (Nat.gcd a b) with h0 | h0
  · have ha := Nat.eq_zero_of_gcd_eq_zero_left h0
    subst ha; simp
  · obtain ⟨c, hc⟩ := Nat.gcd_dvd_left a b
    have h1 : a / Nat.gcd a b = c := by
      conv => lhs; lhs; rw [hc]
      exact Nat.mul_div_cancel_left c h0
    rw [h1]
    have h2 : Nat.gcd a b * Nat.lcm a b = Nat.gcd a b * (c * b) := by
      rw [h, ← Nat.mul_assoc, ← hc]
    exact (Nat.eq_of_mul_eq_mul_left h0 h2).symm
set_option maxHeartbeats 1000000 in
theorem common_any (a b : Nat) (ha : a < 9223372036854775807) (hb : b < 9223372036854775807) (w : World) :
    Calls Tryz.prog 234 #[.int .i64 a, .int .i64 b] w fun e w' => e = .returned (.int .i64 (Nat.gcd a b : Nat)) ∧ ∃ m, w' = w.drewN m := by
  have hst := hid gcd_step
  have hz := hid (fun x => Nat.gcd_zero_right x)
  have hS := hid (show ∃ m, w = w.drewN m from ⟨0, rfl⟩)
  generalize hG : Nat.gcd a b = G at *
  replace hG := hid hG
  go_enter Tryz.func234, Tryz.ntmps234
  go_wp2
  go_loopw [0, 1] (fun x y wr => ∃ i j : Nat, x = .int .i64 i ∧ y = .int .i64 j ∧ i < 9223372036854775807 ∧ j < 9223372036854775807 ∧ Hid (Nat.gcd i j = G) ∧ Hid (∃ m, wr = w.drewN m)) (fun _ y _ => (intOf y).toNat)
  case atStart => exact ⟨a, b, rfl, rfl, ha, hb, hG, hS⟩
  case round =>
    obtain ⟨i, j, rfl, rfl, hi, hj, hg, rS⟩ := hrel
    clear hS hG
    by_cases h0 : j = 0
    · subst h0
      have e := hid (hg.out.symm.trans (hz.out i))
      have d0 : decide (((0 : Nat) : Int) > 0) = false := by decide
      go_wp2
      go_ret
      exact ⟨retI (by rw [e.out]), rS.out⟩
    · have d0 : ((j : Int) != 0) = true := by simp; omega
      have d1 : decide (0 < (j : Int)) = true := decide_eq_true (by omega)
      have dz : ¬ (j : Int) = 0 := by omega
      have m1 : Int.tmod (i : Int) (j : Int) = ((i % j : Nat) : Int) := by rw [Int.tmod_eq_emod_of_nonneg (by omega)]; omega
      have hml := Nat.mod_lt i (show 0 < j by omega)
      have hg2 := hid ((hst.out i j).trans hg.out)
      generalize hr : i % j = r at *
      have m2 : (i : Int) % (j : Int) = (r : Int) := by omega
      replace hr := hid hr
      go_upto_region 2 with (fail)
      go_quiet (fail)
      go_wp2
      go_roundw
      case rel => exact ⟨j, r, rfl, rfl, hj, by omega, hg2, hid (by obtain ⟨m, h⟩ := rS.out; exact ⟨m + nq, by rw [h, drewN_add]⟩)⟩
      case measure => simp [intOf]; omega
set_option maxHeartbeats 1000000 in
theorem l03Divisor_any (a b : Nat) (ha : a < 9223372036854775807) (hb : b < 9223372036854775807) (w : World) :
    Calls Tryz.prog 157 #[.int .i64 a, .int .i64 b] w fun e w' => e = .returned (.int .i64 (Nat.gcd a b : Nat)) ∧ ∃ m, w' = w.drewN m := by
  have hst := hid gcd_step
  have hz := hid (fun x => Nat.gcd_zero_right x)
  have hS := hid (show ∃ m, w = w.drewN m from ⟨0, rfl⟩)
  generalize hG : Nat.gcd a b = G at *
  replace hG := hid hG
  go_enter Tryz.func157, Tryz.ntmps157
  go_wp2
  go_loopw [0, 1] (fun x y wr => ∃ i j : Nat, x = .int .i64 i ∧ y = .int .i64 j ∧ i < 9223372036854775807 ∧ j < 9223372036854775807 ∧ Hid (Nat.gcd i j = G) ∧ Hid (∃ m, wr = w.drewN m)) (fun _ y _ => (intOf y).toNat)
  case atStart => exact ⟨a, b, rfl, rfl, ha, hb, hG, hS⟩
  case round =>
    obtain ⟨i, j, rfl, rfl, hi, hj, hg, rS⟩ := hrel
    clear hS hG
    by_cases h0 : j = 0
    · subst h0
      have e := hid (hg.out.symm.trans (hz.out i))
      have d0 : decide (((0 : Nat) : Int) > 0) = false := by decide
      go_wp2
      go_ret
      exact ⟨retI (by rw [e.out]), rS.out⟩
    · have d0 : ((j : Int) != 0) = true := by simp; omega
      have d1 : decide (0 < (j : Int)) = true := decide_eq_true (by omega)
      have dz : ¬ (j : Int) = 0 := by omega
      have m1 : Int.tmod (i : Int) (j : Int) = ((i % j : Nat) : Int) := by rw [Int.tmod_eq_emod_of_nonneg (by omega)]; omega
      have hml := Nat.mod_lt i (show 0 < j by omega)
      have hg2 := hid ((hst.out i j).trans hg.out)
      generalize hr : i % j = r at *
      have m2 : (i : Int) % (j : Int) = (r : Int) := by omega
      replace hr := hid hr
      go_wp2
      go_roundw
      case rel => exact ⟨j, r, rfl, rfl, hj, by omega, hg2, rS⟩
      case measure => simp [intOf]; omega
set_option maxHeartbeats 1000000 in
theorem l06Divisor_any (a b : Nat) (ha : a < 9223372036854775807) (hb : b < 9223372036854775807) (w : World) :
    Calls Tryz.prog 126 #[.int .i64 a, .int .i64 b] w fun e w' => e = .returned (.int .i64 (Nat.gcd a b : Nat)) ∧ ∃ m, w' = w.drewN m := by
  have hst := hid gcd_step
  have hz := hid (fun x => Nat.gcd_zero_right x)
  have hS := hid (show ∃ m, w = w.drewN m from ⟨0, rfl⟩)
  generalize hG : Nat.gcd a b = G at *
  replace hG := hid hG
  go_enter Tryz.func126, Tryz.ntmps126
  go_wp2
  go_loopw [0, 1] (fun x y wr => ∃ i j : Nat, x = .int .i64 i ∧ y = .int .i64 j ∧ i < 9223372036854775807 ∧ j < 9223372036854775807 ∧ Hid (Nat.gcd i j = G) ∧ Hid (∃ m, wr = w.drewN m)) (fun _ y _ => (intOf y).toNat)
  case atStart => exact ⟨a, b, rfl, rfl, ha, hb, hG, hS⟩
  case round =>
    obtain ⟨i, j, rfl, rfl, hi, hj, hg, rS⟩ := hrel
    clear hS hG
    by_cases h0 : j = 0
    · subst h0
      have e := hid (hg.out.symm.trans (hz.out i))
      have d0 : decide (((0 : Nat) : Int) > 0) = false := by decide
      go_wp2
      go_ret
      exact ⟨retI (by rw [e.out]), rS.out⟩
    · have d0 : ((j : Int) != 0) = true := by simp; omega
      have d1 : decide (0 < (j : Int)) = true := decide_eq_true (by omega)
      have dz : ¬ (j : Int) = 0 := by omega
      have m1 : Int.tmod (i : Int) (j : Int) = ((i % j : Nat) : Int) := by rw [Int.tmod_eq_emod_of_nonneg (by omega)]; omega
      have hml := Nat.mod_lt i (show 0 < j by omega)
      have hg2 := hid ((hst.out i j).trans hg.out)
      generalize hr : i % j = r at *
      have m2 : (i : Int) % (j : Int) = (r : Int) := by omega
      replace hr := hid hr
      go_wp2
      go_roundw
      case rel => exact ⟨j, r, rfl, rfl, hj, by omega, hg2, rS⟩
      case measure => simp [intOf]; omega
set_option maxHeartbeats 1000000 in
theorem multiple_any (a b : Nat) (ha : 0 < a) (hb : 0 < b) (hl : Nat.lcm a b < 1000000000) (w : World) :
    Calls Tryz.prog 196 #[.int .i64 a, .int .i64 b] w fun e w' => e = .returned (.int .i64 (Nat.lcm a b : Nat)) ∧ Below w.heap.size w w' := by
  have h1 := Nat.le_of_dvd (by have := Nat.lcm_pos ha hb; exact this) (Nat.dvd_lcm_left a b)
  have h2 := Nat.le_of_dvd (by have := Nat.lcm_pos ha hb; exact this) (Nat.dvd_lcm_right a b)
  have hc := hid (fun W => common_any a b (by omega) (by omega) W)
  have hg := Nat.gcd_pos_of_pos_left b ha
  have hs := hid (lcm_step a b)
  have hq := Nat.div_le_self a (Nat.gcd a b)
  generalize hG : Nat.gcd a b = G at *
  generalize hL : Nat.lcm a b = L at *
  have dz : ¬ (G : Int) = 0 := by omega
  have m1 : Int.tdiv (a : Int) (G : Int) = ((a / G : Nat) : Int) := by rw [Int.tdiv_eq_ediv_of_nonneg (by omega)]; omega
  have m2 : (a : Int) / (G : Int) = ((a / G : Nat) : Int) := by omega
  generalize a / G = q at *
  have e3 : (q : Int) * (b : Int) = (L : Int) := by rw [← hs.out]; simp
  have ew : IntKind.i64.wrap (q : Int) = q := IntWalk.i64_in _ (by omega)
  have ew2 : IntKind.i64.wrap (L : Int) = L := IntWalk.i64_in _ (by omega)
  have ew3 : wrap64 (L : Int) = L := w64 (by omega) (by omega)
  clear hG hL
  go_enter Tryz.func196, Tryz.ntmps196
  go_wp2_with (first
    | (go_at_call 234; (with_reducible refine (hc.out _).mono ?_); rintro e w1 ⟨rfl, d, rfl⟩; have hB := hid (below_drewN (Below.refl w.heap.size w) d)))
  go_ret
  exact ⟨rfl, hB.out⟩
set_option maxHeartbeats 4000000 in
set_option maxRecDepth 100000 in
theorem l03Cycles_any (w : World) (b0 : Nat) (v : Value) (p : List Nat) (h : Own w b0 2 v (nats p)) (hn : p.length ≤ 1000) (hlt : ∀ x, x < p.length → p.getD x 0 < p.length) :
    Calls Tryz.prog 155 #[v] w fun e w' => ∃ v', e = .returned v' ∧ Own w' w.heap.size 2 v' (nats (cyc p)) ∧ Below w.heap.size w w' := by
  have hil := nats_length p
  obtain ⟨A, cp, rfl, _, hA⟩ := h.form
  rw [hil] at h ⊢
  have hpg := hid (fun (x : Nat) (hx : x < p.length) => (show (nats p)[x]? = some (.int .i64 ((p.getD x 0 : Nat) : Int)) from by simp [nats, List.getD_eq_getElem?_getD, List.getElem?_eq_getElem hx]))
  have hplt := hid (fun (x : Nat) (hx : x < p.length) => hlt x hx)
  have hA2 := hid (fun (hx : 0 < p.length) => (show ∃ gp, A = some ⟨gp, 0, none⟩ from by
    rcases hA with ⟨_, h1, _⟩ | ⟨g, h1, _⟩
    · have : p.length = 0 := by rw [← hil, h1]; rfl
      omega
    · exact ⟨g, h1⟩))
  have hmk := fun W : World => run_make_row' (P := Tryz.prog) 53 4 (.bool false) 1 Tryz.underlying53 info_bool rfl .i64 .i64 p.length (by omega) (by omega) W
  have hmc := hid (toList_madeCells_one (.bool false) p.length)
  generalize madeCells #[.bool false] p.length = mc at *
  have hmcs := hid (show mc.size = p.length by rw [← Array.length_toList, hmc.out, List.length_replicate])
  have hS := (St.arg w h).newArr mc p.length hmcs.out 4 (by omega)
  rw [hmc.out] at hS
  have hrep : List.replicate p.length (Value.bool false) = bls (cyst p 0).1 := by simp [bls, cyst]
  rw [hrep] at hS
  replace hS := hid hS
  have hcl := hid (cyst_len p)
  have hco := hid (cyst_out p)
  have hcs := hid (fun k => (show cyst p (k + 1) = ((crun p (cyst p k).1 k).1, if 0 < (crun p (cyst p k).1 k).2 then (cyst p k).2 ++ [(crun p (cyst p k).1 k).2] else (cyst p k).2) from rfl))
  have hcb := hid (fun k => (show (crun p (cyst p k).1 k).2 ≤ p.length from by have h := crun_le p (cyst p k).1 k; rw [cyst_len] at h; exact h))
  have hseen := hid (fun s a (h : s[a]? = some true) => crun_seen (p := p) h)
  have hnew := hid (fun s a (h : s[a]? = some false) => crun_new (p := p) h)
  have hresult := hid (show (cyst p p.length).2 = cyc p from rfl)
  clear hA hil hlt hrep hmc h
  generalize hN : p.length = N at *
  replace hN := hid hN
  have hS2 := hS.out.newOwn [] 2 (by simp)
  simp only [List.length_nil, heap_alloc_size] at hS2
  replace hS := hid hS2.f1
  clear hS2
  have hs0 := hid (show nats (cyst p 0).2 = [] from rfl)
  go_enter Tryz.func155, Tryz.ntmps155
  go_wp2
  go_loopw [4, 5] (fun o i wr => ∃ (k : Nat) (vo : Value), k ≤ N ∧ i = .int .i64 k ∧ vo = o ∧ St w.heap.size w [Asn.own w.heap.size 4 (.slice (some ⟨w.heap.size, 0, none⟩) N N) (bls (cyst p k).1), Asn.own w.heap.size 2 vo (nats (cyst p k).2), Asn.own 0 2 (.slice A N cp) (nats p)] wr) (fun _ i _ => N - (intOf i).toNat)
  case atStart => exact ⟨0, _, Nat.zero_le _, rfl, rfl, by rw [hs0.out]; exact hS.out⟩
  case round =>
    obtain ⟨k, vo, hk, rfl, rfl, rS⟩ := hrel
    clear hS
    replace rS := hid rS
    by_cases hlk : k < N
    · have dk : decide ((k : Int) < (N : Int)) = true := decide_eq_true (by omega)
      obtain ⟨gp, rfl⟩ := hA2.out (by omega)
      go_wp2
      go_loopw [6, 7] (fun c a wr => ∃ (x C : Nat) (s : List Bool), c = .int .i64 C ∧ a = .int .i64 x ∧ x < N ∧ s.length = N ∧ Hid ((crun p s x).1 = (crun p (cyst p k).1 k).1 ∧ C + (crun p s x).2 = (crun p (cyst p k).1 k).2) ∧ St w.heap.size w [Asn.own w.heap.size 4 (.slice (some ⟨w.heap.size, 0, none⟩) N N) (bls s), Asn.own w.heap.size 2 vo (nats (cyst p k).2), Asn.own 0 2 (.slice (some ⟨gp, 0, none⟩) N cp) (nats p)] wr) (fun c _ _ => (crun p (cyst p k).1 k).2 - (intOf c).toNat)
      case atStart => exact ⟨k, 0, (cyst p k).1, rfl, rfl, hlk, hcl.out k, hid ⟨rfl, Nat.zero_add _⟩, rS.out⟩
      case round =>
        obtain ⟨x, C, s, rfl, rfl, hx, hsl, hr, rS⟩ := hrel
        have x0 : (0 : Int) ≤ (x : Int) := Int.natCast_nonneg _
        have x1 : (x : Int) < (N : Int) := by omega
        have hblen := hid (show (bls s).length = N by rw [bls_length]; exact hsl)
        by_cases hb : s[x]? = some true
        · have cs := rS.o0.cellAt x _ (bls_get hb)
          have hr2 := hr.out
          rw [hseen.out s x hb] at hr2
          obtain ⟨e1, e2⟩ := hr2
          dsimp only at e1 e2
          rw [Nat.add_zero] at e2
          replace e1 := hid e1; replace e2 := hid e2
          clear hb hr
          rw [e1.out] at rS
          replace rS := hid rS
          by_cases hz : 0 < (crun p (cyst p k).1 k).2
          · have hk1 := hid (hcs.out k)
            rw [if_pos hz] at hk1
            have hcb2 := hcb.out k
            have hol := hid (hco.out k)
            have hol2 := hid (nats_length (cyst p k).2)
            have hol3 := hol.out
            generalize hcr : crun p (cyst p k).1 k = R at *
            replace hcr := hid hcr
            have dz : decide (0 < (C : Int)) = true := decide_eq_true (by have := e2.out; omega)
            have dn : decide (0 < C) = true := decide_eq_true (by have := e2.out; omega)
            generalize hq : (cyst p k) = Q at *
            replace hq := hid hq
            go_wp2_with (first
              | ((with_reducible refine gate (N := 38) rfl ?_); refine St.app 32 2 (.int .i64 0) 8 Tryz.underlying32 info_i64 rfl (by omega) rfl _ _ rfl _ _ rfl rS.out.f1 _ rfl rfl Q.2.length hol2.out (by omega) ?_; intro gn cn w5 rS'; replace rS := hid rS'.f1; clear rS'))
            go_roundw
            case rel => exact ⟨k + 1, _, by omega, by go_num, rfl, by rw [hk1.out]; dsimp only; rw [nats_snoc, ← e2.out]; exact rS.out⟩
            case measure => simp [intOf]; omega
          · have hk1 := hid (hcs.out k)
            rw [if_neg hz] at hk1
            generalize hcr : crun p (cyst p k).1 k = R at *
            replace hcr := hid hcr
            have dz : decide (0 < (C : Int)) = false := decide_eq_false (by have := e2.out; omega)
            have dn : decide (0 < C) = false := decide_eq_false (by have := e2.out; omega)
            generalize hq : (cyst p k) = Q at *
            replace hq := hid hq
            go_wp2
            go_roundw
            case rel => exact ⟨k + 1, _, by omega, by go_num, rfl, by rw [hk1.out]; exact rS.out⟩
            case measure => simp [intOf]; omega
        · have hb2 := get_bool (by omega) hb
          have cs := rS.o0.cellAt x _ (bls_get hb2)
          have fs := Own.frozenAt rS.o0 hblen.out x
          have hr2 := hr.out
          rw [hnew.out s x hb2] at hr2
          have hbnd := hcb.out k
          have hpx := hplt.out x hx
          have hcp := hid (hpg.out x hx)
          have hset := hid (bls_set s x true)
          have hsl2 := hid (show (s.set x true).length = N by rw [List.length_set]; exact hsl)
          generalize hS1 : (crun p (cyst p k).1 k).1 = S1 at *
          generalize hC1 : (crun p (cyst p k).1 k).2 = C1 at *
          replace hS1 := hid hS1; replace hC1 := hid hC1
          generalize p.getD x 0 = px at *
          generalize s.set x true = s2 at *
          obtain ⟨e1, e2⟩ := hr2
          dsimp only at e1 e2
          generalize hcr : crun p s2 px = R at *
          replace hcr := hid hcr; replace e1 := hid e1
          clear hb hb2 hr
          replace rS := hid rS
          have mk : True := trivial
          go_wp2_with (first
            | ((with_reducible refine gate (N := 27) rfl ?_); clear mk; replace rS := hid (rS.out.setOwn hblen.out x (.bool true) hx); rw [hset.out] at rS; (have ck := rS.out.o2.cellAt x _ hcp.out); generalize wr.setCell _ _ = wx at *))
          go_roundw
          case rel => exact ⟨px, C + 1, s2, by go_num, rfl, hpx, hsl2.out, hid ⟨by rw [hcr.out]; exact e1.out, by rw [hcr.out]; omega⟩, rS.out⟩
          case measure => simp [intOf]; omega
    · obtain rfl : k = N := by omega
      have dk : decide ((k : Int) < (k : Int)) = false := decide_eq_false (by omega)
      go_wp2
      go_ret
      exact ⟨_, rfl, by rw [← hresult.out]; exact rS.out.o1, rS.out.bel⟩
end Go.Proofs.YthmcdfjijkecfaaGreat
