/- What the proof of FnDuals leans on, part 14 of 26. -/
import Derived.Test.YtbmkkaecfogmoaaZFnDualsM
/- The program's groupOf. -/
namespace Go.Proofs.Ytbmkkaecfogmoaa
open Go.RowKit
set_option linter.unusedVariables false
set_option linter.unusedSimpArgs false
-- @LONG

open Classical in
/-- Some list is no group word. -/
noncomputable def badGw (m : Mach) (g : List Int) : Bool := decide (¬ IsGw m g)
set_option maxHeartbeats 1000000 in
theorem gof1_any (b : Nat) (w : World) (m : Mach) (hk : m.Ok) (hm : MB w 27 b m) (base : Nat) (v : Value) (g : List Int) (h : Own w base 2 v (ints g)) (hl : g.length < 2000000) :
    Calls Try.prog 225 #[v, .pointer (some ⟨b, 0, none⟩)] w fun e w' => e = .returned (.bool (badGw m g)) ∧ Below w.heap.size w w' := by
  classical
  have hi := hid (IsGroupWord_any w m hk base v g h hl (decide (IsGw m g)) decide_eq_true_iff)
  have hb := hid (show badGw m g = !decide (IsGw m g) from by unfold badGw; simp)
  rw [hb.out]
  replace hm := hid hm
  clear h hb
  generalize decide (IsGw m g) = r at *
  go_enter Try.func225, Try.ntmps225
  go_wp2_with (first
    | ((with_reducible refine gate (N := 4) rfl ?_); refine load_mach rfl _ rfl b rfl m hm.out ?_)
    | (go_at_call 48; (with_reducible refine (hi.out).mono ?_); rintro e w1 ⟨rfl, hb⟩; have hB := hid hb; clear hb))
  go_ret
  exact ⟨rfl, hB.out⟩
set_option maxHeartbeats 1000000 in
set_option maxRecDepth 100000 in
theorem indexFuncM_gof (b : Nat) (w : World) (base : Nat) (v : Value) (M : List (List Int)) (h : Mat w base v M) (hl : M.length < 2000000) (p : List Int → Bool)
    (hcall : ∀ W, Below w.heap.size w W → ∀ r row, row ∈ M → Own W base 2 r (ints row) → Calls Try.prog 225 #[r, .pointer (some ⟨b, 0, none⟩)] W fun e w' => e = .returned (.bool (p row)) ∧ Below W.heap.size W w') :
    Calls Try.prog 190 #[v, .func (.func 225) #[] #[.pointer (some ⟨b, 0, none⟩)]] w fun e w' => e = .returned (.int .i64 (idxP p M 0)) ∧ Below w.heap.size w w' := by
  obtain ⟨rows, hO, hrl, hrow⟩ := h
  obtain ⟨A1, c1, rfl, _, _⟩ := hO.form
  rw [hrl] at hO ⊢
  have hcell := hid (fun (k : Nat) (x : List Int) (hx : M[k]? = some x) => (show ∃ g r, A1 = some ⟨g, 0, none⟩ ∧ ∀ W, Below w.heap.size w W → W.cell? ⟨g, k, none⟩ = some r ∧ Own W base 2 r (ints x) from by
    have hk := (List.getElem?_eq_some_iff.1 hx).1
    obtain ⟨g1, c2, he, _, hg1⟩ := hO.blk (fun e => by rw [e] at hrl; rw [← hrl] at hk; simp at hk)
    injection he with e1 e2 e3
    subst e1
    obtain ⟨r, hr⟩ : ∃ r, rows[k]? = some r := ⟨_, List.getElem?_eq_getElem (by rw [hrl]; exact hk)⟩
    exact ⟨g1, r, rfl, fun W hW => ⟨(hO.below hW).cellAt k _ hr, (hrow k r x hr hx).below hW⟩⟩))
  replace hcall := hid hcall
  clear hO hrow
  obtain ⟨R, hR⟩ : ∃ R, R = idxP p M 0 := ⟨_, rfl⟩
  rw [← hR]
  replace hR := hid hR
  generalize hn : M.length = n at *
  replace hn := hid hn
  go_enter Try.func190, Try.ntmps190
  go_wp2
  go_loopw [8] (fun i wr => ∃ k : Nat, k ≤ n ∧ i = .int .i64 k ∧ Hid (R = idxP p (M.drop k) k) ∧ Below w.heap.size w wr) (fun i _ => n - (intOf i).toNat)
  case atStart => exact ⟨0, Nat.zero_le _, rfl, hR, Below.refl _ _⟩
  case round =>
    obtain ⟨k, hk, rfl, hA, rB⟩ := hrel
    clear hR
    replace rB := hid rB
    by_cases hlt : k < n
    · obtain ⟨x, hx⟩ : ∃ x, M[k]? = some x := ⟨_, List.getElem?_eq_getElem (by rw [hn.out]; exact hlt)⟩
      obtain ⟨g, r, rfl, hc⟩ := hcell.out k x hx
      have d1 := (hc wr rB.out).1
      have hcl := hid (hcall.out wr rB.out r x (List.mem_of_getElem? hx) (hc wr rB.out).2)
      have hT := hid (fun hp => idxP_drop_t (p := p) hx hp k)
      have hF := hid (fun hp => idxP_drop_f (p := p) hx hp k)
      clear hc hx
      cases hp : p x with
      | true =>
        rw [hp] at hcl
        have hA2 := hid (hA.out.trans (hT.out hp))
        clear hp hT hF
        go_wp2_with (first
          | (go_at_call 225; (with_reducible refine (hcl.out).mono ?_); rintro e w1 ⟨rfl, hb⟩; replace rB := hid (rB.out.trans (hb.mono rB.out.size)); clear hb))
        go_ret
        exact ⟨retI (by rw [hA2.out]), rB.out⟩
      | false =>
        rw [hp] at hcl
        have hA2 := hid (hA.out.trans (hF.out hp))
        clear hp hT hF
        go_wp2_with (first
          | (go_at_call 225; (with_reducible refine (hcl.out).mono ?_); rintro e w1 ⟨rfl, hb⟩; replace rB := hid (rB.out.trans (hb.mono rB.out.size)); clear hb))
        go_roundw
        case rel => exact ⟨k + 1, by omega, by go_num, hA2, rB.out⟩
        case measure => simp [intOf]; omega
    · obtain rfl : k = n := by omega
      have hA2 := hid (hA.out.trans (show _ = (-1 : Int) by rw [List.drop_eq_nil_of_le (by rw [hn.out]; exact Nat.le_refl _)]; rfl))
      go_wp2
      go_ret
      exact ⟨retI (by rw [hA2.out]), rB.out⟩
set_option maxHeartbeats 1000000 in
theorem containsFuncM_gof (b : Nat) (w : World) (base : Nat) (v : Value) (M : List (List Int)) (h : Mat w base v M) (hl : M.length < 2000000) (p : List Int → Bool)
    (hcall : ∀ W, Below w.heap.size w W → ∀ r row, row ∈ M → Own W base 2 r (ints row) → Calls Try.prog 225 #[r, .pointer (some ⟨b, 0, none⟩)] W fun e w' => e = .returned (.bool (p row)) ∧ Below W.heap.size W w') :
    Calls Try.prog 206 #[v, .func (.func 225) #[] #[.pointer (some ⟨b, 0, none⟩)]] w fun e w' => e = .returned (.bool (M.any p)) ∧ Below w.heap.size w w' := by
  have hi := hid (indexFuncM_gof b w base v M h hl p hcall)
  have ha := hid (idxP_any p M 0 (Int.le_refl _))
  clear hcall h hl
  generalize idxP p M 0 = r at *
  generalize M.any p = c at *
  go_enter Try.func206, Try.ntmps206
  go_wp2_with (first
    | (go_at_call 190; (with_reducible refine (hi.out).mono ?_); rintro e w1 ⟨rfl, hb⟩; replace hb := hid hb))
  go_ret
  refine ⟨retB ?_, hb.out⟩
  have h := ha.out
  rw [Bool.eq_iff_iff, ← h]
  simp

set_option maxHeartbeats 2000000 in
set_option maxRecDepth 4000 in
/-- No group. -/
theorem groupOf_n (w : World) (m : Mach) (hk : m.Ok) (base : Nat) (v : Value) (M : List (List Int)) (h : Mat w base v M) (hl : M.length < 2000000) (hlr : ∀ row ∈ M, row.length < 2000000) (hbad : ¬ IsM m ∨ ∃ row ∈ M, ¬ IsGw m row) :
    Calls Try.prog 146 #[.agg (mcells m), v] w fun e w' => e = .returned (.tuple #[.pointer none, .int .i64 1]) ∧ Below w.heap.size w w' := by
  have hS := hid ((St.start w).newMB m 27)
  have hmf : ∀ (fn : Fn) (first cap : Array Value) (w : World), (Instr.makeFunc fn first cap).run Try.prog w = .ok (.func fn first cap) w := fun _ _ _ _ => rfl
  by_cases hm : IsM m
  · have hi := hid (fun W => IsMachine_any W m hk true ⟨fun _ => hm, fun _ => rfl⟩)
    have hany : M.any (badGw m) = true := by
      obtain ⟨row, hr, hb⟩ := hbad.resolve_left (fun h => h hm)
      rw [List.any_eq_true]
      exact ⟨row, hr, by unfold badGw; simpa using hb⟩
    have hc := hid (fun W (hW : Below w.heap.size w W) (hmb : MB W 27 w.heap.size m) => (by
      have h1 := containsFuncM_gof w.heap.size W base v M (h.below hW) hl (badGw m) (fun W' hW' r row hr hO => gof1_any w.heap.size W' m hk (hmb.below hW' hmb.lt) base r row hO (hlr row hr))
      rw [hany] at h1; exact h1 : Calls Try.prog 206 #[v, .func (.func 225) #[] #[.pointer (some ⟨w.heap.size, 0, none⟩)]] W fun e w' => e = .returned (.bool true) ∧ Below W.heap.size W w'))
    replace hk := hid hk; replace h := hid h; clear hbad hany hm
    go_enter Try.func146, Try.ntmps146
    go_wp2_with (first
      | ((with_reducible refine gate (N := 6) rfl ?_); refine load_mach rfl _ rfl w.heap.size rfl m hS.out.m0 ?_)
      | (go_at_call 65; (with_reducible refine (hi.out _).mono ?_); rintro e w1 ⟨rfl, hb⟩; replace hS := hid (hS.out.call hb); clear hb)
      | (go_at_call 206; (with_reducible refine (hc.out _ hS.out.bel hS.out.m0).mono ?_); rintro e w2 ⟨rfl, hb⟩; replace hS := hid (hS.out.call hb); clear hb))
    go_ret2
    exact ⟨rfl, hS.out.bel⟩
  · have hi := hid (fun W => IsMachine_any W m hk false ⟨fun h => (by cases h), fun h => absurd h hm⟩)
    replace hk := hid hk; replace h := hid h; clear hbad hm
    go_enter Try.func146, Try.ntmps146
    go_wp2_with (first
      | ((with_reducible refine gate (N := 6) rfl ?_); refine load_mach rfl _ rfl w.heap.size rfl m hS.out.m0 ?_)
      | (go_at_call 65; (with_reducible refine (hi.out _).mono ?_); rintro e w1 ⟨rfl, hb⟩; replace hS := hid (hS.out.call hb); clear hb))
    go_ret2
    exact ⟨rfl, hS.out.bel⟩

set_option maxHeartbeats 2000000 in
set_option maxRecDepth 4000 in
/-- The group. -/
theorem groupOf_y (w : World) (m : Mach) (hk : m.Ok) (base : Nat) (v : Value) (M : List (List Int)) (h : Mat w base v M) (hl : M.length < 2000000) (hlr : ∀ row ∈ M, row.length < 2000000) (l s : Nat) (g : Good m l s) (hall : ∀ row ∈ M, IsGw m row) :
    Calls Try.prog 146 #[.agg (mcells m), v] w fun e w' => ∃ G v1 v2, e = .returned (.tuple #[.pointer (some ⟨G, 0, none⟩), .int .i64 0]) ∧ w.heap.size ≤ G ∧ GrB w' G w.heap.size m l s v1 v2 ∧ Below w.heap.size w w' := by
  have hS := hid ((St.start w).newMB m 27)
  have hmf : ∀ (fn : Fn) (first cap : Array Value) (w : World), (Instr.makeFunc fn first cap).run Try.prog w = .ok (.func fn first cap) w := fun _ _ _ _ => rfl
  have hi := hid (fun W => IsMachine_any W m hk true ⟨fun _ => g.isM, fun _ => rfl⟩)
  have hany : M.any (badGw m) = false := by
    rw [List.any_eq_false]
    intro row hr
    unfold badGw; simpa using hall row hr
  have hc := hid (fun W (hW : Below w.heap.size w W) (hmb : MB W 27 w.heap.size m) => (by
    have h1 := containsFuncM_gof w.heap.size W base v M (h.below hW) hl (badGw m) (fun W' hW' r row hr hO => gof1_any w.heap.size W' m hk (hmb.below hW' hmb.lt) base r row hO (hlr row hr))
    rw [hany] at h1; exact h1 : Calls Try.prog 206 #[v, .func (.func 225) #[] #[.pointer (some ⟨w.heap.size, 0, none⟩)]] W fun e w' => e = .returned (.bool false) ∧ Below W.heap.size W w'))
  have hng := hid (fun W => newGroup_any W m hk l s g)
  replace hk := hid hk; replace h := hid h; replace g := hid g; clear hall hany
  go_enter Try.func146, Try.ntmps146
  go_wp2_with (first
    | ((with_reducible refine gate (N := 6) rfl ?_); refine load_mach rfl _ rfl w.heap.size rfl m hS.out.m0 ?_)
    | ((with_reducible refine gate (N := 14) rfl ?_); refine load_mach rfl _ rfl w.heap.size rfl m hS.out.m0 ?_)
    | (go_at_call 65; (with_reducible refine (hi.out _).mono ?_); rintro e w1 ⟨rfl, hb⟩; replace hS := hid (hS.out.call hb); clear hb)
    | (go_at_call 206; (with_reducible refine (hc.out _ hS.out.bel hS.out.m0).mono ?_); rintro e w2 ⟨rfl, hb⟩; replace hS := hid (hS.out.call hb); clear hb)
    | (go_at_call 226; (with_reducible refine (hng.out _).mono ?_); rintro e w3 ⟨G, v1, v2, rfl, hle, hGB, hb⟩; have hle2 := hid (Nat.le_trans hS.out.le hle); have hGB2 := hid (GrB.mk hGB.blk (hGB.of.mono hS.out.le) (hGB.tr.mono hS.out.le)); replace hS := hid (hS.out.call hb); clear hb hle hGB))
  go_ret2
  exact ⟨G, v1, v2, rfl, hle2.out, hGB2.out, hS.out.bel⟩
end Go.Proofs.Ytbmkkaecfogmoaa
