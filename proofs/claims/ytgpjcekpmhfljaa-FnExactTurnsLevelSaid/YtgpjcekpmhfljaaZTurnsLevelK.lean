/- What the proof of TurnsLevel leans on, part 11 of 12. -/
import Derived.Test.YtgpjcekpmhfljaaZTurnsLevelJ
/- The program's groupOf. -/
namespace Go.Proofs.Ytgpjcekpmhfljaa
open Go.RowKit
set_option linter.unusedVariables false
set_option linter.unusedSimpArgs false
-- @LONG

open Classical in
/-- Some list is no group word. -/
noncomputable def badGw (m : Mach) (g : List Int) : Bool := decide (¬ IsGw m g)
set_option maxHeartbeats 1000000 in
theorem gof1_any (b : Nat) (w : World) (m : Mach) (hk : m.Ok) (hm : MB w 29 b m) (base : Nat) (v : Value) (g : List Int) (h : Own w base 2 v (ints g)) (hl : g.length < 2000000) :
    Calls Try.prog 133 #[v, .pointer (some ⟨b, 0, none⟩)] w fun e w' => e = .returned (.bool (badGw m g)) ∧ Below w.heap.size w w' := by
  classical
  have hi := hid (IsGroupWord_any w m hk base v g h hl (decide (IsGw m g)) decide_eq_true_iff)
  have hb := hid (show badGw m g = !decide (IsGw m g) from by unfold badGw; simp)
  rw [hb.out]
  replace hm := hid hm
  clear h hb
  generalize decide (IsGw m g) = r at *
  go_enter Try.func133, Try.ntmps133
  go_wp2_with (first
    | ((with_reducible refine gate (N := 4) rfl ?_); refine load_mach rfl _ rfl b rfl m hm.out ?_)
    | (go_at_call 134; (with_reducible refine (hi.out).mono ?_); rintro e w1 ⟨rfl, hb⟩; have hB := hid hb; clear hb))
  go_ret
  exact ⟨rfl, hB.out⟩
set_option maxHeartbeats 1000000 in
set_option maxRecDepth 100000 in
theorem indexFuncM_gof (b : Nat) (w : World) (base : Nat) (v : Value) (M : List (List Int)) (h : Mat w base v M) (hl : M.length < 2000000) (p : List Int → Bool)
    (hcall : ∀ W, Below w.heap.size w W → ∀ r row, row ∈ M → Own W base 2 r (ints row) → Calls Try.prog 133 #[r, .pointer (some ⟨b, 0, none⟩)] W fun e w' => e = .returned (.bool (p row)) ∧ Below W.heap.size W w') :
    Calls Try.prog 112 #[v, .func (.func 133) #[] #[.pointer (some ⟨b, 0, none⟩)]] w fun e w' => e = .returned (.int .i64 (idxP p M 0)) ∧ Below w.heap.size w w' := by
  obtain ⟨rows, hO, hrl, hrow⟩ := h
  obtain ⟨A1, c1, rfl, _, _⟩ := hO.form
  rw [hrl] at hO ⊢
  have hcell := hid (fun (k : Nat) (x : List Int) (hx : M[k]? = some x) => (show ∃ g r, A1 = some ⟨g, 0, none⟩ ∧ ∀ W, Below w.heap.size w W → W.cell? ⟨g, k, none⟩ = some r ∧ Own W base 2 r (ints x) from by
    have hk := (List.getElem?_eq_some_iff.1 hx).1
    obtain ⟨g1, c2, he, _, hg1⟩ := hO.blk (fun e => by rw [e] at hrl; rw [← hrl] at hk; simp at hk)
    injection he with e1 e2 e3
    subst e1
    obtain ⟨r, hr⟩ : ∃ r, rows[k]? = some r := ⟨_, List.getElem?_eq_getElem (by rw [hrl]; exact hk)⟩
    exact ⟨g1, r, rfl, fun W hW => ⟨(hO.below hW).cellAt k _ hr, (hrow k r x hr hx).below hW⟩⟩))
  replace hcall := hid hcall
  clear hO hrow
  obtain ⟨R, hR⟩ : ∃ R, R = idxP p M 0 := ⟨_, rfl⟩
  rw [← hR]
  replace hR := hid hR
  generalize hn : M.length = n at *
  replace hn := hid hn
  go_enter Try.func112, Try.ntmps112
  go_wp2
  go_loopw [8] (fun i wr => ∃ k : Nat, k ≤ n ∧ i = .int .i64 k ∧ Hid (R = idxP p (M.drop k) k) ∧ Below w.heap.size w wr) (fun i _ => n - (intOf i).toNat)
  case atStart => exact ⟨0, Nat.zero_le _, rfl, hR, Below.refl _ _⟩
  case round =>
    obtain ⟨k, hk, rfl, hA, rB⟩ := hrel
    clear hR
    replace rB := hid rB
    by_cases hlt : k < n
    · obtain ⟨x, hx⟩ : ∃ x, M[k]? = some x := ⟨_, List.getElem?_eq_getElem (by rw [hn.out]; exact hlt)⟩
      obtain ⟨g, r, rfl, hc⟩ := hcell.out k x hx
      have d1 := (hc wr rB.out).1
      have hcl := hid (hcall.out wr rB.out r x (List.mem_of_getElem? hx) (hc wr rB.out).2)
      have hT := hid (fun hp => idxP_drop_t (p := p) hx hp k)
      have hF := hid (fun hp => idxP_drop_f (p := p) hx hp k)
      clear hc hx
      cases hp : p x with
      | true =>
        rw [hp] at hcl
        have hA2 := hid (hA.out.trans (hT.out hp))
        clear hp hT hF
        go_wp2_with (first
          | (go_at_call 133; (with_reducible refine (hcl.out).mono ?_); rintro e w1 ⟨rfl, hb⟩; replace rB := hid (rB.out.trans (hb.mono rB.out.size)); clear hb))
        go_ret
        exact ⟨retI (by rw [hA2.out]), rB.out⟩
      | false =>
        rw [hp] at hcl
        have hA2 := hid (hA.out.trans (hF.out hp))
        clear hp hT hF
        go_wp2_with (first
          | (go_at_call 133; (with_reducible refine (hcl.out).mono ?_); rintro e w1 ⟨rfl, hb⟩; replace rB := hid (rB.out.trans (hb.mono rB.out.size)); clear hb))
        go_roundw
        case rel => exact ⟨k + 1, by omega, by go_num, hA2, rB.out⟩
        case measure => simp [intOf]; omega
    · obtain rfl : k = n := by omega
      have hA2 := hid (hA.out.trans (show _ = (-1 : Int) by rw [List.drop_eq_nil_of_le (by rw [hn.out]; exact Nat.le_refl _)]; rfl))
      go_wp2
      go_ret
      exact ⟨retI (by rw [hA2.out]), rB.out⟩
set_option maxHeartbeats 1000000 in
theorem containsFuncM_gof (b : Nat) (w : World) (base : Nat) (v : Value) (M : List (List Int)) (h : Mat w base v M) (hl : M.length < 2000000) (p : List Int → Bool)
    (hcall : ∀ W, Below w.heap.size w W → ∀ r row, row ∈ M → Own W base 2 r (ints row) → Calls Try.prog 133 #[r, .pointer (some ⟨b, 0, none⟩)] W fun e w' => e = .returned (.bool (p row)) ∧ Below W.heap.size W w') :
    Calls Try.prog 85 #[v, .func (.func 133) #[] #[.pointer (some ⟨b, 0, none⟩)]] w fun e w' => e = .returned (.bool (M.any p)) ∧ Below w.heap.size w w' := by
  have hi := hid (indexFuncM_gof b w base v M h hl p hcall)
  have ha := hid (idxP_any p M 0 (Int.le_refl _))
  clear hcall h hl
  generalize idxP p M 0 = r at *
  generalize M.any p = c at *
  go_enter Try.func85, Try.ntmps85
  go_wp2_with (first
    | (go_at_call 112; (with_reducible refine (hi.out).mono ?_); rintro e w1 ⟨rfl, hb⟩; replace hb := hid hb))
  go_ret
  refine ⟨retB ?_, hb.out⟩
  have h := ha.out
  rw [Bool.eq_iff_iff, ← h]
  simp

set_option maxHeartbeats 2000000 in
set_option maxRecDepth 4000 in
/-- No group. -/
theorem groupOf_n (w : World) (m : Mach) (hk : m.Ok) (base : Nat) (v : Value) (M : List (List Int)) (h : Mat w base v M) (hl : M.length < 2000000) (hlr : ∀ row ∈ M, row.length < 2000000) (hbad : ¬ IsM m ∨ ∃ row ∈ M, ¬ IsGw m row) :
    Calls Try.prog 102 #[.agg (mcells m), v] w fun e w' => e = .returned (.tuple #[.pointer none, .int .i64 1]) ∧ Below w.heap.size w w' := by
  have hS := hid ((St.start w).newMB m 29)
  have hmf : ∀ (fn : Fn) (first cap : Array Value) (w : World), (Instr.makeFunc fn first cap).run Try.prog w = .ok (.func fn first cap) w := fun _ _ _ _ => rfl
  by_cases hm : IsM m
  · have hi := hid (fun W => IsMachine_any W m hk true ⟨fun _ => hm, fun _ => rfl⟩)
    have hany : M.any (badGw m) = true := by
      obtain ⟨row, hr, hb⟩ := hbad.resolve_left (fun h => h hm)
      rw [List.any_eq_true]
      exact ⟨row, hr, by unfold badGw; simpa using hb⟩
    have hc := hid (fun W (hW : Below w.heap.size w W) (hmb : MB W 29 w.heap.size m) => (by
      have h1 := containsFuncM_gof w.heap.size W base v M (h.below hW) hl (badGw m) (fun W' hW' r row hr hO => gof1_any w.heap.size W' m hk (hmb.below hW' hmb.lt) base r row hO (hlr row hr))
      rw [hany] at h1; exact h1 : Calls Try.prog 85 #[v, .func (.func 133) #[] #[.pointer (some ⟨w.heap.size, 0, none⟩)]] W fun e w' => e = .returned (.bool true) ∧ Below W.heap.size W w'))
    replace hk := hid hk; replace h := hid h; clear hbad hany hm
    go_enter Try.func102, Try.ntmps102
    go_wp2_with (first
      | ((with_reducible refine gate (N := 6) rfl ?_); refine load_mach rfl _ rfl w.heap.size rfl m hS.out.m0 ?_)
      | (go_at_call 70; (with_reducible refine (hi.out _).mono ?_); rintro e w1 ⟨rfl, hb⟩; replace hS := hid (hS.out.call hb); clear hb)
      | (go_at_call 85; (with_reducible refine (hc.out _ hS.out.bel hS.out.m0).mono ?_); rintro e w2 ⟨rfl, hb⟩; replace hS := hid (hS.out.call hb); clear hb))
    go_ret2
    exact ⟨rfl, hS.out.bel⟩
  · have hi := hid (fun W => IsMachine_any W m hk false ⟨fun h => (by cases h), fun h => absurd h hm⟩)
    replace hk := hid hk; replace h := hid h; clear hbad hm
    go_enter Try.func102, Try.ntmps102
    go_wp2_with (first
      | ((with_reducible refine gate (N := 6) rfl ?_); refine load_mach rfl _ rfl w.heap.size rfl m hS.out.m0 ?_)
      | (go_at_call 70; (with_reducible refine (hi.out _).mono ?_); rintro e w1 ⟨rfl, hb⟩; replace hS := hid (hS.out.call hb); clear hb))
    go_ret2
    exact ⟨rfl, hS.out.bel⟩

set_option maxHeartbeats 2000000 in
set_option maxRecDepth 4000 in
/-- The group. -/
theorem groupOf_y (w : World) (m : Mach) (hk : m.Ok) (base : Nat) (v : Value) (M : List (List Int)) (h : Mat w base v M) (hl : M.length < 2000000) (hlr : ∀ row ∈ M, row.length < 2000000) (l s : Nat) (g : Good m l s) (hall : ∀ row ∈ M, IsGw m row) :
    Calls Try.prog 102 #[.agg (mcells m), v] w fun e w' => ∃ G v1 v2, e = .returned (.tuple #[.pointer (some ⟨G, 0, none⟩), .int .i64 0]) ∧ w.heap.size ≤ G ∧ GrB w' G w.heap.size m l s v1 v2 ∧ Below w.heap.size w w' := by
  have hS := hid ((St.start w).newMB m 29)
  have hmf : ∀ (fn : Fn) (first cap : Array Value) (w : World), (Instr.makeFunc fn first cap).run Try.prog w = .ok (.func fn first cap) w := fun _ _ _ _ => rfl
  have hi := hid (fun W => IsMachine_any W m hk true ⟨fun _ => g.isM, fun _ => rfl⟩)
  have hany : M.any (badGw m) = false := by
    rw [List.any_eq_false]
    intro row hr
    unfold badGw; simpa using hall row hr
  have hc := hid (fun W (hW : Below w.heap.size w W) (hmb : MB W 29 w.heap.size m) => (by
    have h1 := containsFuncM_gof w.heap.size W base v M (h.below hW) hl (badGw m) (fun W' hW' r row hr hO => gof1_any w.heap.size W' m hk (hmb.below hW' hmb.lt) base r row hO (hlr row hr))
    rw [hany] at h1; exact h1 : Calls Try.prog 85 #[v, .func (.func 133) #[] #[.pointer (some ⟨w.heap.size, 0, none⟩)]] W fun e w' => e = .returned (.bool false) ∧ Below W.heap.size W w'))
  have hng := hid (fun W => newGroup_any W m hk l s g)
  replace hk := hid hk; replace h := hid h; replace g := hid g; clear hall hany
  go_enter Try.func102, Try.ntmps102
  go_wp2_with (first
    | ((with_reducible refine gate (N := 6) rfl ?_); refine load_mach rfl _ rfl w.heap.size rfl m hS.out.m0 ?_)
    | ((with_reducible refine gate (N := 14) rfl ?_); refine load_mach rfl _ rfl w.heap.size rfl m hS.out.m0 ?_)
    | (go_at_call 70; (with_reducible refine (hi.out _).mono ?_); rintro e w1 ⟨rfl, hb⟩; replace hS := hid (hS.out.call hb); clear hb)
    | (go_at_call 85; (with_reducible refine (hc.out _ hS.out.bel hS.out.m0).mono ?_); rintro e w2 ⟨rfl, hb⟩; replace hS := hid (hS.out.call hb); clear hb)
    | (go_at_call 135; (with_reducible refine (hng.out _).mono ?_); rintro e w3 ⟨G, v1, v2, rfl, hle, hGB, hb⟩; have hle2 := hid (Nat.le_trans hS.out.le hle); have hGB2 := hid (GrB.mk hGB.blk (hGB.of.mono hS.out.le) (hGB.tr.mono hS.out.le)); replace hS := hid (hS.out.call hb); clear hb hle hGB))
  go_ret2
  exact ⟨G, v1, v2, rfl, hle2.out, hGB2.out, hS.out.bel⟩
end Go.Proofs.Ytgpjcekpmhfljaa

/- ImageOf, SectionOf, PeriodOfWord: the program's side. -/
namespace Go.Proofs.Ytgpjcekpmhfljaa
open Go.RowKit
set_option linter.unusedVariables false
set_option linter.unusedSimpArgs false
-- @LONG

/-- The letters of a text. -/
def lets (ws : ByteArray) : List Nat := ws.data.toList.map fun b => b.toNat - 48
theorem lets_wstr {l : Nat} (ws : ByteArray) (h : IsWd l ws) : ws = wstr (lets ws) ∧ (∀ x ∈ lets ws, x < l) ∧ (lets ws).length ≤ 40 := by
  have e : ws = wstr (lets ws) := wstr_of_bytes ws fun k hk => (h.2 k hk).1
  refine ⟨e, fun x hx => ?_, by unfold lets; rw [List.length_map, Array.length_toList]; exact h.1⟩
  obtain ⟨b, hb, rfl⟩ := List.mem_map.1 hx
  obtain ⟨k, hk, rfl⟩ := List.getElem_of_mem hb
  have hk' : k < ws.size := by simpa using hk
  have h2 := (h.2 k hk').2
  have h1 := (h.2 k hk').1
  have e2 : (ws[k]'hk').toNat = (ws.data.toList[k]).toNat := by simp [ByteArray.getElem_eq_getElem_data]
  omega
theorem IsGw.parts {m : Mach} {l s : Nat} {g : List Int} (gd : Good m l s) (h : IsGw m g) : g.length ≤ 40 ∧ ∀ k ∈ g, isNum s k := by
  have e : m.S.toNat = s := by rw [gd.S]; rfl
  have := h.2
  rw [e] at this; exact this
theorem mat_one {w : World} {b : Nat} {v r : Value} {l : List Int} (hO : Own w b 34 v [r]) (hr : Own w b 2 r (ints l)) : Mat w b v [l] :=
  ⟨[r], hO, rfl, fun i r' l' h1 h2 => by
    cases i with
    | zero => simp at h1 h2; subst h1; subst h2; exact hr
    | succ i => simp at h1⟩
/-- What is asked of a group word and a word: 0, or no group word, or no word. -/
theorem gw_cases (m : Mach) (g : List Int) (ws : ByteArray) : (¬ IsM m ∨ ¬ IsGw m g) ∨ (∃ l s, Good m l s ∧ IsGw m g ∧ ¬ IsWd l ws) ∨ ∃ l s, Good m l s ∧ IsGw m g ∧ IsWd l ws := by
  by_cases h : IsGw m g
  · obtain ⟨l, s, gd⟩ := h.1.good
    by_cases hw : IsWd l ws
    · exact .inr (.inr ⟨l, s, gd, h, hw⟩)
    · exact .inr (.inl ⟨l, s, gd, h, hw⟩)
  · exact .inl (.inr h)
open Classical in
noncomputable def imgAns (m : Mach) (g : List Int) (ws : ByteArray) : ByteArray × Int := if IsGw m g ∧ IsWd m.L ws then (wstr (imgW m m.L.toNat m.S.toNat g (lets ws)), 0) else ({ data := #[] }, 1)
open Classical in
noncomputable def secAns (m : Mach) (g : List Int) (ws : ByteArray) : List Int × Int := if IsGw m g ∧ IsWd m.L ws then (secW m m.L.toNat m.S.toNat g (lets ws), 0) else ([], 1)
section
variable {m : Mach} {l s : Nat} {g : List Int} {ws : ByteArray}
theorem imgAns_1 (h : ¬ IsGw m g) : imgAns m g ws = ({ data := #[] }, 1) := by unfold imgAns; rw [if_neg (fun k => h k.1)]
theorem imgAns_w (gd : Good m l s) (h : ¬ IsWd l ws) : imgAns m g ws = ({ data := #[] }, 1) := by unfold imgAns; rw [gd.L, if_neg (fun k => h k.2)]
theorem imgAns_0 (gd : Good m l s) (h : IsGw m g) (hw : IsWd l ws) : imgAns m g ws = (wstr (imgW m l s g (lets ws)), 0) := by unfold imgAns; rw [gd.L, gd.S, if_pos ⟨h, hw⟩]; rfl
theorem secAns_1 (h : ¬ IsGw m g) : secAns m g ws = ([], 1) := by unfold secAns; rw [if_neg (fun k => h k.1)]
theorem secAns_w (gd : Good m l s) (h : ¬ IsWd l ws) : secAns m g ws = ([], 1) := by unfold secAns; rw [gd.L, if_neg (fun k => h k.2)]
theorem secAns_0 (gd : Good m l s) (h : IsGw m g) (hw : IsWd l ws) : secAns m g ws = (secW m l s g (lets ws), 0) := by unfold secAns; rw [gd.L, gd.S, if_pos ⟨h, hw⟩]; rfl
end

end Go.Proofs.Ytgpjcekpmhfljaa

/- Group words: the reference's l02Numbers, l02Is, l02Code, l01Letters, l01Word, l02Both. -/
namespace Go.Proofs.Ytgpjcekpmhfljaa
open Go.RowKit
set_option linter.unusedVariables false
set_option linter.unusedSimpArgs false
-- @LONG

set_option maxHeartbeats 2000000 in
set_option maxRecDepth 100000 in
theorem l02Numbers_any (w : World) (m : Mach) (l s : Nat) (gd : Good m l s) (base : Nat) (v : Value) (g : List Int) (h : Own w base 2 v (ints g)) (hl : g.length < 2000000) :
    Calls Try.prog 154 #[.agg (mcells m), v] w fun e w' => e = .returned (.bool (!(g.any (badNum s)))) ∧ Below w.heap.size w w' := by
  have hil := ints_length g
  obtain ⟨A, c, rfl, _, _⟩ := h.form
  rw [hil] at h ⊢
  have hcell := hid (fun (k : Nat) (y : Int) (hy : g[k]? = some y) => (show ∃ gA, A = some ⟨gA, 0, none⟩ ∧ ∀ W, Below w.heap.size w W → W.cell? ⟨gA, k, none⟩ = some (.int .i64 y) from by
    obtain ⟨g1, c2, he, _, hg1⟩ := h.blk (fun e => by have h1 := congrArg List.length e; rw [hil] at h1; have h2 := (List.getElem?_eq_some_iff.1 hy).1; rw [List.length_nil] at h1; omega)
    injection he with e1 e2 e3
    subst e1
    exact ⟨g1, rfl, fun W hW => (h.below hW).cellAt k _ (by simp [ints, hy])⟩))
  have hS := hid ((St.start w).newMB m 29)
  have gS := hid gd.S
  have s16 := gd.s16
  obtain ⟨R, hR⟩ : ∃ R, R = g.any (badNum s) := ⟨_, rfl⟩
  rw [← hR]
  replace hR := hid hR
  have e1 : IntKind.i64.wrap (-(s : Int)) = -(s : Int) := IntWalk.i64_in _ (by omega)
  have hdrop := hid (fun (k : Nat) (x : Int) (hx : g[k]? = some x) => (show (g.drop k).any (badNum s) = (badNum s x || (g.drop (k + 1)).any (badNum s)) by
    have hk := (List.getElem?_eq_some_iff.1 hx).1
    rw [List.drop_eq_getElem_cons hk, (List.getElem?_eq_some_iff.1 hx).2, List.any_cons]))
  clear h hil
  replace gd := hid gd
  generalize hn : g.length = n at *
  replace hn := hid hn
  go_enter Try.func154, Try.ntmps154
  go_wp2
  go_loopw [5] (fun i wr => ∃ k : Nat, k ≤ n ∧ i = .int .i64 k ∧ Hid (R = (g.drop k).any (badNum s)) ∧ St w.heap.size w [Asn.mb 29 w.heap.size m] wr) (fun i _ => n - (intOf i).toNat)
  case atStart => exact ⟨0, Nat.zero_le _, rfl, hR, hS.out⟩
  case round =>
    obtain ⟨k, hk, rfl, hA, rS⟩ := hrel
    clear hS hR
    replace rS := hid rS
    by_cases hlt : k < n
    · have dc : decide ((k : Int) < (n : Int)) = true := decide_eq_true (by omega)
      obtain ⟨x, hx⟩ : ∃ x, g[k]? = some x := ⟨_, List.getElem?_eq_getElem (by rw [hn.out]; exact hlt)⟩
      obtain ⟨gA, rfl, hc⟩ := hcell.out k x hx
      have d1 := hc wr rS.out.bel
      have cS := rS.out.m0.cS
      rw [gS.out] at cS
      have k0 : (0 : Int) ≤ (k : Int) := Int.natCast_nonneg _
      have k1 : (k : Int) < (n : Int) := by omega
      have hd := hid (hA.out.trans (hdrop.out k x hx))
      have hin := hid (fun d => l01In_any x (-(s : Int)) s (decide (-(s : Int) ≤ x ∧ x ≤ s)) rfl (wr.drewN d))
      have hbn := hid (show badNum s x = ((x == 0) || !decide (-(s : Int) ≤ x ∧ x ≤ s)) from rfl)
      clear hc hx
      generalize decide (-(s : Int) ≤ x ∧ x ≤ s) = c0 at *
      cases hx0 : x == 0 with
      | true =>
        have hfin := hid (show R = true by rw [hd.out, hbn.out, hx0]; rfl)
        go_upto_region 4 with (fail)
        go_quiet (fail)
        go_wp2
        go_ret
        exact ⟨retB (by rw [hfin.out]; rfl), below_drewN rS.out.bel _⟩
      | false =>
        have hbn2 := hid (show badNum s x = !c0 by rw [hbn.out, hx0]; rfl)
        cases c0 with
        | true =>
          have hA2 := hid (show R = (g.drop (k + 1)).any (badNum s) by rw [hd.out, hbn2.out]; rfl)
          clear hbn hbn2 hd hA
          go_upto_region 4 with (fail)
          go_quiet ((go_at_call 55; exact quiet_same (hin.out _)))
          go_wp2
          go_roundw
          case rel => exact ⟨k + 1, by omega, by go_num, hA2, rS.out.drewN _⟩
          case measure => simp [intOf]; omega
        | false =>
          have hfin := hid (show R = true by rw [hd.out, hbn2.out]; rfl)
          clear hbn hbn2 hd hA
          go_upto_region 4 with (fail)
          go_quiet ((go_at_call 55; exact quiet_same (hin.out _)))
          go_wp2
          go_ret
          exact ⟨retB (by rw [hfin.out]; rfl), below_drewN rS.out.bel _⟩
    · obtain rfl : k = n := by omega
      have dc : decide ((k : Int) < (k : Int)) = false := decide_eq_false (by omega)
      have hfin := hid (show R = false by rw [hA.out, List.drop_eq_nil_of_le (by rw [hn.out]; exact Nat.le_refl _)]; rfl)
      go_wp2
      go_ret
      exact ⟨retB (by rw [hfin.out]; rfl), rS.out.bel⟩
set_option maxHeartbeats 1000000 in
theorem l02Is_any (w : World) (m : Mach) (l s : Nat) (gd : Good m l s) (base : Nat) (v : Value) (g : List Int) (h : Own w base 2 v (ints g)) (hl : g.length < 2000000) (r : Bool) (hr : Tells r (IsGw m g)) :
    Calls Try.prog 131 #[.agg (mcells m), v] w fun e w' => e = .returned (.bool r) ∧ Below w.heap.size w w' := by
  have hil := ints_length g
  have hS := hid ((St.start w).newMB m 29)
  have hnu := hid (fun W (hW : Below w.heap.size w W) => l02Numbers_any W m l s gd base v g (h.below hW) hl)
  have hS2 : m.S.toNat = s := by rw [gd.S]; rfl
  have hgw : IsGw m g ↔ g.length ≤ 40 ∧ ∀ k ∈ g, isNum s k := by unfold IsGw; rw [hS2]; exact ⟨fun h => h.2, fun h => ⟨gd.isM, h⟩⟩
  have hb := badAny_iff s g
  have hr2 := hr.out
  obtain ⟨A, c, rfl, _, _⟩ := h.form
  rw [hil] at *
  clear h hr
  by_cases h40 : g.length ≤ 40
  · have d1 : decide ((40 : Int) < (g.length : Int)) = false := decide_eq_false (by omega)
    have hfin : Hid ((!(g.any (badNum s))) = r) := by
      refine hid ?_
      rw [Bool.eq_iff_iff, hr2, hgw]
      cases hh : g.any (badNum s)
      · rw [hh] at hb
        simp only [Bool.not_false, true_iff]
        exact ⟨h40, Classical.byContradiction fun hn => by have := hb.2 hn; cases this⟩
      · simp only [Bool.not_true, Bool.false_eq_true, false_iff]
        exact fun hn => (hb.1 hh) hn.2
    rw [hfin.out] at hnu
    clear hr2 hgw hb hfin; replace gd := hid gd
    generalize g.length = n at *
    go_enter Try.func131, Try.ntmps131
    go_wp2_with (first
      | ((with_reducible refine gate (N := 8) rfl ?_); refine load_mach rfl _ rfl w.heap.size rfl m hS.out.m0 ?_)
      | (go_at_call 154; (with_reducible refine (hnu.out _ hS.out.bel).mono ?_); rintro e w1 ⟨rfl, hb⟩; replace hS := hid (hS.out.call hb); clear hb))
    go_ret
    exact ⟨rfl, hS.out.bel⟩
  · have d1 : decide ((40 : Int) < (g.length : Int)) = true := decide_eq_true (by omega)
    have hfin : Hid (r = false) := by
      refine hid ?_
      rw [Bool.eq_false_iff, Ne, hr2, hgw]
      exact fun hn => h40 hn.1
    clear hr2 hgw hb; replace gd := hid gd
    generalize g.length = n at *
    go_enter Try.func131, Try.ntmps131
    go_wp2
    go_ret
    exact ⟨retB hfin.out.symm, hS.out.bel⟩
end Go.Proofs.Ytgpjcekpmhfljaa

/- The reference's l02Code, l01Letters, l01Word, l02Both. -/
namespace Go.Proofs.Ytgpjcekpmhfljaa
open Go.RowKit
set_option linter.unusedVariables false
set_option linter.unusedSimpArgs false
-- @LONG

open Classical in
/-- The code of a machine and group words. -/
noncomputable def codG (m : Mach) (M : List (List Int)) : Int := if IsM m ∧ ∀ row ∈ M, IsGw m row then 0 else 1
theorem codG_0 {m : Mach} {M : List (List Int)} (h : IsM m) (hM : ∀ row ∈ M, IsGw m row) : codG m M = 0 := by unfold codG; rw [if_pos ⟨h, hM⟩]
theorem codG_1 {m : Mach} {M : List (List Int)} (h : ¬ (IsM m ∧ ∀ row ∈ M, IsGw m row)) : codG m M = 1 := by unfold codG; rw [if_neg h]
theorem codG_y {m : Mach} {g : List Int} (h : IsGw m g) : codG m [g] = 0 := codG_0 h.1 (by simp; exact h)
theorem codG_n {m : Mach} {g : List Int} (h : ¬ IsGw m g) : codG m [g] = 1 := codG_1 (fun k => h (k.2 g (by simp)))

set_option maxHeartbeats 2000000 in
set_option maxRecDepth 100000 in
theorem l02Code_any (w : World) (m : Mach) (hk : m.Ok) (base : Nat) (v : Value) (M : List (List Int)) (h : Mat w base v M) (hl : M.length < 2000000) (hlr : ∀ row ∈ M, row.length < 2000000) :
    Calls Try.prog 100 #[.agg (mcells m), v] w fun e w' => e = .returned (.int .i64 (codG m M)) ∧ Below w.heap.size w w' := by
  have hS := hid ((St.start w).newMB m 29)
  by_cases hm : IsM m
  · obtain ⟨l, s, gd⟩ := hm.good
    obtain ⟨rows, hO, hrl, hrow⟩ := h
    obtain ⟨A1, c1, rfl, _, _⟩ := hO.form
    rw [hrl] at hO ⊢
    have hcell := hid (fun (k : Nat) (x : List Int) (hx : M[k]? = some x) => (show ∃ g r, A1 = some ⟨g, 0, none⟩ ∧ ∀ W, Below w.heap.size w W → W.cell? ⟨g, k, none⟩ = some r ∧ Own W base 2 r (ints x) from by
      have hk := (List.getElem?_eq_some_iff.1 hx).1
      obtain ⟨g1, c2, he, _, hg1⟩ := hO.blk (fun e => by rw [e] at hrl; rw [← hrl] at hk; simp at hk)
      injection he with e1 e2 e3
      subst e1
      obtain ⟨r, hr⟩ : ∃ r, rows[k]? = some r := ⟨_, List.getElem?_eq_getElem (by rw [hrl]; exact hk)⟩
      exact ⟨g1, r, rfl, fun W hW => ⟨(hO.below hW).cellAt k _ hr, (hrow k r x hr hx).below hW⟩⟩))
    have hi := hid (fun W => l01Is_any W m hk true ⟨fun _ => hm, fun _ => rfl⟩)
    have his := hid (fun W r row (hr : row ∈ M) (hO : Own W base 2 r (ints row)) (c : Bool) (hc : Tells c (IsGw m row)) => l02Is_any W m l s gd base r row hO (hlr row hr) c hc)
    obtain ⟨R, hR⟩ : ∃ R, R = codG m M := ⟨_, rfl⟩
    rw [← hR]
    replace hR := hid hR; replace hm := hid hm; replace gd := hid gd; replace hk := hid hk
    clear hO hrow
    generalize hn : M.length = n at *
    replace hn := hid hn
    go_enter Try.func100, Try.ntmps100
    go_wp2_with (first
      | ((with_reducible refine gate (N := 6) rfl ?_); refine load_mach rfl _ rfl w.heap.size rfl m hS.out.m0 ?_)
      | (go_at_call 92; (with_reducible refine (hi.out _).mono ?_); rintro e w1 ⟨rfl, hb⟩; replace hS := hid (hS.out.call hb); clear hi; clear hb))
    go_loopw [5] (fun i wr => ∃ k : Nat, k ≤ n ∧ i = .int .i64 k ∧ Hid (∀ j row, j < k → M[j]? = some row → IsGw m row) ∧ St w.heap.size w [Asn.mb 29 w.heap.size m] wr) (fun i _ => n - (intOf i).toNat)
    case atStart => exact ⟨0, Nat.zero_le _, rfl, (fun j row hj => absurd hj (by omega)), hS.out⟩
    case round =>
      obtain ⟨k, hk, rfl, hA, rS⟩ := hrel
      clear hS
      replace rS := hid rS
      by_cases hlt : k < n
      · have dc : decide ((k : Int) < (n : Int)) = true := decide_eq_true (by omega)
        obtain ⟨x, hx⟩ : ∃ x, M[k]? = some x := ⟨_, List.getElem?_eq_getElem (by rw [hn.out]; exact hlt)⟩
        obtain ⟨g, r, rfl, hc⟩ := hcell.out k x hx
        have k0 : (0 : Int) ≤ (k : Int) := Int.natCast_nonneg _
        have k1 : (k : Int) < (n : Int) := by omega
        replace hc := hid hc
        go_upto_region 6 with (fail)
        replace rS := hid rS.out.drew
        refine wp_region_heldL (L := [(5, (fun w' : World => MB w' 29 w.heap.size m ∧ w'.cell? ⟨g, k, none⟩ = some r))]) (by kernel_rfl) (HeldL.cons (fun _ => ⟨rS.out.m0, (hc.out _ rS.out.bel).1⟩) HeldL.nil) (fun hHeld => ?_)
        generalize wr.drew = wa at *
        refine wpAnyL_takeP (i := 0) 5 [] (v := (.agg (mcells m))) (fun w' : World => MB w' 29 w.heap.size m ∧ w'.cell? ⟨g, k, none⟩ = some r) rfl (by kernel_rfl) (by kernel_rfl) (by kernel_rfl) (by rfl) (by kernel_rfl) (by simp) (fun _ _ _ h => h) (Or.inl ⟨by rfl, ?_⟩) (by assumption) ?_
        · (intro W hW; exact exec_load _ rfl rfl (load_run hW.1))
        intro hHeld'
        clear hHeld; have hHeld := hHeld'; clear hHeld'
        try simp only [Act.put, List.getElem_toArray, List.getElem_cons_succ, List.getElem_cons_zero, List.setIfInBounds_toArray, List.set_cons_zero, List.set_cons_succ]
        refine wpAnyL_take0 (i := 1) (v := ?_) rfl (by kernel_rfl) (by kernel_rfl) (by kernel_rfl) (by rfl) (fun _ _ _ h => h) (Or.inl ⟨by rfl, ?_⟩) (by assumption) ?_
        rotate_left
        · (intro W _; go_simp; (with_reducible rfl))
        intro hHeld'
        clear hHeld; have hHeld := hHeld'; clear hHeld'
        try simp only [Act.put, List.getElem_toArray, List.getElem_cons_succ, List.getElem_cons_zero, List.setIfInBounds_toArray, List.set_cons_zero, List.set_cons_succ]
        refine wpAnyL_take0 (i := 2) (v := ?_) rfl (by kernel_rfl) (by kernel_rfl) (by kernel_rfl) (by rfl) (fun _ _ _ h => h) (Or.inl ⟨by rfl, ?_⟩) (by assumption) ?_
        rotate_left
        · (intro W _; go_simp; (with_reducible rfl))
        intro hHeld'
        clear hHeld; have hHeld := hHeld'; clear hHeld'
        try simp only [Act.put, List.getElem_toArray, List.getElem_cons_succ, List.getElem_cons_zero, List.setIfInBounds_toArray, List.set_cons_zero, List.set_cons_succ]
        refine wpAnyL_take0 (i := 3) (v := ?_) rfl (by kernel_rfl) (by kernel_rfl) (by kernel_rfl) (by rfl) (fun _ _ _ h => h) (Or.inl ⟨by rfl, ?_⟩) (by assumption) ?_
        rotate_left
        · (intro W _; go_simp; (with_reducible rfl))
        intro hHeld'
        clear hHeld; have hHeld := hHeld'; clear hHeld'
        try simp only [Act.put, List.getElem_toArray, List.getElem_cons_succ, List.getElem_cons_zero, List.setIfInBounds_toArray, List.set_cons_zero, List.set_cons_succ]
        refine wpAnyL_takeP (i := 4) 5 [] (v := ?_) (fun w' : World => MB w' 29 w.heap.size m ∧ w'.cell? ⟨g, k, none⟩ = some r) rfl (by kernel_rfl) (by kernel_rfl) (by kernel_rfl) (by rfl) (by kernel_rfl) (by simp) (fun _ _ _ h => h) (Or.inl ⟨by rfl, ?_⟩) (by assumption) ?_
        rotate_left
        · (intro W hW; (obtain ⟨_, hW⟩ := hW); go_simp; (with_reducible rfl))
        intro hHeld'
        clear hHeld; have hHeld := hHeld'; clear hHeld'
        try simp only [Act.put, List.getElem_toArray, List.getElem_cons_succ, List.getElem_cons_zero, List.setIfInBounds_toArray, List.set_cons_zero, List.set_cons_succ]
        refine wpAnyL_ready (rs := [5]) (by kernel_rfl) (by simp) ?_
        refine AllReadyL.cons rfl (fun K hK => ?_) AllReadyL.nil
        go_simp
        by_cases hgw : IsGw m x
        · have hcl := hid (fun W hO => his.out W r x (List.mem_of_getElem? hx) hO true ⟨fun _ => hgw, fun _ => rfl⟩)
          (with_reducible refine (hcl.out _ (hc.out _ rS.out.bel).2).mono ?_)
          rintro e w2 ⟨rfl, hb⟩
          replace rS := hid (rS.out.call hb)
          clear hb
          have hA2 : Hid (∀ j row, j < k + 1 → M[j]? = some row → IsGw m row) := fun j row hj hr => by
            by_cases e : j = k
            · subst e; rw [hx] at hr; injection hr with hr; subst hr; exact hgw
            · exact hA.out j row (by omega) hr
          clear hx hgw hcl
          go_simp
          refine hK.out _ _ (HeldL.cons (fun h => absurd h (by decide +kernel)) HeldL.nil) (fun hHeld' => ?_)
          clear hK K hHeld; have hHeld := hHeld'; clear hHeld'
          try simp only [Act.put, List.getElem_toArray, List.getElem_cons_succ, List.getElem_cons_zero, List.setIfInBounds_toArray, List.set_cons_zero, List.set_cons_succ]
          refine wpAnyL_take0 (i := 6) (v := ?_) rfl (by kernel_rfl) (by kernel_rfl) (by kernel_rfl) (by rfl) (fun _ _ _ h => h) (Or.inl ⟨by rfl, ?_⟩) (by assumption) ?_
          rotate_left
          · (intro W _; go_simp; (with_reducible rfl))
          intro hHeld'
          clear hHeld; have hHeld := hHeld'; clear hHeld'
          try simp only [Act.put, List.getElem_toArray, List.getElem_cons_succ, List.getElem_cons_zero, List.setIfInBounds_toArray, List.set_cons_zero, List.set_cons_succ]
          refine wpAnyL_done (by kernel_rfl) ?_ _
          go_wp2
          go_roundw
          case rel => exact ⟨k + 1, by omega, by go_num, hA2, rS.out⟩
          case measure => simp [intOf]; omega
        · have hcl := hid (fun W hO => his.out W r x (List.mem_of_getElem? hx) hO false ⟨fun h => (by cases h), fun h => absurd h hgw⟩)
          (with_reducible refine (hcl.out _ (hc.out _ rS.out.bel).2).mono ?_)
          rintro e w2 ⟨rfl, hb⟩
          replace rS := hid (rS.out.call hb)
          clear hb
          have hfin := hid (show R = 1 by rw [hR.out]; exact codG_1 (fun h => hgw (h.2 x (List.mem_of_getElem? hx))))
          clear hx hgw hcl
          go_simp
          refine hK.out _ _ (HeldL.cons (fun h => absurd h (by decide +kernel)) HeldL.nil) (fun hHeld' => ?_)
          clear hK K hHeld; have hHeld := hHeld'; clear hHeld'
          try simp only [Act.put, List.getElem_toArray, List.getElem_cons_succ, List.getElem_cons_zero, List.setIfInBounds_toArray, List.set_cons_zero, List.set_cons_succ]
          refine wpAnyL_take0 (i := 6) (v := ?_) rfl (by kernel_rfl) (by kernel_rfl) (by kernel_rfl) (by rfl) (fun _ _ _ h => h) (Or.inl ⟨by rfl, ?_⟩) (by assumption) ?_
          rotate_left
          · (intro W _; go_simp; (with_reducible rfl))
          intro hHeld'
          clear hHeld; have hHeld := hHeld'; clear hHeld'
          try simp only [Act.put, List.getElem_toArray, List.getElem_cons_succ, List.getElem_cons_zero, List.setIfInBounds_toArray, List.set_cons_zero, List.set_cons_succ]
          refine wpAnyL_done (by kernel_rfl) ?_ _
          go_wp2
          go_ret
          exact ⟨retI (by rw [hfin.out]), rS.out.bel⟩
      · obtain rfl : k = n := by omega
        have dc : decide ((k : Int) < (k : Int)) = false := decide_eq_false (by omega)
        have hfin := hid (show R = 0 by
          rw [hR.out]
          refine codG_0 hm.out fun row hr => ?_
          obtain ⟨j, hj, rfl⟩ := List.getElem_of_mem hr
          exact hA.out j _ (by rw [← hn.out]; exact hj) (List.getElem?_eq_getElem hj))
        go_wp2
        go_ret
        exact ⟨retI (by rw [hfin.out]), rS.out.bel⟩
  · have hi := hid (fun W => l01Is_any W m hk false ⟨fun h => (by cases h), fun h => absurd h hm⟩)
    rw [codG_1 (fun h => hm h.1)]
    replace hk := hid hk; replace h := hid h; clear hm
    go_enter Try.func100, Try.ntmps100
    go_wp2_with (first
      | ((with_reducible refine gate (N := 6) rfl ?_); refine load_mach rfl _ rfl w.heap.size rfl m hS.out.m0 ?_)
      | (go_at_call 92; (with_reducible refine (hi.out _).mono ?_); rintro e w1 ⟨rfl, hb⟩; replace hS := hid (hS.out.call hb); clear hi; clear hb))
    go_ret
    exact ⟨rfl, hS.out.bel⟩

end Go.Proofs.Ytgpjcekpmhfljaa

/- The reference's l02State, l02Step, l02Led, l02Act. -/
namespace Go.Proofs.Ytgpjcekpmhfljaa
open Go.RowKit
set_option linter.unusedVariables false
set_option linter.unusedSimpArgs false
-- @LONG

set_option maxHeartbeats 1000000 in
theorem l02State_any (w : World) (s : Nat) (hs : s ≤ 16) (k : Int) (q : Nat) (hq : q < s) (hk : k = (q : Int) + 1 ∨ k = -((q : Int) + 1)) :
    Calls Try.prog 168 #[.int .i64 k] w fun e w' => e = .returned (.int .i64 (q : Nat)) ∧ w = w' := by
  have e1 : IntKind.i64.wrap (-k) = -k := IntWalk.i64_in _ (by omega)
  have e2 : max k (-k) = (q : Int) + 1 := by omega
  have e3 : (q : Int) + 1 - 1 = (q : Int) := by omega
  have e4 : (if -k < k then k else -k) = (q : Int) + 1 := by split <;> omega
  have e5 : (if k < -k then -k else k) = (q : Int) + 1 := by split <;> omega
  replace hk := hid hk
  go_enter Try.func168, Try.ntmps168
  go_wp2
  go_ret
  exact ⟨rfl, rfl⟩
set_option maxHeartbeats 2000000 in
set_option maxRecDepth 100000 in
theorem l02Step_any (w : World) (m : Mach) (l s : Nat) (gd : Good m l s) (k : Int) (hk : isNum s k) (x : Nat) (hx : x < l) :
    Calls Try.prog 155 #[.agg (mcells m), .agg (mcells (inv m l s)), .int .i64 k, .int .u8 x] w fun e w' => e = .returned (.tuple #[.int .u8 (apO m l s k x : Nat), .int .i64 (apN m l s k x)]) ∧ Below w.heap.size w w' := by
  have hS := hid (((St.start w).newMB m 29).newMB (inv m l s) 29)
  rw [heap_alloc_size] at hS
  have s16 := gd.s16; have l3 := gd.l3
  have gI := inv_good gd
  obtain ⟨q, hq, hqk⟩ := isNum_cases hk
  have hst := hid (fun W => l02State_any W s s16 k q hq hqk)
  have x0 : (0 : Int) ≤ (x : Int) := Int.natCast_nonneg _
  have x1 : (x : Int) < 3 := by omega
  have q0 : (0 : Int) ≤ (q : Int) := Int.natCast_nonneg _
  have q1 : (q : Int) < 16 := by omega
  rcases hqk with hqk | hqk
  · have d1 : decide ((0 : Int) < k) = true := decide_eq_true (by omega)
    have c1 := hS.out.m1.cot q x (by omega) (by omega)
    have c2 := hS.out.m1.cnx q x (by omega) (by omega)
    have hO := hid (show apO m l s k x = m.ot (q * 3 + x) by rw [hqk]; exact apO_pos q x)
    have hN := hid (show apN m l s k x = (m.nx (q * 3 + x) : Int) + 1 by rw [hqk]; exact apN_pos q x)
    rw [hO.out, hN.out]
    have hnl := gd.nx q x hq hx
    have hol := gd.ot q x hq hx
    have e2 : IntKind.i64.wrap ((m.nx (q * 3 + x) : Int) + 1) = (m.nx (q * 3 + x) : Int) + 1 := IntWalk.i64_in _ (by omega)
    generalize m.ot (q * 3 + x) = ot at *
    generalize m.nx (q * 3 + x) = nx at *
    clear gd gI hk hO hN; replace hqk := hid hqk
    go_enter Try.func155, Try.ntmps155
    go_upto_region 3 with (first
      | (go_at_call 168; (with_reducible refine (hst.out _).mono ?_); rintro e w' ⟨rfl, rfl⟩))
    go_quiet (fail)
    go_wp2
    go_ret2
    exact ⟨rfl, below_drewN hS.out.bel _⟩
  · have d1 : decide ((0 : Int) < k) = false := decide_eq_false (by omega)
    have c1 := hS.out.m0.cot q x (by omega) (by omega)
    have c2 := hS.out.m0.cnx q x (by omega) (by omega)
    have hO := hid (show apO m l s k x = (inv m l s).ot (q * 3 + x) by rw [hqk]; exact apO_neg q x)
    have hN := hid (show apN m l s k x = -((inv m l s).nx (q * 3 + x) : Int) - 1 by rw [hqk]; exact apN_neg q x)
    rw [hO.out, hN.out]
    have hnl := gI.nx q x hq hx
    have hol := gI.ot q x hq hx
    have e2 : IntKind.i64.wrap (((inv m l s).nx (q * 3 + x) : Int) + 1) = ((inv m l s).nx (q * 3 + x) : Int) + 1 := IntWalk.i64_in _ (by omega)
    have e3 : IntKind.i64.wrap (-(((inv m l s).nx (q * 3 + x) : Int) + 1)) = -((inv m l s).nx (q * 3 + x) : Int) - 1 := by rw [IntWalk.i64_in _ (by omega)]; omega
    generalize (inv m l s).ot (q * 3 + x) = ot at *
    generalize (inv m l s).nx (q * 3 + x) = nx at *
    clear gd gI hk hO hN; replace hqk := hid hqk
    go_enter Try.func155, Try.ntmps155
    go_upto_region 4 with (first
      | (go_at_call 168; (with_reducible refine (hst.out _).mono ?_); rintro e w' ⟨rfl, rfl⟩))
    go_quiet (fail)
    go_wp2
    go_ret2
    exact ⟨rfl, below_drewN hS.out.bel _⟩
set_option maxHeartbeats 2000000 in
set_option maxRecDepth 100000 in
theorem l02Led_any (w : World) (m : Mach) (l s : Nat) (gd : Good m l s) (base : Nat) (v : Value) (u : List Int) (hu : Own w base 2 v (ints u)) (hn : ∀ k ∈ u, isNum s k) (hul : u.length ≤ 1000) (x : Nat) (hx : x < l) :
    Calls Try.prog 132 #[.agg (mcells m), .agg (mcells (inv m l s)), v, .int .u8 x] w fun e w' => ∃ v', e = .returned (.tuple #[.int .u8 (atX m l s u x : Nat), v']) ∧ Own w' w.heap.size 2 v' (ints (atS m l s u x)) ∧ Below w.heap.size w w' := by
  have hil := ints_length u
  obtain ⟨A, c, rfl, _, _⟩ := hu.form
  rw [hil] at hu ⊢
  have hcell := hid (fun (k : Nat) (y : Int) (hy : u[k]? = some y) => (show ∃ gA, A = some ⟨gA, 0, none⟩ ∧ ∀ W, Below w.heap.size w W → W.cell? ⟨gA, k, none⟩ = some (.int .i64 y) from by
    obtain ⟨g1, c2, he, _, hg1⟩ := hu.blk (fun e => by have h1 := congrArg List.length e; rw [hil] at h1; have h2 := (List.getElem?_eq_some_iff.1 hy).1; rw [List.length_nil] at h1; omega)
    injection he with e1 e2 e3
    subst e1
    exact ⟨g1, rfl, fun W hW => (hu.below hW).cellAt k _ (by simp [ints, hy])⟩))
  have hst := hid (fun W k (hk : isNum s k) y (hy : y < l) => l02Step_any W m l s gd k hk y hy)
  have hS := ((((St.start w).newMB m 29).newMB (inv m l s) 29).newOwn [] 2 (by simp))
  simp only [heap_alloc_size, List.length_nil] at hS
  replace hS := hid hS
  have hsx := hid (fun i y (hy : u[i]? = some y) => (show u.take (i + 1) = u.take i ++ [y] from by rw [List.take_add_one, hy]; rfl))
  have hlt := hid (fun i => atX_lt gd (u.take i) x (fun k hk => hn k (List.mem_of_mem_take hk)) hx)
  have hxs := hid (fun i y => atX_snoc (m := m) (l := l) (s := s) (u.take i) y x)
  have hss := hid (fun i y => atS_snoc (m := m) (l := l) (s := s) (u.take i) y x)
  have hsl := hid (fun i (hi : i ≤ u.length) => (show (ints (atS m l s (u.take i) x)).length = i from by rw [ints_length, atS_length, List.length_take]; omega))
  have h0X := hid (show atX m l s u x = atX m l s (u.take u.length) x by rw [List.take_length])
  have h0S := hid (show atS m l s u x = atS m l s (u.take u.length) x by rw [List.take_length])
  rw [h0X.out, h0S.out]
  have l3 := gd.l3
  replace hn := hid hn
  clear hu hil h0X h0S
  replace gd := hid gd
  generalize hI : inv m l s = I at *
  replace hI := hid hI
  generalize hN : u.length = N at *
  replace hN := hid hN
  go_enter Try.func132, Try.ntmps132
  go_upto_region 2 with (fail)
  generalize ((w.alloc (.cells (mcells m) 29)).alloc (.cells (mcells I) 29)).alloc (.cells #[] 2) = W1 at *
  go_wp2
  go_loopw [3, 10, 11] (fun y o i wr => ∃ j : Nat, j ≤ N ∧ i = .int .i64 j ∧ y = .int .u8 (atX m l s (u.take j) x : Nat) ∧ St w.heap.size w [Asn.own w.heap.size 2 o (ints (atS m l s (u.take j) x)), Asn.mb 29 (w.heap.size + 1) I, Asn.mb 29 w.heap.size m] wr) (fun _ _ i _ => N - (intOf i).toNat)
  case atStart => exact ⟨0, Nat.zero_le _, rfl, rfl, hS.out⟩
  case round =>
    obtain ⟨j, hj, rfl, rfl, rS⟩ := hrel
    clear hS
    replace rS := hid rS
    by_cases hjN : j < N
    · have dc : decide ((j : Int) < (N : Int)) = true := decide_eq_true (by omega)
      obtain ⟨y, hy⟩ : ∃ y, u[j]? = some y := ⟨_, List.getElem?_eq_getElem (by rw [hN.out]; exact hjN)⟩
      obtain ⟨gA, rfl, hc⟩ := hcell.out j y hy
      have j0 : (0 : Int) ≤ (j : Int) := Int.natCast_nonneg _
      have j1 : (j : Int) < (N : Int) := by omega
      have hcl := hid (fun W => hst.out W y (hn.out y (List.mem_of_getElem? hy)) _ (hlt.out j))
      have hX := hid ((congrArg (fun t => atX m l s t x) (hsx.out j y hy)).trans (hxs.out j y))
      have hSS := hid ((congrArg (fun t => atS m l s t x) (hsx.out j y hy)).trans (hss.out j y))
      have hl2 := hid (hsl.out j hj)
      have hlx := hlt.out j
      replace hc := hid hc
      clear hy
      generalize atX m l s (u.take j) x = xj at *
      generalize atS m l s (u.take j) x = sj at *
      generalize apO m l s y xj = xo at *
      generalize apN m l s y xj = xn at *
      go_upto_region 5 with (fail)
      replace rS := hid rS.out.drew
      refine wp_region_heldL (L := [(7, (fun w' : World => MB w' 29 w.heap.size m ∧ MB w' 29 (w.heap.size + 1) I ∧ w'.cell? ⟨gA, j, none⟩ = some (.int .i64 y)))]) (by kernel_rfl) (HeldL.cons (fun _ => ⟨rS.out.m2, rS.out.m1, hc.out _ rS.out.bel⟩) HeldL.nil) (fun hHeld => ?_)
      generalize wr.drew = wa at *
      refine wpAnyL_takeP (i := 0) 7 [] (v := (.agg (mcells m))) (fun w' : World => MB w' 29 w.heap.size m ∧ MB w' 29 (w.heap.size + 1) I ∧ w'.cell? ⟨gA, j, none⟩ = some (.int .i64 y)) rfl (by kernel_rfl) (by kernel_rfl) (by kernel_rfl) (by rfl) (by kernel_rfl) (by simp) (fun _ _ _ h => h) (Or.inl ⟨by rfl, ?_⟩) (by assumption) ?_
      · (intro W hW; exact exec_load _ rfl rfl (load_run hW.1))
      intro hHeld'
      clear hHeld; have hHeld := hHeld'; clear hHeld'
      try simp only [Act.put, List.getElem_toArray, List.getElem_cons_succ, List.getElem_cons_zero, List.setIfInBounds_toArray, List.set_cons_zero, List.set_cons_succ]
      refine wpAnyL_takeP (i := 1) 7 [] (v := (.agg (mcells I))) (fun w' : World => MB w' 29 w.heap.size m ∧ MB w' 29 (w.heap.size + 1) I ∧ w'.cell? ⟨gA, j, none⟩ = some (.int .i64 y)) rfl (by kernel_rfl) (by kernel_rfl) (by kernel_rfl) (by rfl) (by kernel_rfl) (by simp) (fun _ _ _ h => h) (Or.inl ⟨by rfl, ?_⟩) (by assumption) ?_
      · (intro W hW; exact exec_load _ rfl rfl (load_run hW.2.1))
      intro hHeld'
      clear hHeld; have hHeld := hHeld'; clear hHeld'
      try simp only [Act.put, List.getElem_toArray, List.getElem_cons_succ, List.getElem_cons_zero, List.setIfInBounds_toArray, List.set_cons_zero, List.set_cons_succ]
      refine wpAnyL_take0 (i := 2) (v := ?_) rfl (by kernel_rfl) (by kernel_rfl) (by kernel_rfl) (by rfl) (fun _ _ _ h => h) (Or.inl ⟨by rfl, ?_⟩) (by assumption) ?_
      rotate_left
      · (intro W _; go_simp; (with_reducible rfl))
      intro hHeld'
      clear hHeld; have hHeld := hHeld'; clear hHeld'
      try simp only [Act.put, List.getElem_toArray, List.getElem_cons_succ, List.getElem_cons_zero, List.setIfInBounds_toArray, List.set_cons_zero, List.set_cons_succ]
      refine wpAnyL_take0 (i := 3) (v := ?_) rfl (by kernel_rfl) (by kernel_rfl) (by kernel_rfl) (by rfl) (fun _ _ _ h => h) (Or.inl ⟨by rfl, ?_⟩) (by assumption) ?_
      rotate_left
      · (intro W _; go_simp; (with_reducible rfl))
      intro hHeld'
      clear hHeld; have hHeld := hHeld'; clear hHeld'
      try simp only [Act.put, List.getElem_toArray, List.getElem_cons_succ, List.getElem_cons_zero, List.setIfInBounds_toArray, List.set_cons_zero, List.set_cons_succ]
      refine wpAnyL_take0 (i := 4) (v := ?_) rfl (by kernel_rfl) (by kernel_rfl) (by kernel_rfl) (by rfl) (fun _ _ _ h => h) (Or.inl ⟨by rfl, ?_⟩) (by assumption) ?_
      rotate_left
      · (intro W _; go_simp; (with_reducible rfl))
      intro hHeld'
      clear hHeld; have hHeld := hHeld'; clear hHeld'
      try simp only [Act.put, List.getElem_toArray, List.getElem_cons_succ, List.getElem_cons_zero, List.setIfInBounds_toArray, List.set_cons_zero, List.set_cons_succ]
      refine wpAnyL_takeP (i := 5) 7 [] (v := ?_) (fun w' : World => MB w' 29 w.heap.size m ∧ MB w' 29 (w.heap.size + 1) I ∧ w'.cell? ⟨gA, j, none⟩ = some (.int .i64 y)) rfl (by kernel_rfl) (by kernel_rfl) (by kernel_rfl) (by rfl) (by kernel_rfl) (by simp) (fun _ _ _ h => h) (Or.inl ⟨by rfl, ?_⟩) (by assumption) ?_
      rotate_left
      · (intro W hW; (obtain ⟨_, _, hW⟩ := hW); go_simp; (with_reducible rfl))
      intro hHeld'
      clear hHeld; have hHeld := hHeld'; clear hHeld'
      try simp only [Act.put, List.getElem_toArray, List.getElem_cons_succ, List.getElem_cons_zero, List.setIfInBounds_toArray, List.set_cons_zero, List.set_cons_succ]
      refine wpAnyL_take0 (i := 6) (v := ?_) rfl (by kernel_rfl) (by kernel_rfl) (by kernel_rfl) (by rfl) (fun _ _ _ h => h) (Or.inl ⟨by rfl, ?_⟩) (by assumption) ?_
      rotate_left
      · (intro W _; go_simp; (with_reducible rfl))
      intro hHeld'
      clear hHeld; have hHeld := hHeld'; clear hHeld'
      try simp only [Act.put, List.getElem_toArray, List.getElem_cons_succ, List.getElem_cons_zero, List.setIfInBounds_toArray, List.set_cons_zero, List.set_cons_succ]
      refine wpAnyL_ready (rs := [7]) (by kernel_rfl) (by simp) ?_
      refine AllReadyL.cons rfl (fun K hK => ?_) AllReadyL.nil
      go_simp
      (with_reducible refine (hcl.out _).mono ?_)
      rintro e w3 ⟨rfl, hb⟩
      replace rS := hid (rS.out.call hb)
      clear hb
      go_simp
      refine hK.out _ _ (HeldL.cons (fun h => absurd h (by decide +kernel)) HeldL.nil) (fun hHeld' => ?_)
      clear hK K hHeld; have hHeld := hHeld'; clear hHeld'
      try simp only [Act.put, List.getElem_toArray, List.getElem_cons_succ, List.getElem_cons_zero, List.setIfInBounds_toArray, List.set_cons_zero, List.set_cons_succ]
      refine wpAnyL_take0 (i := 8) (v := ?_) rfl (by kernel_rfl) (by kernel_rfl) (by kernel_rfl) (by rfl) (fun _ _ _ h => h) (Or.inl ⟨by rfl, ?_⟩) (by assumption) ?_
      rotate_left
      · (intro W _; go_simp; (with_reducible rfl))
      intro hHeld'
      clear hHeld; have hHeld := hHeld'; clear hHeld'
      try simp only [Act.put, List.getElem_toArray, List.getElem_cons_succ, List.getElem_cons_zero, List.setIfInBounds_toArray, List.set_cons_zero, List.set_cons_succ]
      refine wpAnyL_take0 (i := 9) (v := ?_) rfl (by kernel_rfl) (by kernel_rfl) (by kernel_rfl) (by rfl) (fun _ _ _ h => h) (Or.inl ⟨by rfl, ?_⟩) (by assumption) ?_
      rotate_left
      · (intro W _; go_simp; (with_reducible rfl))
      intro hHeld'
      clear hHeld; have hHeld := hHeld'; clear hHeld'
      try simp only [Act.put, List.getElem_toArray, List.getElem_cons_succ, List.getElem_cons_zero, List.setIfInBounds_toArray, List.set_cons_zero, List.set_cons_succ]
      refine wpAnyL_take0 (i := 10) (v := ?_) rfl (by kernel_rfl) (by kernel_rfl) (by kernel_rfl) (by rfl) (fun _ _ _ h => h) (Or.inl ⟨by rfl, ?_⟩) (by assumption) ?_
      rotate_left
      · (intro W _; go_simp; (with_reducible rfl))
      intro hHeld'
      clear hHeld; have hHeld := hHeld'; clear hHeld'
      try simp only [Act.put, List.getElem_toArray, List.getElem_cons_succ, List.getElem_cons_zero, List.setIfInBounds_toArray, List.set_cons_zero, List.set_cons_succ]
      refine wpAnyL_take0 (i := 11) (v := ?_) rfl (by kernel_rfl) (by kernel_rfl) (by kernel_rfl) (by rfl) (fun _ _ _ h => h) (Or.inl ⟨by rfl, ?_⟩) (by assumption) ?_
      rotate_left
      · (intro W _; go_simp; (with_reducible rfl))
      intro hHeld'
      clear hHeld; have hHeld := hHeld'; clear hHeld'
      try simp only [Act.put, List.getElem_toArray, List.getElem_cons_succ, List.getElem_cons_zero, List.setIfInBounds_toArray, List.set_cons_zero, List.set_cons_succ]
      refine wpAnyL_take0 (i := 12) (v := ?_) rfl (by kernel_rfl) (by kernel_rfl) (by kernel_rfl) (by rfl) (fun _ _ _ h => h) (Or.inl ⟨by rfl, ?_⟩) (by assumption) ?_
      rotate_left
      · (intro W _; go_simp; (with_reducible rfl))
      intro hHeld'
      clear hHeld; have hHeld := hHeld'; clear hHeld'
      try simp only [Act.put, List.getElem_toArray, List.getElem_cons_succ, List.getElem_cons_zero, List.setIfInBounds_toArray, List.set_cons_zero, List.set_cons_succ]
      refine wpAnyL_done (by kernel_rfl) ?_ _
      go_wp2_with (first
        | ((with_reducible refine gate (N := 36) rfl ?_); refine St.app 34 2 (.int .i64 0) 8 Try.underlying34 info_i64 rfl (by omega) rfl _ _ rfl _ _ rfl rS.out _ rfl rfl j hl2.out (by omega) ?_; intro gn cn w4 rS'; replace rS := hid rS'; clear rS'))
      rw [← ints_snoc, ← hSS.out] at rS
      go_roundw
      case rel => exact ⟨j + 1, by omega, by go_num, by rw [hX.out], rS.out⟩
      case measure => simp [intOf]; omega
    · obtain rfl : j = N := by omega
      have dc : decide ((j : Int) < (j : Int)) = false := decide_eq_false (by omega)
      go_wp2
      go_ret2
      exact ⟨_, rfl, rS.out.o0, rS.out.bel⟩
end Go.Proofs.Ytgpjcekpmhfljaa

/- The reference's l01Own, l02Act, ImageOf, SectionOf. -/
namespace Go.Proofs.Ytgpjcekpmhfljaa
open Go.RowKit
set_option linter.unusedVariables false
set_option linter.unusedSimpArgs false
-- @LONG

set_option maxHeartbeats 1000000 in
set_option maxRecDepth 100000 in
theorem l01Own_any (w : World) (base : Nat) (v : Value) (l : List Int) (h : Own w base 2 v (ints l)) (hl : l.length ≤ 1000000) :
    Calls Try.prog 57 #[v] w fun e w' => ∃ v', e = .returned v' ∧ Own w' w.heap.size 2 v' (ints l) ∧ Below w.heap.size w w' := by
  have hil := ints_length l
  have hS := hid ((St.start w).newOwn [] 2 (by simp))
  have h' := hid (h.alloc (.cells #[] 2))
  clear h
  go_enter Try.func57, Try.ntmps57
  go_wp2_with (first
    | ((with_reducible refine gate (N := 5) rfl ?_); refine St.appS 34 2 (.int .i64 0) 8 Try.underlying34 info_i64 rfl (by omega) rfl _ _ rfl _ _ rfl hS.out _ _ _ _ rfl h'.out (ints_one l) (by rw [hil]; simp; omega) ?_; intro v' w2 hS'; replace hS := hid hS'; clear hS'))
  go_ret
  exact ⟨_, rfl, by have h := hS.out.o0; rw [List.nil_append] at h; exact h, hS.out.bel⟩
set_option maxHeartbeats 2000000 in
set_option maxRecDepth 100000 in
theorem l02Act_any (w : World) (m : Mach) (l s : Nat) (gd : Good m l s) (base : Nat) (v : Value) (gw : List Int) (hgw : Own w base 2 v (ints gw)) (hn : ∀ k ∈ gw, isNum s k) (hgl : gw.length ≤ 1000) (u : List Nat) (hu : ∀ x ∈ u, x < l) (hlen : u.length ≤ 1000) :
    Calls Try.prog 101 #[.agg (mcells m), .agg (mcells (inv m l s)), v, .string (wstr u)] w fun e w' => ∃ v', e = .returned (.tuple #[.string (wstr (imgW m l s gw u)), v']) ∧ Own w' w.heap.size 2 v' (ints (secW m l s gw u)) ∧ Below w.heap.size w w' := by
  have hsz := wstr_size u
  have hbyte := hid (fun k hk => wstr_byte u k hk (fun x hx => by have := hu x hx; have := gd.l3; omega))
  have hS := (((St.start w).newMB m 29).newMB (inv m l s) 29).newOwn [] 5 (by simp)
  simp only [heap_alloc_size, List.length_nil] at hS
  replace hS := hid hS
  have hown := hid (fun W (hW : Below w.heap.size w W) => l01Own_any W base v gw (hgw.below hW) (by omega))
  have hle := hid (fun W v (u' : List Int) (h1 : Own W 0 2 v (ints u')) (h2 : ∀ k ∈ u', isNum s k) (h3 : u'.length ≤ 1000) x (hx : x < l) => l02Led_any W m l s gd 0 v u' h1 h2 h3 x hx)
  have hnum := hid (fun k => secW_num gd (u.take k) gw hn (fun x hx => hu x (List.mem_of_mem_take hx)))
  have hsl := hid (fun k => secW_length (m := m) (l := l) (s := s) (u.take k) gw)
  have hil := hid (fun k (hk : k ≤ u.length) => (show (wb (imgW m l s gw (u.take k))).length = k by rw [wb_length, imgW_length, List.length_take]; omega))
  have hse := hid (fun k x => secW_snoc (m := m) (l := l) (s := s) (u.take k) x gw)
  have him := hid (fun k x => imgW_snoc (m := m) (l := l) (s := s) (u.take k) x gw)
  have hlt := hid (fun k x (hx : x < l) => atX_lt gd (secW m l s gw (u.take k)) x (hnum.out k) hx)
  have l3 := gd.l3
  replace hu := hid hu
  replace hn := hid hn
  have h0X := hid (show imgW m l s gw u = imgW m l s gw (u.take u.length) by rw [List.take_length])
  have h0S := hid (show secW m l s gw u = secW m l s gw (u.take u.length) by rw [List.take_length])
  rw [h0X.out, h0S.out]
  clear hgw h0X h0S
  replace gd := hid gd
  generalize hI : inv m l s = I at *
  replace hI := hid hI
  generalize hws : wstr u = ws at *
  replace hws := hid hws
  generalize hN : u.length = N at *
  replace hN := hid hN
  go_enter Try.func101, Try.ntmps101
  go_upto_region 3 with (first
    | (go_at_call 57; (with_reducible refine (hown.out _ hS.out.bel).mono ?_); rintro e w2 ⟨v2, rfl, hO, hb⟩; replace hS := hid (hS.out.callOwn hb hO).f1; clear hb hO hown))
  go_wp2
  go_loopw [2, 10, 11] (fun y o i wr => ∃ j : Nat, j ≤ N ∧ i = .int .i64 j ∧ St w.heap.size w [Asn.own w.heap.size 5 o (wb (imgW m l s gw (u.take j))), Asn.own w.heap.size 2 y (ints (secW m l s gw (u.take j))), Asn.mb 29 (w.heap.size + 1) I, Asn.mb 29 w.heap.size m] wr) (fun _ _ i _ => N - (intOf i).toNat)
  case atStart => exact ⟨0, Nat.zero_le _, rfl, hS.out⟩
  case round =>
    obtain ⟨j, hj, rfl, rS⟩ := hrel
    clear hS
    replace rS := hid rS
    by_cases hjN : j < N
    · have dc : decide ((j : Int) < (N : Int)) = true := decide_eq_true (by omega)
      have hx := hu.out _ (getD_mem u j (by rw [hN.out]; exact hjN))
      have hb := hbyte.out j (by omega)
      have htk := take_snoc' u j (by rw [hN.out]; exact hjN)
      have hsn := hid ((congrArg (fun t => secW m l s gw t) htk).trans (hse.out j (u.getD j 0)))
      have hin := hid ((congrArg (fun t => imgW m l s gw t) htk).trans (him.out j (u.getD j 0)))
      have hlk := hid (hil.out j hj)
      have hcl := hid (fun W v (h1 : Own W 0 2 v (ints (secW m l s gw (u.take j)))) => hle.out W v _ h1 (hnum.out j) (by rw [hsl.out j]; exact hgl) _ hx)
      have hlx := hlt.out j _ hx
      have e2 : ((u.getD j 0 : Nat) : Int) % 256 = (u.getD j 0 : Nat) := by omega
      have e4 : IntKind.u8.wrap ((u.getD j 0 : Nat) : Int) = (u.getD j 0 : Nat) := u8_in _ (by omega)
      clear htk
      generalize imgW m l s gw (u.take j) = im at *
      generalize secW m l s gw (u.take j) = se at *
      generalize u.getD j 0 = x at *
      have e1 : 48 + (x : Int) - 48 = x := by omega
      generalize hy : atX m l s se x = y at *
      replace hy := hid hy
      have e3 : (48 + (y : Int)) % 256 = 48 + y := by omega
      have j0 : (0 : Int) ≤ (j : Int) := Int.natCast_nonneg _
      have j1 : (j : Int) < (N : Int) := by omega
      go_upto_region 6 with (fail)
      replace rS := hid rS.out.drew
      refine wp_region_heldL (L := [(7, (fun w' : World => MB w' 29 w.heap.size m ∧ MB w' 29 (w.heap.size + 1) I))]) (by kernel_rfl) (HeldL.cons (fun _ => ⟨rS.out.m3, rS.out.m2⟩) HeldL.nil) (fun hHeld => ?_)
      generalize wr.drew = wa at *
      refine wpAnyL_takeP (i := 0) 7 [] (v := (.agg (mcells m))) (fun w' : World => MB w' 29 w.heap.size m ∧ MB w' 29 (w.heap.size + 1) I) rfl (by kernel_rfl) (by kernel_rfl) (by kernel_rfl) (by rfl) (by kernel_rfl) (by simp) (fun _ _ _ h => h) (Or.inl ⟨by rfl, ?_⟩) (by assumption) ?_
      · (intro W hW; exact exec_load _ rfl rfl (load_run hW.1))
      intro hHeld'
      clear hHeld; have hHeld := hHeld'; clear hHeld'
      try simp only [Act.put, List.getElem_toArray, List.getElem_cons_succ, List.getElem_cons_zero, List.setIfInBounds_toArray, List.set_cons_zero, List.set_cons_succ]
      refine wpAnyL_takeP (i := 1) 7 [] (v := (.agg (mcells I))) (fun w' : World => MB w' 29 w.heap.size m ∧ MB w' 29 (w.heap.size + 1) I) rfl (by kernel_rfl) (by kernel_rfl) (by kernel_rfl) (by rfl) (by kernel_rfl) (by simp) (fun _ _ _ h => h) (Or.inl ⟨by rfl, ?_⟩) (by assumption) ?_
      · (intro W hW; exact exec_load _ rfl rfl (load_run hW.2))
      intro hHeld'
      clear hHeld; have hHeld := hHeld'; clear hHeld'
      try simp only [Act.put, List.getElem_toArray, List.getElem_cons_succ, List.getElem_cons_zero, List.setIfInBounds_toArray, List.set_cons_zero, List.set_cons_succ]
      refine wpAnyL_take0 (i := 2) (v := ?_) rfl (by kernel_rfl) (by kernel_rfl) (by kernel_rfl) (by rfl) (fun _ _ _ h => h) (Or.inl ⟨by rfl, ?_⟩) (by assumption) ?_
      rotate_left
      · (intro W _; go_simp; (with_reducible rfl))
      intro hHeld'
      clear hHeld; have hHeld := hHeld'; clear hHeld'
      try simp only [Act.put, List.getElem_toArray, List.getElem_cons_succ, List.getElem_cons_zero, List.setIfInBounds_toArray, List.set_cons_zero, List.set_cons_succ]
      refine wpAnyL_take0 (i := 3) (v := ?_) rfl (by kernel_rfl) (by kernel_rfl) (by kernel_rfl) (by rfl) (fun _ _ _ h => h) (Or.inl ⟨by rfl, ?_⟩) (by assumption) ?_
      rotate_left
      · (intro W _; go_simp; (with_reducible rfl))
      intro hHeld'
      clear hHeld; have hHeld := hHeld'; clear hHeld'
      try simp only [Act.put, List.getElem_toArray, List.getElem_cons_succ, List.getElem_cons_zero, List.setIfInBounds_toArray, List.set_cons_zero, List.set_cons_succ]
      refine wpAnyL_take0 (i := 4) (v := ?_) rfl (by kernel_rfl) (by kernel_rfl) (by kernel_rfl) (by rfl) (fun _ _ _ h => h) (Or.inl ⟨by rfl, ?_⟩) (by assumption) ?_
      rotate_left
      · (intro W _; go_simp; (with_reducible rfl))
      intro hHeld'
      clear hHeld; have hHeld := hHeld'; clear hHeld'
      try simp only [Act.put, List.getElem_toArray, List.getElem_cons_succ, List.getElem_cons_zero, List.setIfInBounds_toArray, List.set_cons_zero, List.set_cons_succ]
      refine wpAnyL_take0 (i := 5) (v := ?_) rfl (by kernel_rfl) (by kernel_rfl) (by kernel_rfl) (by rfl) (fun _ _ _ h => h) (Or.inl ⟨by rfl, ?_⟩) (by assumption) ?_
      rotate_left
      · (intro W _; go_simp; (with_reducible rfl))
      intro hHeld'
      clear hHeld; have hHeld := hHeld'; clear hHeld'
      try simp only [Act.put, List.getElem_toArray, List.getElem_cons_succ, List.getElem_cons_zero, List.setIfInBounds_toArray, List.set_cons_zero, List.set_cons_succ]
      refine wpAnyL_take0 (i := 6) (v := ?_) rfl (by kernel_rfl) (by kernel_rfl) (by kernel_rfl) (by rfl) (fun _ _ _ h => h) (Or.inl ⟨by rfl, ?_⟩) (by assumption) ?_
      rotate_left
      · (intro W _; go_simp; (with_reducible rfl))
      intro hHeld'
      clear hHeld; have hHeld := hHeld'; clear hHeld'
      try simp only [Act.put, List.getElem_toArray, List.getElem_cons_succ, List.getElem_cons_zero, List.setIfInBounds_toArray, List.set_cons_zero, List.set_cons_succ]
      refine wpAnyL_ready (rs := [7]) (by kernel_rfl) (by simp) ?_
      refine AllReadyL.cons rfl (fun K hK => ?_) AllReadyL.nil
      go_simp
      (with_reducible refine (hcl.out _ _ (rS.out.o1.mono (Nat.zero_le _))).mono ?_)
      rintro e w3 ⟨v', rfl, hO, hb2⟩
      replace rS := hid (rS.out.callOwn hb2 hO)
      clear hb2 hO
      go_simp
      refine hK.out _ _ (HeldL.cons (fun h => absurd h (by decide +kernel)) HeldL.nil) (fun hHeld' => ?_)
      clear hK K hHeld; have hHeld := hHeld'; clear hHeld'
      try simp only [Act.put, List.getElem_toArray, List.getElem_cons_succ, List.getElem_cons_zero, List.setIfInBounds_toArray, List.set_cons_zero, List.set_cons_succ]
      refine wpAnyL_take0 (i := 8) (v := ?_) rfl (by kernel_rfl) (by kernel_rfl) (by kernel_rfl) (by rfl) (fun _ _ _ h => h) (Or.inl ⟨by rfl, ?_⟩) (by assumption) ?_
      rotate_left
      · (intro W _; go_simp; (with_reducible rfl))
      intro hHeld'
      clear hHeld; have hHeld := hHeld'; clear hHeld'
      try simp only [Act.put, List.getElem_toArray, List.getElem_cons_succ, List.getElem_cons_zero, List.setIfInBounds_toArray, List.set_cons_zero, List.set_cons_succ]
      refine wpAnyL_take0 (i := 9) (v := ?_) rfl (by kernel_rfl) (by kernel_rfl) (by kernel_rfl) (by rfl) (fun _ _ _ h => h) (Or.inl ⟨by rfl, ?_⟩) (by assumption) ?_
      rotate_left
      · (intro W _; go_simp; (with_reducible rfl))
      intro hHeld'
      clear hHeld; have hHeld := hHeld'; clear hHeld'
      try simp only [Act.put, List.getElem_toArray, List.getElem_cons_succ, List.getElem_cons_zero, List.setIfInBounds_toArray, List.set_cons_zero, List.set_cons_succ]
      refine wpAnyL_take0 (i := 10) (v := ?_) rfl (by kernel_rfl) (by kernel_rfl) (by kernel_rfl) (by rfl) (fun _ _ _ h => h) (Or.inl ⟨by rfl, ?_⟩) (by assumption) ?_
      rotate_left
      · (intro W _; go_simp; (with_reducible rfl))
      intro hHeld'
      clear hHeld; have hHeld := hHeld'; clear hHeld'
      try simp only [Act.put, List.getElem_toArray, List.getElem_cons_succ, List.getElem_cons_zero, List.setIfInBounds_toArray, List.set_cons_zero, List.set_cons_succ]
      refine wpAnyL_take0 (i := 11) (v := ?_) rfl (by kernel_rfl) (by kernel_rfl) (by kernel_rfl) (by rfl) (fun _ _ _ h => h) (Or.inl ⟨by rfl, ?_⟩) (by assumption) ?_
      rotate_left
      · (intro W _; go_simp; (with_reducible rfl))
      intro hHeld'
      clear hHeld; have hHeld := hHeld'; clear hHeld'
      try simp only [Act.put, List.getElem_toArray, List.getElem_cons_succ, List.getElem_cons_zero, List.setIfInBounds_toArray, List.set_cons_zero, List.set_cons_succ]
      refine wpAnyL_take0 (i := 12) (v := ?_) rfl (by kernel_rfl) (by kernel_rfl) (by kernel_rfl) (by rfl) (fun _ _ _ h => h) (Or.inl ⟨by rfl, ?_⟩) (by assumption) ?_
      rotate_left
      · (intro W _; go_simp; (with_reducible rfl))
      intro hHeld'
      clear hHeld; have hHeld := hHeld'; clear hHeld'
      try simp only [Act.put, List.getElem_toArray, List.getElem_cons_succ, List.getElem_cons_zero, List.setIfInBounds_toArray, List.set_cons_zero, List.set_cons_succ]
      refine wpAnyL_done (by kernel_rfl) ?_ _
      replace rS := hid rS.out.f1
      go_wp2_with (first
        | ((with_reducible refine gate (N := 38) rfl ?_); refine St.app 94 5 (.int .u8 0) 1 Try.underlying94 info_u8 rfl (by omega) rfl _ _ rfl _ _ rfl rS.out _ rfl rfl j hlk.out (by omega) ?_; intro gn cn w4 rS'; replace rS := hid rS'; clear rS'))
      rw [← wb_snoc, ← hin.out] at rS
      replace rS := hid rS.out.f2.drop
      go_roundw
      case rel => exact ⟨j + 1, by omega, by go_num, by rw [hsn.out]; exact rS.out⟩
      case measure => simp [intOf]; omega
    · obtain rfl : j = N := by omega
      have dc : decide ((j : Int) < (j : Int)) = false := decide_eq_false (by omega)
      have hconv := rS.out.o0.conv
      go_wp2
      go_ret2
      exact ⟨_, rfl, rS.out.o1, rS.out.bel⟩
end Go.Proofs.Ytgpjcekpmhfljaa
