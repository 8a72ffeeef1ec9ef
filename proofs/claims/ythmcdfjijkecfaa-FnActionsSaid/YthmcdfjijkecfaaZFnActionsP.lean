/- What the proof of FnActions leans on, part 16 of 23. -/
import Derived.Test.YthmcdfjijkecfaaZFnActionsO
import Derived.WalkSpells
/- append(dst, src...): a slice behind another one. -/
namespace Go.Proofs.Ythmcdfjijkecfaa
open Go.RowKit
set_option linter.unusedVariables false
set_option linter.unusedSimpArgs false
-- @LONG

theorem run_append_empty {P : Program} (W : World) (t ty e : TypeId) (i : TypeInfo) (ht : P.underlying t = some (.slice e)) (hi : P.info? e = some i) (base : Nat) (v : Value) (cs : List Value) (h : Own W base e v cs) :
    (Builtin.append_ #[t, t] ty #[v, .slice none 0 0]).run P W = .ok v W := by
  obtain ⟨A, c, rfl, hc, hA⟩ := h.form
  rcases hA with ⟨rfl, rfl, rfl⟩ | ⟨g, rfl, _⟩
  · simp [Builtin.append_, run_underlying ht, sizeOf, typeInfo, hi, Builtin.lenOf, Builtin.firstCells, loadCells, loadCellsFrom]
  · simp [Builtin.append_, run_underlying ht, sizeOf, typeInfo, hi, Builtin.lenOf, Builtin.firstCells, hc, storeCells]
theorem run_append_sl {P : Program} (W : World) (t ty e : TypeId) (z : Value) (bytes : Nat) (ht : P.underlying t = some (.slice e)) (hinfo : (P.info? e).map (fun i => (i.zero, i.size, i.bytes)) = some (some z, 1, bytes)) (hz : z.cells.size = 1) (hb : bytes ≤ 64)
    (base : Nat) (v : Value) (cs : List Value) (h : Own W base e v cs) (hbase : base ≤ W.heap.size) (b2 e2 : Nat) (v2 : Value) (cs2 : List Value) (h2 : Own W b2 e2 v2 cs2) (h1 : ∀ u ∈ cs2, u.oneCell' = true) (hlen : cs.length + cs2.length ≤ 1000000000) :
    ∃ v' w', (Builtin.append_ #[t, t] ty #[v, v2]).run P W = .ok v' w' ∧ Own w' base e v' (cs ++ cs2) ∧ Below base W w' ∧ (∀ k, k < W.heap.size → v.ownBlock ≠ some k → w'.heap[k]? = W.heap[k]?) ∧ (v'.ownBlock = v.ownBlock ∨ v'.ownBlock = some W.heap.size) := by
  obtain ⟨i, hi, hz0, hz1, hz2⟩ := info_parts hinfo
  obtain ⟨A, c, rfl, hc, hA⟩ := h2.form
  rcases hA with ⟨rfl, rfl, rfl⟩ | ⟨g, rfl, _, _, hcell⟩
  · refine ⟨v, W, run_append_empty W t ty e i ht hi base v cs h, by rw [List.append_nil]; exact h, Below.refl _ _, fun _ _ _ => rfl, .inl rfl⟩
  · obtain ⟨v', w', hr, h3, h4, _, h5⟩ := run_append_own_at (P := P) W base t ty e i z 1 bytes ht hi hz0 hz1 hz2 hz (by omega) v cs.length cs h ⟨g, 0, none⟩ cs2.length c cs2 (by omega) (fun j u hu => by rw [Addr.add_mid, Nat.zero_add]; exact hcell j u hu) h1
      (by simp only [maxLen]; omega) (Nat.le_trans (Nat.mul_le_mul_left _ hb) (by omega)) hbase
    have hold : ∀ k, k < W.heap.size → v.ownBlock ≠ some k → w'.heap[k]? = W.heap[k]? := fun k hk hne => h4.block k hk (fun e => hne e.symm)
    refine ⟨v', w', hr, ?_, ⟨h4.os, h4.tape, h4.output, h4.size, fun k hk => hold k (by omega) (fun e => by have := (h.lt k e).1; omega)⟩, hold, h5⟩
    unfold Own
    rw [List.length_append]; exact h3
section
variable {ops : Array Oper} {rest : List Oper} {o : Oper} {act : Act} {W w0 : World} {Q : Exit → Act → World → Prop} {L : List Asn} {base : Nat}
theorem St.appdV {t : Nat} {v v' : Value} {cs cs' : List Value} {w w' : World} (h : St base w0 (Asn.own base t v cs :: L) w) (hO : Own w' base t v' cs') (hb : Below base w w') (hold : ∀ k, k < w.heap.size → v.ownBlock ≠ some k → w'.heap[k]? = w.heap[k]?)
    (hg : v'.ownBlock = v.ownBlock ∨ v'.ownBlock = some w.heap.size) : St base w0 (Asn.own base t v' cs' :: L) w' :=
  h.turn (a' := Asn.own base t v' cs') hO (fun k hk => by
    have hk' : v'.ownBlock = some k := hk
    rcases hg with hg | hg
    · exact .inl (hg.symm.trans hk')
    · rw [hg] at hk'; injection hk' with e; exact .inr (by omega)) (fun k hk => ((show Own w base t v cs from h.star.1).lt k hk).1) hb fun k hk hne => hold k hk hne
theorem St.appS (t e : TypeId) (z : Value) (bytes : Nat)
    (ht : Try.prog.underlying t = some (.slice e)) (hinfo : (Try.prog.info? e).map (fun i => (i.zero, i.size, i.bytes)) = some (some z, 1, bytes)) (hz : z.cells.size = 1) (hb : bytes ≤ 64)
    (hgd : o.guard = none) (s x : Operand) (ho : o.op = .call { callee := .builtin .append, args := #[s, x], argTypes := #[t, t] })
    (v : Value) (cs : List Value) (hs : act.eval s = v) (hS : St base w0 (Asn.own base e v cs :: L) W) (b2 e2 : Nat) (v2 : Value) (cs2 : List Value) (hx : act.eval x = v2) (h2 : Own W b2 e2 v2 cs2) (h1 : ∀ u ∈ cs2, u.oneCell' = true) (hlen : cs.length + cs2.length ≤ 1000000000)
    (h : ∀ v' w', St base w0 (Asn.own base e v' (cs ++ cs2) :: L) w' → wpList Try.prog ops Q rest (act.put o.dst v') w') : wpList Try.prog ops Q (o :: rest) act W := by
  obtain ⟨v', w', hr, h3, h4, h5, h6⟩ := run_append_sl (P := Try.prog) W t o.type e z bytes ht hinfo hz hb base v cs hS.star.1 hS.le b2 e2 v2 cs2 h2 h1 hlen
  refine wpList_plain hgd fun K hK => ?_
  unfold Oper.wp execOp
  simp only [ho, resolve, invoke, builtin, Sem.run_bind, Sem.run_pure, Result.andThen_ok, List.map_toArray, List.map_cons, List.map_nil, hs, hx, hr]
  exact hK _ _ (h v' w' (hS.appdV h3 h4 h5 h6))
end
theorem ints_one (l : List Int) : ∀ u ∈ ints l, u.oneCell' = true := fun u hu => by
  obtain ⟨x, _, rfl⟩ := List.mem_map.1 hu
  rfl

set_option maxHeartbeats 1000000 in
set_option maxRecDepth 100000 in
theorem clone_any (w : World) (base : Nat) (v : Value) (l : List Int) (h : Own w base 2 v (ints l)) (hl : l.length ≤ 1000000) :
    Calls Try.prog 178 #[v] w fun e w' => ∃ v', e = .returned v' ∧ Own w' w.heap.size 2 v' (ints l) ∧ Below w.heap.size w w' := by
  have hil := ints_length l
  have hnil := fun (W : World) (a : Option Addr) (n c : Nat) => Lib.run_eql_slice_nil (P := Try.prog) W 29 2 a n c 0 0 Try.underlying29
  obtain ⟨A, c, rfl, _, hA⟩ := h.form
  rw [hil] at h ⊢
  rcases hA with ⟨rfl, h0, rfl⟩ | ⟨g, rfl, _⟩
  · have hl0 : l = [] := by rw [← List.length_eq_zero_iff, ← hil, h0]; rfl
    subst hl0
    clear h
    go_enter Try.func178, Try.ntmps178
    go_wp2
    go_ret
    exact ⟨_, rfl, Own.nil _ _ _, Below.refl _ _⟩
  · have hS := hid ((St.start w).newOwn [] 2 (by simp))
    have h' := hid (h.alloc (.cells #[] 2))
    clear h
    go_enter Try.func178, Try.ntmps178
    go_wp2_with (first
      | ((with_reducible refine gate (N := 7) rfl ?_); refine St.appS 29 2 (.int .i64 0) 8 Try.underlying29 info_i64 rfl (by omega) rfl _ _ rfl _ _ rfl hS.out _ _ _ _ rfl h'.out (ints_one l) (by rw [hil]; simp; omega) ?_; intro v' w2 hS'; replace hS := hid hS'; clear hS'))
    go_ret
    exact ⟨_, rfl, by have h := hS.out.o0; rw [List.nil_append] at h; exact h, hS.out.bel⟩
end Go.Proofs.Ythmcdfjijkecfaa

/- ImageOf, SectionOf, PeriodOfWord: the program's side. -/
namespace Go.Proofs.Ythmcdfjijkecfaa
open Go.RowKit
set_option linter.unusedVariables false
set_option linter.unusedSimpArgs false
-- @LONG

/-- The letters of a text. -/
def lets (ws : ByteArray) : List Nat := ws.data.toList.map fun b => b.toNat - 48
theorem lets_wstr {l : Nat} (ws : ByteArray) (h : IsWd l ws) : ws = wstr (lets ws) ∧ (∀ x ∈ lets ws, x < l) ∧ (lets ws).length ≤ 40 := by
  have e : ws = wstr (lets ws) := wstr_of_bytes ws fun k hk => (h.2 k hk).1
  refine ⟨e, fun x hx => ?_, by unfold lets; rw [List.length_map, Array.length_toList]; exact h.1⟩
  obtain ⟨b, hb, rfl⟩ := List.mem_map.1 hx
  obtain ⟨k, hk, rfl⟩ := List.getElem_of_mem hb
  have hk' : k < ws.size := by simpa using hk
  have h2 := (h.2 k hk').2
  have h1 := (h.2 k hk').1
  have e2 : (ws[k]'hk').toNat = (ws.data.toList[k]).toNat := by simp [ByteArray.getElem_eq_getElem_data]
  omega
theorem IsGw.parts {m : Mach} {l s : Nat} {g : List Int} (gd : Good m l s) (h : IsGw m g) : g.length ≤ 40 ∧ ∀ k ∈ g, isNum s k := by
  have e : m.S.toNat = s := by rw [gd.S]; rfl
  have := h.2
  rw [e] at this; exact this
theorem mat_one {w : World} {b : Nat} {v r : Value} {l : List Int} (hO : Own w b 29 v [r]) (hr : Own w b 2 r (ints l)) : Mat w b v [l] :=
  ⟨[r], hO, rfl, fun i r' l' h1 h2 => by
    cases i with
    | zero => simp at h1 h2; subst h1; subst h2; exact hr
    | succ i => simp at h1⟩
/-- What is asked of a group word and a word: 0, or no group word, or no word. -/
theorem gw_cases (m : Mach) (g : List Int) (ws : ByteArray) : (¬ IsM m ∨ ¬ IsGw m g) ∨ (∃ l s, Good m l s ∧ IsGw m g ∧ ¬ IsWd l ws) ∨ ∃ l s, Good m l s ∧ IsGw m g ∧ IsWd l ws := by
  by_cases h : IsGw m g
  · obtain ⟨l, s, gd⟩ := h.1.good
    by_cases hw : IsWd l ws
    · exact .inr (.inr ⟨l, s, gd, h, hw⟩)
    · exact .inr (.inl ⟨l, s, gd, h, hw⟩)
  · exact .inl (.inr h)
open Classical in
noncomputable def imgAns (m : Mach) (g : List Int) (ws : ByteArray) : ByteArray × Int := if IsGw m g ∧ IsWd m.L ws then (wstr (imgW m m.L.toNat m.S.toNat g (lets ws)), 0) else ({ data := #[] }, 1)
open Classical in
noncomputable def secAns (m : Mach) (g : List Int) (ws : ByteArray) : List Int × Int := if IsGw m g ∧ IsWd m.L ws then (secW m m.L.toNat m.S.toNat g (lets ws), 0) else ([], 1)
section
variable {m : Mach} {l s : Nat} {g : List Int} {ws : ByteArray}
theorem imgAns_1 (h : ¬ IsGw m g) : imgAns m g ws = ({ data := #[] }, 1) := by unfold imgAns; rw [if_neg (fun k => h k.1)]
theorem imgAns_w (gd : Good m l s) (h : ¬ IsWd l ws) : imgAns m g ws = ({ data := #[] }, 1) := by unfold imgAns; rw [gd.L, if_neg (fun k => h k.2)]
theorem imgAns_0 (gd : Good m l s) (h : IsGw m g) (hw : IsWd l ws) : imgAns m g ws = (wstr (imgW m l s g (lets ws)), 0) := by unfold imgAns; rw [gd.L, gd.S, if_pos ⟨h, hw⟩]; rfl
theorem secAns_1 (h : ¬ IsGw m g) : secAns m g ws = ([], 1) := by unfold secAns; rw [if_neg (fun k => h k.1)]
theorem secAns_w (gd : Good m l s) (h : ¬ IsWd l ws) : secAns m g ws = ([], 1) := by unfold secAns; rw [gd.L, if_neg (fun k => h k.2)]
theorem secAns_0 (gd : Good m l s) (h : IsGw m g) (hw : IsWd l ws) : secAns m g ws = (secW m l s g (lets ws), 0) := by unfold secAns; rw [gd.L, gd.S, if_pos ⟨h, hw⟩]; rfl
end

set_option maxHeartbeats 2000000 in
set_option maxRecDepth 4000 in
theorem implImg_any (w : World) (m : Mach) (hkm : m.Ok) (b0 : Nat) (v : Value) (g : List Int) (hg : Own w b0 2 v (ints g)) (hl : g.length < 2000000) (ws : ByteArray) (hws : ws.size < 1000000000000) :
    Calls Try.prog 63 #[.agg (mcells m), v, .string ws] w fun e w' => e = .returned (.tuple #[.string (imgAns m g ws).1, .int .i64 (imgAns m g ws).2]) ∧ Below w.heap.size w w' := by
  obtain ⟨A0, cp0, rfl, _, _⟩ := hg.form
  rw [ints_length] at hg ⊢
  by_cases hbad : ¬ IsGw m g
  · rw [imgAns_1 hbad]
    have hS := hid ((St.arg w hg).newMB m 27)
    have hown := hid (hS.out.newOwn [(Value.slice A0 g.length cp0)] 29 (by simp))
    simp only [heap_alloc_size, List.length_cons, List.length_nil, Nat.zero_add] at hown
    have hgo := hid (fun W b vv (hO : Own W b 29 vv [(Value.slice A0 g.length cp0)]) (hr : Own W b 2 (Value.slice A0 g.length cp0) (ints g)) => groupOf_n W m hkm b vv [g] (mat_one hO hr) (by simp) (by simp; omega) (.inr ⟨g, by simp, hbad⟩))
    replace hkm := hid hkm; replace hg := hid hg; replace hbad := hid hbad
    go_enter Try.func63, Try.ntmps63
    go_wp2_with (first
      | ((with_reducible refine gate (N := 13) rfl ?_); refine load_mach rfl _ rfl w.heap.size rfl m hS.out.m0 ?_)
      | (go_at_call 167; (with_reducible refine (hgo.out _ _ _ (hown.out.o0.mono (Nat.zero_le _)) hown.out.o2).mono ?_); rintro e w1 ⟨rfl, hb⟩; replace hS := hid (hown.out.call hb); clear hgo hown; clear hb))
    go_ret2
    exact ⟨rfl, hS.out.bel⟩
  · have hgw := Classical.not_not.1 hbad
    obtain ⟨l, s, gd⟩ := hgw.1.good
    obtain ⟨hgl, hgn⟩ := hgw.parts gd
    have hS := hid ((St.arg w hg).newMB m 27)
    have hown := hid (hS.out.newOwn [(Value.slice A0 g.length cp0)] 29 (by simp))
    simp only [heap_alloc_size, List.length_cons, List.length_nil, Nat.zero_add] at hown
    have hgo := hid (fun W b vv (hO : Own W b 29 vv [(Value.slice A0 g.length cp0)]) (hr : Own W b 2 (Value.slice A0 g.length cp0) (ints g)) => groupOf_y W m hkm b vv [g] (mat_one hO hr) (by simp) (by simp; omega) l s gd (by simp; exact hgw))
    have hL := hid gd.L
    by_cases hw : IsWd l ws
    · rw [imgAns_0 gd hgw hw]
      obtain ⟨hwe, hwl, hw40⟩ := lets_wstr ws hw
      have hwd := hid (fun W => isWord_any (l : Int) (by have := gd.l2; omega) (by have := gd.l3; omega) ws hws true ⟨fun _ => hw, fun _ => rfl⟩ W)
      have him := hid (fun W G v1 v2 (hG : GM W G m l s v1 v2) (hO : Own W 0 2 (Value.slice A0 g.length cp0) (ints g)) => (by have h := image_any W G m l s gd v1 v2 hG 0 (Value.slice A0 g.length cp0) g hO hgn (by omega) (lets ws) hwl (by omega); rw [← hwe] at h; exact h : Calls Try.prog 174 #[.pointer (some ⟨G, 0, none⟩), (Value.slice A0 g.length cp0), .string ws] W fun e w' => ∃ v', e = .returned (.tuple #[.string (wstr (imgW m l s g (lets ws))), v']) ∧ Own w' 0 2 v' (ints (secW m l s g (lets ws))) ∧ Below W.heap.size W w'))
      replace hkm := hid hkm; replace hg := hid hg; replace hgw := hid hgw; replace gd := hid gd; replace hwe := hid hwe
      clear hbad
      generalize wstr (imgW m l s g (lets ws)) = ans at *
      go_enter Try.func63, Try.ntmps63
      go_wp2_with (first
        | ((with_reducible refine gate (N := 13) rfl ?_); refine load_mach rfl _ rfl w.heap.size rfl m hS.out.m0 ?_)
        | (go_at_call 167; (with_reducible refine (hgo.out _ _ _ (hown.out.o0.mono (Nat.zero_le _)) hown.out.o2).mono ?_); rintro e w1 ⟨G, v1, v2, rfl, hle, hGB, hb⟩; have hGM := hid hGB.gm; replace hS := hid (hown.out.call hb); have cL := hS.out.m1.cL; rw [hL.out] at cL; clear hgo hb hGB hle hown)
        | (go_at_call 130; (with_reducible refine (hwd.out _).mono ?_); rintro e w' ⟨rfl, rfl⟩)
        | (go_at_call 174; (with_reducible refine (him.out _ _ _ _ hGM.out hS.out.o2).mono ?_); rintro e w2 ⟨v', rfl, hO, hb⟩; replace hS := hid (hS.out.call hb); clear hb hO))
      go_ret2
      exact ⟨rfl, hS.out.bel⟩
    · rw [imgAns_w gd hw]
      have hwd := hid (fun W => isWord_any (l : Int) (by have := gd.l2; omega) (by have := gd.l3; omega) ws hws false ⟨fun h => (by cases h), fun h => absurd h hw⟩ W)
      replace hkm := hid hkm; replace hg := hid hg; replace hgw := hid hgw; replace gd := hid gd
      clear hbad
      go_enter Try.func63, Try.ntmps63
      go_wp2_with (first
        | ((with_reducible refine gate (N := 13) rfl ?_); refine load_mach rfl _ rfl w.heap.size rfl m hS.out.m0 ?_)
        | (go_at_call 167; (with_reducible refine (hgo.out _ _ _ (hown.out.o0.mono (Nat.zero_le _)) hown.out.o2).mono ?_); rintro e w1 ⟨G, v1, v2, rfl, hle, hGB, hb⟩; replace hS := hid (hown.out.call hb); have cL := hS.out.m1.cL; rw [hL.out] at cL; clear hgo hb hGB hle)
        | (go_at_call 130; (with_reducible refine (hwd.out _).mono ?_); rintro e w' ⟨rfl, rfl⟩))
      go_ret2
      exact ⟨rfl, hS.out.bel⟩
set_option maxHeartbeats 2000000 in
set_option maxRecDepth 4000 in
theorem implSec_any (w : World) (m : Mach) (hkm : m.Ok) (b0 : Nat) (v : Value) (g : List Int) (hg : Own w b0 2 v (ints g)) (hl : g.length < 2000000) (ws : ByteArray) (hws : ws.size < 1000000000000) :
    Calls Try.prog 65 #[.agg (mcells m), v, .string ws] w fun e w' => ∃ v', e = .returned (.tuple #[v', .int .i64 (secAns m g ws).2]) ∧ Own w' w.heap.size 2 v' (ints (secAns m g ws).1) ∧ Below w.heap.size w w' := by
  obtain ⟨A0, cp0, rfl, _, _⟩ := hg.form
  rw [ints_length] at hg ⊢
  by_cases hbad : ¬ IsGw m g
  · rw [secAns_1 hbad]
    have hS := hid ((St.arg w hg).newMB m 27)
    have hown := hid (hS.out.newOwn [(Value.slice A0 g.length cp0)] 29 (by simp))
    simp only [heap_alloc_size, List.length_cons, List.length_nil, Nat.zero_add] at hown
    have hgo := hid (fun W b vv (hO : Own W b 29 vv [(Value.slice A0 g.length cp0)]) (hr : Own W b 2 (Value.slice A0 g.length cp0) (ints g)) => groupOf_n W m hkm b vv [g] (mat_one hO hr) (by simp) (by simp; omega) (.inr ⟨g, by simp, hbad⟩))
    replace hkm := hid hkm; replace hg := hid hg; replace hbad := hid hbad
    go_enter Try.func65, Try.ntmps65
    go_wp2_with (first
      | ((with_reducible refine gate (N := 13) rfl ?_); refine load_mach rfl _ rfl w.heap.size rfl m hS.out.m0 ?_)
      | (go_at_call 167; (with_reducible refine (hgo.out _ _ _ (hown.out.o0.mono (Nat.zero_le _)) hown.out.o2).mono ?_); rintro e w1 ⟨rfl, hb⟩; replace hS := hid (hown.out.call hb); clear hgo hown; clear hb))
    go_ret2
    exact ⟨_, rfl, Own.nil _ _ _, hS.out.bel⟩
  · have hgw := Classical.not_not.1 hbad
    obtain ⟨l, s, gd⟩ := hgw.1.good
    obtain ⟨hgl, hgn⟩ := hgw.parts gd
    have hS := hid ((St.arg w hg).newMB m 27)
    have hown := hid (hS.out.newOwn [(Value.slice A0 g.length cp0)] 29 (by simp))
    simp only [heap_alloc_size, List.length_cons, List.length_nil, Nat.zero_add] at hown
    have hgo := hid (fun W b vv (hO : Own W b 29 vv [(Value.slice A0 g.length cp0)]) (hr : Own W b 2 (Value.slice A0 g.length cp0) (ints g)) => groupOf_y W m hkm b vv [g] (mat_one hO hr) (by simp) (by simp; omega) l s gd (by simp; exact hgw))
    have hL := hid gd.L
    by_cases hw : IsWd l ws
    · rw [secAns_0 gd hgw hw]
      obtain ⟨hwe, hwl, hw40⟩ := lets_wstr ws hw
      have hwd := hid (fun W => isWord_any (l : Int) (by have := gd.l2; omega) (by have := gd.l3; omega) ws hws true ⟨fun _ => hw, fun _ => rfl⟩ W)
      have him := hid (fun W G v1 v2 (hG : GM W G m l s v1 v2) (hO : Own W 0 2 (Value.slice A0 g.length cp0) (ints g)) => (by have h := image_any W G m l s gd v1 v2 hG 0 (Value.slice A0 g.length cp0) g hO hgn (by omega) (lets ws) hwl (by omega); rw [← hwe] at h; exact h : Calls Try.prog 174 #[.pointer (some ⟨G, 0, none⟩), (Value.slice A0 g.length cp0), .string ws] W fun e w' => ∃ v', e = .returned (.tuple #[.string (wstr (imgW m l s g (lets ws))), v']) ∧ Own w' 0 2 v' (ints (secW m l s g (lets ws))) ∧ Below W.heap.size W w'))
      have hse := hid (show (secW m l s g (lets ws)).length ≤ 1000000 by rw [secW_length]; omega)
      replace hkm := hid hkm; replace hg := hid hg; replace hgw := hid hgw; replace gd := hid gd; replace hwe := hid hwe
      clear hbad
      generalize wstr (imgW m l s g (lets ws)) = ans at *
      generalize secW m l s g (lets ws) = se at *
      have hcl := hid (fun W vq (hO : Own W 0 2 vq (ints se)) => clone_any W 0 vq se hO hse.out)
      go_enter Try.func65, Try.ntmps65
      go_wp2_with (first
        | ((with_reducible refine gate (N := 13) rfl ?_); refine load_mach rfl _ rfl w.heap.size rfl m hS.out.m0 ?_)
        | (go_at_call 167; (with_reducible refine (hgo.out _ _ _ (hown.out.o0.mono (Nat.zero_le _)) hown.out.o2).mono ?_); rintro e w1 ⟨G, v1, v2, rfl, hle, hGB, hb⟩; have hGM := hid hGB.gm; replace hS := hid (hown.out.call hb); have cL := hS.out.m1.cL; rw [hL.out] at cL; clear hgo hb hGB hle hown)
        | (go_at_call 130; (with_reducible refine (hwd.out _).mono ?_); rintro e w' ⟨rfl, rfl⟩)
        | (go_at_call 174; (with_reducible refine (him.out _ _ _ _ hGM.out hS.out.o2).mono ?_); rintro e w2 ⟨v', rfl, hO, hb⟩; replace hS := hid (hS.out.call hb); replace hO := hid hO; clear hb)
        | (go_at_call 178; (with_reducible refine (hcl.out _ _ hO.out).mono ?_); rintro e w3 ⟨v3, rfl, hO3, hb⟩; replace hS := hid (hS.out.callOwn hb hO3); clear hb hO3 hO))
      go_ret2
      exact ⟨_, rfl, hS.out.o0, hS.out.bel⟩
    · rw [secAns_w gd hw]
      have hwd := hid (fun W => isWord_any (l : Int) (by have := gd.l2; omega) (by have := gd.l3; omega) ws hws false ⟨fun h => (by cases h), fun h => absurd h hw⟩ W)
      replace hkm := hid hkm; replace hg := hid hg; replace hgw := hid hgw; replace gd := hid gd
      clear hbad
      go_enter Try.func65, Try.ntmps65
      go_wp2_with (first
        | ((with_reducible refine gate (N := 13) rfl ?_); refine load_mach rfl _ rfl w.heap.size rfl m hS.out.m0 ?_)
        | (go_at_call 167; (with_reducible refine (hgo.out _ _ _ (hown.out.o0.mono (Nat.zero_le _)) hown.out.o2).mono ?_); rintro e w1 ⟨G, v1, v2, rfl, hle, hGB, hb⟩; replace hS := hid (hown.out.call hb); have cL := hS.out.m1.cL; rw [hL.out] at cL; clear hgo hb hGB hle)
        | (go_at_call 130; (with_reducible refine (hwd.out _).mono ?_); rintro e w' ⟨rfl, rfl⟩))
      go_ret2
      exact ⟨_, rfl, Own.nil _ _ _, hS.out.bel⟩
end Go.Proofs.Ythmcdfjijkecfaa

/- Group words: the reference's l02Numbers, l02Is, l02Code, l01Letters, l01Word, l02Both. -/
namespace Go.Proofs.Ythmcdfjijkecfaa
open Go.RowKit
set_option linter.unusedVariables false
set_option linter.unusedSimpArgs false
-- @LONG

set_option maxHeartbeats 2000000 in
set_option maxRecDepth 100000 in
theorem l02Numbers_any (w : World) (m : Mach) (l s : Nat) (gd : Good m l s) (base : Nat) (v : Value) (g : List Int) (h : Own w base 2 v (ints g)) (hl : g.length < 2000000) :
    Calls Try.prog 242 #[.agg (mcells m), v] w fun e w' => e = .returned (.bool (!(g.any (badNum s)))) ∧ Below w.heap.size w w' := by
  have hil := ints_length g
  obtain ⟨A, c, rfl, _, _⟩ := h.form
  rw [hil] at h ⊢
  have hcell := hid (fun (k : Nat) (y : Int) (hy : g[k]? = some y) => (show ∃ gA, A = some ⟨gA, 0, none⟩ ∧ ∀ W, Below w.heap.size w W → W.cell? ⟨gA, k, none⟩ = some (.int .i64 y) from by
    obtain ⟨g1, c2, he, _, hg1⟩ := h.blk (fun e => by have h1 := congrArg List.length e; rw [hil] at h1; have h2 := (List.getElem?_eq_some_iff.1 hy).1; rw [List.length_nil] at h1; omega)
    injection he with e1 e2 e3
    subst e1
    exact ⟨g1, rfl, fun W hW => (h.below hW).cellAt k _ (by simp [ints, hy])⟩))
  have hS := hid ((St.start w).newMB m 27)
  have gS := hid gd.S
  have s16 := gd.s16
  obtain ⟨R, hR⟩ : ∃ R, R = g.any (badNum s) := ⟨_, rfl⟩
  rw [← hR]
  replace hR := hid hR
  have e1 : IntKind.i64.wrap (-(s : Int)) = -(s : Int) := IntWalk.i64_in _ (by omega)
  have hdrop := hid (fun (k : Nat) (x : Int) (hx : g[k]? = some x) => (show (g.drop k).any (badNum s) = (badNum s x || (g.drop (k + 1)).any (badNum s)) by
    have hk := (List.getElem?_eq_some_iff.1 hx).1
    rw [List.drop_eq_getElem_cons hk, (List.getElem?_eq_some_iff.1 hx).2, List.any_cons]))
  clear h hil
  replace gd := hid gd
  generalize hn : g.length = n at *
  replace hn := hid hn
  go_enter Try.func242, Try.ntmps242
  go_wp2
  go_loopw [5] (fun i wr => ∃ k : Nat, k ≤ n ∧ i = .int .i64 k ∧ Hid (R = (g.drop k).any (badNum s)) ∧ St w.heap.size w [Asn.mb 27 w.heap.size m] wr) (fun i _ => n - (intOf i).toNat)
  case atStart => exact ⟨0, Nat.zero_le _, rfl, hR, hS.out⟩
  case round =>
    obtain ⟨k, hk, rfl, hA, rS⟩ := hrel
    clear hS hR
    replace rS := hid rS
    by_cases hlt : k < n
    · have dc : decide ((k : Int) < (n : Int)) = true := decide_eq_true (by omega)
      obtain ⟨x, hx⟩ : ∃ x, g[k]? = some x := ⟨_, List.getElem?_eq_getElem (by rw [hn.out]; exact hlt)⟩
      obtain ⟨gA, rfl, hc⟩ := hcell.out k x hx
      have d1 := hc wr rS.out.bel
      have cS := rS.out.m0.cS
      rw [gS.out] at cS
      have k0 : (0 : Int) ≤ (k : Int) := Int.natCast_nonneg _
      have k1 : (k : Int) < (n : Int) := by omega
      have hd := hid (hA.out.trans (hdrop.out k x hx))
      have hin := hid (fun d => l01In_any x (-(s : Int)) s (decide (-(s : Int) ≤ x ∧ x ≤ s)) rfl (wr.drewN d))
      have hbn := hid (show badNum s x = ((x == 0) || !decide (-(s : Int) ≤ x ∧ x ≤ s)) from rfl)
      clear hc hx
      generalize decide (-(s : Int) ≤ x ∧ x ≤ s) = c0 at *
      cases hx0 : x == 0 with
      | true =>
        have hfin := hid (show R = true by rw [hd.out, hbn.out, hx0]; rfl)
        go_upto_region 4 with (fail)
        go_quiet (fail)
        go_wp2
        go_ret
        exact ⟨retB (by rw [hfin.out]; rfl), below_drewN rS.out.bel _⟩
      | false =>
        have hbn2 := hid (show badNum s x = !c0 by rw [hbn.out, hx0]; rfl)
        cases c0 with
        | true =>
          have hA2 := hid (show R = (g.drop (k + 1)).any (badNum s) by rw [hd.out, hbn2.out]; rfl)
          clear hbn hbn2 hd hA
          go_upto_region 4 with (fail)
          go_quiet ((go_at_call 117; exact quiet_same (hin.out _)))
          go_wp2
          go_roundw
          case rel => exact ⟨k + 1, by omega, by go_num, hA2, rS.out.drewN _⟩
          case measure => simp [intOf]; omega
        | false =>
          have hfin := hid (show R = true by rw [hd.out, hbn2.out]; rfl)
          clear hbn hbn2 hd hA
          go_upto_region 4 with (fail)
          go_quiet ((go_at_call 117; exact quiet_same (hin.out _)))
          go_wp2
          go_ret
          exact ⟨retB (by rw [hfin.out]; rfl), below_drewN rS.out.bel _⟩
    · obtain rfl : k = n := by omega
      have dc : decide ((k : Int) < (k : Int)) = false := decide_eq_false (by omega)
      have hfin := hid (show R = false by rw [hA.out, List.drop_eq_nil_of_le (by rw [hn.out]; exact Nat.le_refl _)]; rfl)
      go_wp2
      go_ret
      exact ⟨retB (by rw [hfin.out]; rfl), rS.out.bel⟩
set_option maxHeartbeats 1000000 in
theorem l02Is_any (w : World) (m : Mach) (l s : Nat) (gd : Good m l s) (base : Nat) (v : Value) (g : List Int) (h : Own w base 2 v (ints g)) (hl : g.length < 2000000) (r : Bool) (hr : Tells r (IsGw m g)) :
    Calls Try.prog 172 #[.agg (mcells m), v] w fun e w' => e = .returned (.bool r) ∧ Below w.heap.size w w' := by
  have hil := ints_length g
  have hS := hid ((St.start w).newMB m 27)
  have hnu := hid (fun W (hW : Below w.heap.size w W) => l02Numbers_any W m l s gd base v g (h.below hW) hl)
  have hS2 : m.S.toNat = s := by rw [gd.S]; rfl
  have hgw : IsGw m g ↔ g.length ≤ 40 ∧ ∀ k ∈ g, isNum s k := by unfold IsGw; rw [hS2]; exact ⟨fun h => h.2, fun h => ⟨gd.isM, h⟩⟩
  have hb := badAny_iff s g
  have hr2 := hr.out
  obtain ⟨A, c, rfl, _, _⟩ := h.form
  rw [hil] at *
  clear h hr
  by_cases h40 : g.length ≤ 40
  · have d1 : decide ((40 : Int) < (g.length : Int)) = false := decide_eq_false (by omega)
    have hfin : Hid ((!(g.any (badNum s))) = r) := by
      refine hid ?_
      rw [Bool.eq_iff_iff, hr2, hgw]
      cases hh : g.any (badNum s)
      · rw [hh] at hb
        simp only [Bool.not_false, true_iff]
        exact ⟨h40, Classical.byContradiction fun hn => by have := hb.2 hn; cases this⟩
      · simp only [Bool.not_true, Bool.false_eq_true, false_iff]
        exact fun hn => (hb.1 hh) hn.2
    rw [hfin.out] at hnu
    clear hr2 hgw hb hfin; replace gd := hid gd
    generalize g.length = n at *
    go_enter Try.func172, Try.ntmps172
    go_wp2_with (first
      | ((with_reducible refine gate (N := 8) rfl ?_); refine load_mach rfl _ rfl w.heap.size rfl m hS.out.m0 ?_)
      | (go_at_call 242; (with_reducible refine (hnu.out _ hS.out.bel).mono ?_); rintro e w1 ⟨rfl, hb⟩; replace hS := hid (hS.out.call hb); clear hb))
    go_ret
    exact ⟨rfl, hS.out.bel⟩
  · have d1 : decide ((40 : Int) < (g.length : Int)) = true := decide_eq_true (by omega)
    have hfin : Hid (r = false) := by
      refine hid ?_
      rw [Bool.eq_false_iff, Ne, hr2, hgw]
      exact fun hn => h40 hn.1
    clear hr2 hgw hb; replace gd := hid gd
    generalize g.length = n at *
    go_enter Try.func172, Try.ntmps172
    go_wp2
    go_ret
    exact ⟨retB hfin.out.symm, hS.out.bel⟩
end Go.Proofs.Ythmcdfjijkecfaa

/- The reference's l02Code, l01Letters, l01Word, l02Both. -/
namespace Go.Proofs.Ythmcdfjijkecfaa
open Go.RowKit
set_option linter.unusedVariables false
set_option linter.unusedSimpArgs false
-- @LONG

open Classical in
/-- The code of a machine and group words. -/
noncomputable def codG (m : Mach) (M : List (List Int)) : Int := if IsM m ∧ ∀ row ∈ M, IsGw m row then 0 else 1
theorem codG_0 {m : Mach} {M : List (List Int)} (h : IsM m) (hM : ∀ row ∈ M, IsGw m row) : codG m M = 0 := by unfold codG; rw [if_pos ⟨h, hM⟩]
theorem codG_1 {m : Mach} {M : List (List Int)} (h : ¬ (IsM m ∧ ∀ row ∈ M, IsGw m row)) : codG m M = 1 := by unfold codG; rw [if_neg h]
theorem codG_y {m : Mach} {g : List Int} (h : IsGw m g) : codG m [g] = 0 := codG_0 h.1 (by simp; exact h)
theorem codG_n {m : Mach} {g : List Int} (h : ¬ IsGw m g) : codG m [g] = 1 := codG_1 (fun k => h (k.2 g (by simp)))

set_option maxHeartbeats 2000000 in
set_option maxRecDepth 100000 in
theorem l02Code_any (w : World) (m : Mach) (hk : m.Ok) (base : Nat) (v : Value) (M : List (List Int)) (h : Mat w base v M) (hl : M.length < 2000000) (hlr : ∀ row ∈ M, row.length < 2000000) :
    Calls Try.prog 169 #[.agg (mcells m), v] w fun e w' => e = .returned (.int .i64 (codG m M)) ∧ Below w.heap.size w w' := by
  have hS := hid ((St.start w).newMB m 27)
  by_cases hm : IsM m
  · obtain ⟨l, s, gd⟩ := hm.good
    obtain ⟨rows, hO, hrl, hrow⟩ := h
    obtain ⟨A1, c1, rfl, _, _⟩ := hO.form
    rw [hrl] at hO ⊢
    have hcell := hid (fun (k : Nat) (x : List Int) (hx : M[k]? = some x) => (show ∃ g r, A1 = some ⟨g, 0, none⟩ ∧ ∀ W, Below w.heap.size w W → W.cell? ⟨g, k, none⟩ = some r ∧ Own W base 2 r (ints x) from by
      have hk := (List.getElem?_eq_some_iff.1 hx).1
      obtain ⟨g1, c2, he, _, hg1⟩ := hO.blk (fun e => by rw [e] at hrl; rw [← hrl] at hk; simp at hk)
      injection he with e1 e2 e3
      subst e1
      obtain ⟨r, hr⟩ : ∃ r, rows[k]? = some r := ⟨_, List.getElem?_eq_getElem (by rw [hrl]; exact hk)⟩
      exact ⟨g1, r, rfl, fun W hW => ⟨(hO.below hW).cellAt k _ hr, (hrow k r x hr hx).below hW⟩⟩))
    have hi := hid (fun W => l01Is_any W m hk true ⟨fun _ => hm, fun _ => rfl⟩)
    have his := hid (fun W r row (hr : row ∈ M) (hO : Own W base 2 r (ints row)) (c : Bool) (hc : Tells c (IsGw m row)) => l02Is_any W m l s gd base r row hO (hlr row hr) c hc)
    obtain ⟨R, hR⟩ : ∃ R, R = codG m M := ⟨_, rfl⟩
    rw [← hR]
    replace hR := hid hR; replace hm := hid hm; replace gd := hid gd; replace hk := hid hk
    clear hO hrow
    generalize hn : M.length = n at *
    replace hn := hid hn
    go_enter Try.func169, Try.ntmps169
    go_wp2_with (first
      | ((with_reducible refine gate (N := 6) rfl ?_); refine load_mach rfl _ rfl w.heap.size rfl m hS.out.m0 ?_)
      | (go_at_call 106; (with_reducible refine (hi.out _).mono ?_); rintro e w1 ⟨rfl, hb⟩; replace hS := hid (hS.out.call hb); clear hi; clear hb))
    go_loopw [5] (fun i wr => ∃ k : Nat, k ≤ n ∧ i = .int .i64 k ∧ Hid (∀ j row, j < k → M[j]? = some row → IsGw m row) ∧ St w.heap.size w [Asn.mb 27 w.heap.size m] wr) (fun i _ => n - (intOf i).toNat)
    case atStart => exact ⟨0, Nat.zero_le _, rfl, (fun j row hj => absurd hj (by omega)), hS.out⟩
    case round =>
      obtain ⟨k, hk, rfl, hA, rS⟩ := hrel
      clear hS
      replace rS := hid rS
      by_cases hlt : k < n
      · have dc : decide ((k : Int) < (n : Int)) = true := decide_eq_true (by omega)
        obtain ⟨x, hx⟩ : ∃ x, M[k]? = some x := ⟨_, List.getElem?_eq_getElem (by rw [hn.out]; exact hlt)⟩
        obtain ⟨g, r, rfl, hc⟩ := hcell.out k x hx
        have k0 : (0 : Int) ≤ (k : Int) := Int.natCast_nonneg _
        have k1 : (k : Int) < (n : Int) := by omega
        replace hc := hid hc
        go_upto_region 6 with (fail)
        replace rS := hid rS.out.drew
        refine wp_region_heldL (L := [(5, (fun w' : World => MB w' 27 w.heap.size m ∧ w'.cell? ⟨g, k, none⟩ = some r))]) (by kernel_rfl) (HeldL.cons (fun _ => ⟨rS.out.m0, (hc.out _ rS.out.bel).1⟩) HeldL.nil) (fun hHeld => ?_)
        generalize wr.drew = wa at *
        refine wpAnyL_takeP (i := 0) 5 [] (v := (.agg (mcells m))) (fun w' : World => MB w' 27 w.heap.size m ∧ w'.cell? ⟨g, k, none⟩ = some r) rfl (by kernel_rfl) (by kernel_rfl) (by kernel_rfl) (by rfl) (by kernel_rfl) (by simp) (fun _ _ _ h => h) (Or.inl ⟨by rfl, ?_⟩) (by assumption) ?_
        · (intro W hW; exact exec_load _ rfl rfl (load_run hW.1))
        intro hHeld'
        clear hHeld; have hHeld := hHeld'; clear hHeld'
        try simp only [Act.put, List.getElem_toArray, List.getElem_cons_succ, List.getElem_cons_zero, List.setIfInBounds_toArray, List.set_cons_zero, List.set_cons_succ]
        refine wpAnyL_take0 (i := 1) (v := ?_) rfl (by kernel_rfl) (by kernel_rfl) (by kernel_rfl) (by rfl) (fun _ _ _ h => h) (Or.inl ⟨by rfl, ?_⟩) (by assumption) ?_
        rotate_left
        · (intro W _; go_simp; (with_reducible rfl))
        intro hHeld'
        clear hHeld; have hHeld := hHeld'; clear hHeld'
        try simp only [Act.put, List.getElem_toArray, List.getElem_cons_succ, List.getElem_cons_zero, List.setIfInBounds_toArray, List.set_cons_zero, List.set_cons_succ]
        refine wpAnyL_take0 (i := 2) (v := ?_) rfl (by kernel_rfl) (by kernel_rfl) (by kernel_rfl) (by rfl) (fun _ _ _ h => h) (Or.inl ⟨by rfl, ?_⟩) (by assumption) ?_
        rotate_left
        · (intro W _; go_simp; (with_reducible rfl))
        intro hHeld'
        clear hHeld; have hHeld := hHeld'; clear hHeld'
        try simp only [Act.put, List.getElem_toArray, List.getElem_cons_succ, List.getElem_cons_zero, List.setIfInBounds_toArray, List.set_cons_zero, List.set_cons_succ]
        refine wpAnyL_take0 (i := 3) (v := ?_) rfl (by kernel_rfl) (by kernel_rfl) (by kernel_rfl) (by rfl) (fun _ _ _ h => h) (Or.inl ⟨by rfl, ?_⟩) (by assumption) ?_
        rotate_left
        · (intro W _; go_simp; (with_reducible rfl))
        intro hHeld'
        clear hHeld; have hHeld := hHeld'; clear hHeld'
        try simp only [Act.put, List.getElem_toArray, List.getElem_cons_succ, List.getElem_cons_zero, List.setIfInBounds_toArray, List.set_cons_zero, List.set_cons_succ]
        refine wpAnyL_takeP (i := 4) 5 [] (v := ?_) (fun w' : World => MB w' 27 w.heap.size m ∧ w'.cell? ⟨g, k, none⟩ = some r) rfl (by kernel_rfl) (by kernel_rfl) (by kernel_rfl) (by rfl) (by kernel_rfl) (by simp) (fun _ _ _ h => h) (Or.inl ⟨by rfl, ?_⟩) (by assumption) ?_
        rotate_left
        · (intro W hW; (obtain ⟨_, hW⟩ := hW); go_simp; (with_reducible rfl))
        intro hHeld'
        clear hHeld; have hHeld := hHeld'; clear hHeld'
        try simp only [Act.put, List.getElem_toArray, List.getElem_cons_succ, List.getElem_cons_zero, List.setIfInBounds_toArray, List.set_cons_zero, List.set_cons_succ]
        refine wpAnyL_ready (rs := [5]) (by kernel_rfl) (by simp) ?_
        refine AllReadyL.cons rfl (fun K hK => ?_) AllReadyL.nil
        go_simp
        by_cases hgw : IsGw m x
        · have hcl := hid (fun W hO => his.out W r x (List.mem_of_getElem? hx) hO true ⟨fun _ => hgw, fun _ => rfl⟩)
          (with_reducible refine (hcl.out _ (hc.out _ rS.out.bel).2).mono ?_)
          rintro e w2 ⟨rfl, hb⟩
          replace rS := hid (rS.out.call hb)
          clear hb
          have hA2 : Hid (∀ j row, j < k + 1 → M[j]? = some row → IsGw m row) := fun j row hj hr => by
            by_cases e : j = k
            · subst e; rw [hx] at hr; injection hr with hr; subst hr; exact hgw
            · exact hA.out j row (by omega) hr
          clear hx hgw hcl
          go_simp
          refine hK.out _ _ (HeldL.cons (fun h => absurd h (by decide +kernel)) HeldL.nil) (fun hHeld' => ?_)
          clear hK K hHeld; have hHeld := hHeld'; clear hHeld'
          try simp only [Act.put, List.getElem_toArray, List.getElem_cons_succ, List.getElem_cons_zero, List.setIfInBounds_toArray, List.set_cons_zero, List.set_cons_succ]
          refine wpAnyL_take0 (i := 6) (v := ?_) rfl (by kernel_rfl) (by kernel_rfl) (by kernel_rfl) (by rfl) (fun _ _ _ h => h) (Or.inl ⟨by rfl, ?_⟩) (by assumption) ?_
          rotate_left
          · (intro W _; go_simp; (with_reducible rfl))
          intro hHeld'
          clear hHeld; have hHeld := hHeld'; clear hHeld'
          try simp only [Act.put, List.getElem_toArray, List.getElem_cons_succ, List.getElem_cons_zero, List.setIfInBounds_toArray, List.set_cons_zero, List.set_cons_succ]
          refine wpAnyL_done (by kernel_rfl) ?_ _
          go_wp2
          go_roundw
          case rel => exact ⟨k + 1, by omega, by go_num, hA2, rS.out⟩
          case measure => simp [intOf]; omega
        · have hcl := hid (fun W hO => his.out W r x (List.mem_of_getElem? hx) hO false ⟨fun h => (by cases h), fun h => absurd h hgw⟩)
          (with_reducible refine (hcl.out _ (hc.out _ rS.out.bel).2).mono ?_)
          rintro e w2 ⟨rfl, hb⟩
          replace rS := hid (rS.out.call hb)
          clear hb
          have hfin := hid (show R = 1 by rw [hR.out]; exact codG_1 (fun h => hgw (h.2 x (List.mem_of_getElem? hx))))
          clear hx hgw hcl
          go_simp
          refine hK.out _ _ (HeldL.cons (fun h => absurd h (by decide +kernel)) HeldL.nil) (fun hHeld' => ?_)
          clear hK K hHeld; have hHeld := hHeld'; clear hHeld'
          try simp only [Act.put, List.getElem_toArray, List.getElem_cons_succ, List.getElem_cons_zero, List.setIfInBounds_toArray, List.set_cons_zero, List.set_cons_succ]
          refine wpAnyL_take0 (i := 6) (v := ?_) rfl (by kernel_rfl) (by kernel_rfl) (by kernel_rfl) (by rfl) (fun _ _ _ h => h) (Or.inl ⟨by rfl, ?_⟩) (by assumption) ?_
          rotate_left
          · (intro W _; go_simp; (with_reducible rfl))
          intro hHeld'
          clear hHeld; have hHeld := hHeld'; clear hHeld'
          try simp only [Act.put, List.getElem_toArray, List.getElem_cons_succ, List.getElem_cons_zero, List.setIfInBounds_toArray, List.set_cons_zero, List.set_cons_succ]
          refine wpAnyL_done (by kernel_rfl) ?_ _
          go_wp2
          go_ret
          exact ⟨retI (by rw [hfin.out]), rS.out.bel⟩
      · obtain rfl : k = n := by omega
        have dc : decide ((k : Int) < (k : Int)) = false := decide_eq_false (by omega)
        have hfin := hid (show R = 0 by
          rw [hR.out]
          refine codG_0 hm.out fun row hr => ?_
          obtain ⟨j, hj, rfl⟩ := List.getElem_of_mem hr
          exact hA.out j _ (by rw [← hn.out]; exact hj) (List.getElem?_eq_getElem hj))
        go_wp2
        go_ret
        exact ⟨retI (by rw [hfin.out]), rS.out.bel⟩
  · have hi := hid (fun W => l01Is_any W m hk false ⟨fun h => (by cases h), fun h => absurd h hm⟩)
    rw [codG_1 (fun h => hm h.1)]
    replace hk := hid hk; replace h := hid h; clear hm
    go_enter Try.func169, Try.ntmps169
    go_wp2_with (first
      | ((with_reducible refine gate (N := 6) rfl ?_); refine load_mach rfl _ rfl w.heap.size rfl m hS.out.m0 ?_)
      | (go_at_call 106; (with_reducible refine (hi.out _).mono ?_); rintro e w1 ⟨rfl, hb⟩; replace hS := hid (hS.out.call hb); clear hi; clear hb))
    go_ret
    exact ⟨rfl, hS.out.bel⟩
set_option maxHeartbeats 1000000 in
set_option maxRecDepth 100000 in
theorem l01Letters_any (d : Int) (_ : 2 ≤ d) (_ : d ≤ 3) (ws : ByteArray) (hws : ws.size < 1000000000000) (r : Bool) (hr : Tells r (∀ k (h : k < ws.size), 48 ≤ (ws[k]'h).toNat ∧ ((ws[k]'h).toNat : Int) - 48 < d)) (w : World) :
    Calls Try.prog 136 #[.int .i64 d, .string ws] w fun e w' => e = .returned (.bool r) ∧ w = w' := by
  replace hr := hid hr
  go_enter Try.func136, Try.ntmps136
  go_wp2
  go_loop [5] (fun i => ∃ k : Nat, k ≤ ws.size ∧ i = .int .i64 k ∧ Hid (∀ j (h : j < ws.size), j < k → 48 ≤ (ws[j]'h).toNat ∧ ((ws[j]'h).toNat : Int) - 48 < d)) (fun i => ws.size - (intOf i).toNat)
  case atStart => exact ⟨0, Nat.zero_le _, rfl, fun j _ h => absurd h (by omega)⟩
  case round =>
    obtain ⟨k, hk, rfl, hall⟩ := hrel
    by_cases hlt : k < ws.size
    · have hstep : (48 ≤ (ws[k]'hlt).toNat ∧ ((ws[k]'hlt).toNat : Int) - 48 < d) → Hid (∀ j (h : j < ws.size), j < k + 1 → 48 ≤ (ws[j]'h).toNat ∧ ((ws[j]'h).toNat : Int) - 48 < d) := fun hc j hj hjk => by
        by_cases e : j = k
        · subst e; exact hc
        · exact hall.out j hj (by omega)
      have hfail : ¬ (48 ≤ (ws[k]'hlt).toNat ∧ ((ws[k]'hlt).toNat : Int) - 48 < d) → r = false := fun hc => by
        cases r
        · rfl
        · exact absurd ((hr.out.out.1 rfl) k hlt) hc
      have hbl := UInt8.toNat_lt (ws[k]'hlt)
      generalize hb : (ws[k]'hlt).toNat = b at *
      replace hstep := hid hstep
      by_cases h48 : 48 ≤ b
      · obtain ⟨x, rfl⟩ := Nat.exists_eq_add_of_le h48
        have e1 : 48 + (x : Int) - 48 = x := by omega
        by_cases hxd : (x : Int) < d
        · clear hfail
          go_wp2
          go_round
          case rel => exact ⟨k + 1, by omega, by go_num, hstep.out ⟨by omega, by omega⟩⟩
          case measure => simp [intOf]; omega
        · have hf := hfail (fun hc => hxd (by omega))
          subst hf
          have dx : decide ((x : Int) ≥ d) = true := decide_eq_true (by omega)
          clear hfail
          go_wp2
          go_ret
          exact ⟨rfl, rfl⟩
      · have hf := hfail (fun hc => h48 hc.1)
        subst hf
        have dx : decide ((b : Int) < 48) = true := decide_eq_true (by omega)
        clear hfail
        go_wp2
        go_ret
        exact ⟨rfl, rfl⟩
    · obtain rfl : k = ws.size := by omega
      have hrr := hid (hr.out.out.2 fun j hj => hall.out j hj hj)
      go_wp2
      go_ret
      exact ⟨retB hrr.out.symm, rfl⟩

set_option maxHeartbeats 1000000 in
theorem l01Word_any (w : World) (m : Mach) (l s : Nat) (gd : Good m l s) (ws : ByteArray) (hws : ws.size < 1000000000000) (r : Bool) (hr : Tells r (IsWd l ws)) :
    Calls Try.prog 221 #[.agg (mcells m), .string ws] w fun e w' => e = .returned (.bool r) ∧ Below w.heap.size w w' := by
  classical
  have hS := hid ((St.start w).newMB m 27)
  have cL := hS.out.m0.cL
  rw [gd.L] at cL
  have hr2 := hr.out
  by_cases h40 : ws.size ≤ 40
  · have d1 : decide ((ws.size : Int) ≤ 40) = true := decide_eq_true (by omega)
    have hle := hid (fun W => l01Letters_any (l : Int) (by have := gd.l2; omega) (by have := gd.l3; omega) ws hws r (by
      constructor
      · intro h; exact (hr2.1 h).2
      · intro h; exact hr2.2 ⟨h40, h⟩) W)
    replace gd := hid gd; clear hr hr2
    go_enter Try.func221, Try.ntmps221
    go_wp2_with (first
      | (go_at_call 136; (with_reducible refine (hle.out _).mono ?_); rintro e w' ⟨rfl, rfl⟩))
    go_ret
    exact ⟨rfl, hS.out.bel⟩
  · have d1 : decide ((ws.size : Int) ≤ 40) = false := decide_eq_false (by omega)
    have hf : r = false := by rw [Bool.eq_false_iff, Ne, hr2]; exact fun h => h40 h.1
    subst hf
    replace gd := hid gd; clear hr hr2
    go_enter Try.func221, Try.ntmps221
    go_wp2
    go_ret
    exact ⟨rfl, hS.out.bel⟩
open Classical in
/-- The code of a group word and a word. -/
noncomputable def codB (m : Mach) (g : List Int) (ws : ByteArray) : Int := if IsGw m g ∧ IsWd m.L ws then 0 else 1
theorem codB_n {m : Mach} {g : List Int} {ws : ByteArray} (h : ¬ IsGw m g) : codB m g ws = 1 := by unfold codB; rw [if_neg (fun k => h k.1)]
theorem codB_w {m : Mach} {l s : Nat} {g : List Int} {ws : ByteArray} (gd : Good m l s) (h : ¬ IsWd l ws) : codB m g ws = 1 := by unfold codB; rw [gd.L, if_neg (fun k => h k.2)]
theorem codB_0 {m : Mach} {l s : Nat} {g : List Int} {ws : ByteArray} (gd : Good m l s) (h : IsGw m g) (hw : IsWd l ws) : codB m g ws = 0 := by unfold codB; rw [gd.L, if_pos ⟨h, hw⟩]
set_option maxHeartbeats 2000000 in
set_option maxRecDepth 4000 in
theorem l02Both_any (w : World) (m : Mach) (hkm : m.Ok) (b0 : Nat) (v : Value) (g : List Int) (hg : Own w b0 2 v (ints g)) (hl : g.length < 2000000) (ws : ByteArray) (hws : ws.size < 1000000000000) :
    Calls Try.prog 175 #[.agg (mcells m), v, .string ws] w fun e w' => e = .returned (.int .i64 (codB m g ws)) ∧ Below w.heap.size w w' := by
  obtain ⟨A0, cp0, rfl, _, _⟩ := hg.form
  rw [ints_length] at hg ⊢
  have hS := hid ((St.arg w hg).newMB m 27)
  have hown := hid (hS.out.newOwn [(Value.slice A0 g.length cp0)] 29 (by simp))
  simp only [heap_alloc_size, List.length_cons, List.length_nil, Nat.zero_add] at hown
  have hco := hid (fun W b vv (hO : Own W b 29 vv [(Value.slice A0 g.length cp0)]) (hr : Own W b 2 (Value.slice A0 g.length cp0) (ints g)) => l02Code_any W m hkm b vv [g] (mat_one hO hr) (by simp) (by simp; omega))
  rcases gw_cases m g ws with h | ⟨l, s, gd, h, hw⟩ | ⟨l, s, gd, h, hw⟩
  · have hbad : ¬ IsGw m g := by
      rcases h with h | h
      · exact fun k => h k.1
      · exact h
    rw [codB_n hbad]
    rw [codG_n hbad] at hco
    replace hkm := hid hkm; replace hg := hid hg; clear h hbad
    go_enter Try.func175, Try.ntmps175
    go_wp2_with (first
      | ((with_reducible refine gate (N := 7) rfl ?_); refine load_mach rfl _ rfl w.heap.size rfl m hS.out.m0 ?_)
      | (go_at_call 169; (with_reducible refine (hco.out _ _ _ (hown.out.o0.mono (Nat.zero_le _)) hown.out.o2).mono ?_); rintro e w1 ⟨rfl, hb⟩; replace hS := hid (hown.out.call hb); clear hco hown; clear hb))
    go_ret
    exact ⟨rfl, hS.out.bel⟩
  · rw [codB_w gd hw]
    rw [codG_y h] at hco
    have hwd := hid (fun W => l01Word_any W m l s gd ws hws false ⟨fun h => (by cases h), fun h => absurd h hw⟩)
    replace hkm := hid hkm; replace hg := hid hg; replace gd := hid gd; clear h hw
    go_enter Try.func175, Try.ntmps175
    go_wp2_with (first
      | ((with_reducible refine gate (N := 7) rfl ?_); refine load_mach rfl _ rfl w.heap.size rfl m hS.out.m0 ?_)
      | (go_at_call 169; (with_reducible refine (hco.out _ _ _ (hown.out.o0.mono (Nat.zero_le _)) hown.out.o2).mono ?_); rintro e w1 ⟨rfl, hb⟩; replace hS := hid (hown.out.call hb).drop; clear hco hown; clear hb)
      | ((with_reducible refine gate (N := 13) rfl ?_); refine load_mach_g (by rfl) _ rfl w.heap.size rfl m hS.out.m0 ?_)
      | (go_at_call 221; (with_reducible refine (hwd.out _).mono ?_); rintro e w2 ⟨rfl, hb⟩; replace hS := hid (hS.out.call hb); clear hb))
    go_ret
    exact ⟨rfl, hS.out.bel⟩
  · rw [codB_0 gd h hw]
    rw [codG_y h] at hco
    have hwd := hid (fun W => l01Word_any W m l s gd ws hws true ⟨fun _ => hw, fun _ => rfl⟩)
    replace hkm := hid hkm; replace hg := hid hg; replace gd := hid gd; clear h hw
    go_enter Try.func175, Try.ntmps175
    go_wp2_with (first
      | ((with_reducible refine gate (N := 7) rfl ?_); refine load_mach rfl _ rfl w.heap.size rfl m hS.out.m0 ?_)
      | (go_at_call 169; (with_reducible refine (hco.out _ _ _ (hown.out.o0.mono (Nat.zero_le _)) hown.out.o2).mono ?_); rintro e w1 ⟨rfl, hb⟩; replace hS := hid (hown.out.call hb).drop; clear hco hown; clear hb)
      | ((with_reducible refine gate (N := 13) rfl ?_); refine load_mach_g (by rfl) _ rfl w.heap.size rfl m hS.out.m0 ?_)
      | (go_at_call 221; (with_reducible refine (hwd.out _).mono ?_); rintro e w2 ⟨rfl, hb⟩; replace hS := hid (hS.out.call hb); clear hb))
    go_ret
    exact ⟨rfl, hS.out.bel⟩
end Go.Proofs.Ythmcdfjijkecfaa

/- The reference's l02State, l02Step, l02Led, l02Act. -/
namespace Go.Proofs.Ythmcdfjijkecfaa
open Go.RowKit
set_option linter.unusedVariables false
set_option linter.unusedSimpArgs false
-- @LONG

set_option maxHeartbeats 1000000 in
theorem l02State_any (w : World) (s : Nat) (hs : s ≤ 16) (k : Int) (q : Nat) (hq : q < s) (hk : k = (q : Int) + 1 ∨ k = -((q : Int) + 1)) :
    Calls Try.prog 241 #[.int .i64 k] w fun e w' => e = .returned (.int .i64 (q : Nat)) ∧ w = w' := by
  have e1 : IntKind.i64.wrap (-k) = -k := IntWalk.i64_in _ (by omega)
  have e2 : max k (-k) = (q : Int) + 1 := by omega
  have e3 : (q : Int) + 1 - 1 = (q : Int) := by omega
  have e4 : (if -k < k then k else -k) = (q : Int) + 1 := by split <;> omega
  have e5 : (if k < -k then -k else k) = (q : Int) + 1 := by split <;> omega
  replace hk := hid hk
  go_enter Try.func241, Try.ntmps241
  go_wp2
  go_ret
  exact ⟨rfl, rfl⟩
set_option maxHeartbeats 2000000 in
set_option maxRecDepth 100000 in
theorem l02Step_any (w : World) (m : Mach) (l s : Nat) (gd : Good m l s) (k : Int) (hk : isNum s k) (x : Nat) (hx : x < l) :
    Calls Try.prog 245 #[.agg (mcells m), .agg (mcells (inv m l s)), .int .i64 k, .int .u8 x] w fun e w' => e = .returned (.tuple #[.int .u8 (apO m l s k x : Nat), .int .i64 (apN m l s k x)]) ∧ Below w.heap.size w w' := by
  have hS := hid (((St.start w).newMB m 27).newMB (inv m l s) 27)
  rw [heap_alloc_size] at hS
  have s16 := gd.s16; have l3 := gd.l3
  have gI := inv_good gd
  obtain ⟨q, hq, hqk⟩ := isNum_cases hk
  have hst := hid (fun W => l02State_any W s s16 k q hq hqk)
  have x0 : (0 : Int) ≤ (x : Int) := Int.natCast_nonneg _
  have x1 : (x : Int) < 3 := by omega
  have q0 : (0 : Int) ≤ (q : Int) := Int.natCast_nonneg _
  have q1 : (q : Int) < 16 := by omega
  rcases hqk with hqk | hqk
  · have d1 : decide ((0 : Int) < k) = true := decide_eq_true (by omega)
    have c1 := hS.out.m1.cot q x (by omega) (by omega)
    have c2 := hS.out.m1.cnx q x (by omega) (by omega)
    have hO := hid (show apO m l s k x = m.ot (q * 3 + x) by rw [hqk]; exact apO_pos q x)
    have hN := hid (show apN m l s k x = (m.nx (q * 3 + x) : Int) + 1 by rw [hqk]; exact apN_pos q x)
    rw [hO.out, hN.out]
    have hnl := gd.nx q x hq hx
    have hol := gd.ot q x hq hx
    have e2 : IntKind.i64.wrap ((m.nx (q * 3 + x) : Int) + 1) = (m.nx (q * 3 + x) : Int) + 1 := IntWalk.i64_in _ (by omega)
    generalize m.ot (q * 3 + x) = ot at *
    generalize m.nx (q * 3 + x) = nx at *
    clear gd gI hk hO hN; replace hqk := hid hqk
    go_enter Try.func245, Try.ntmps245
    go_upto_region 3 with (first
      | (go_at_call 241; (with_reducible refine (hst.out _).mono ?_); rintro e w' ⟨rfl, rfl⟩))
    go_quiet (fail)
    go_wp2
    go_ret2
    exact ⟨rfl, below_drewN hS.out.bel _⟩
  · have d1 : decide ((0 : Int) < k) = false := decide_eq_false (by omega)
    have c1 := hS.out.m0.cot q x (by omega) (by omega)
    have c2 := hS.out.m0.cnx q x (by omega) (by omega)
    have hO := hid (show apO m l s k x = (inv m l s).ot (q * 3 + x) by rw [hqk]; exact apO_neg q x)
    have hN := hid (show apN m l s k x = -((inv m l s).nx (q * 3 + x) : Int) - 1 by rw [hqk]; exact apN_neg q x)
    rw [hO.out, hN.out]
    have hnl := gI.nx q x hq hx
    have hol := gI.ot q x hq hx
    have e2 : IntKind.i64.wrap (((inv m l s).nx (q * 3 + x) : Int) + 1) = ((inv m l s).nx (q * 3 + x) : Int) + 1 := IntWalk.i64_in _ (by omega)
    have e3 : IntKind.i64.wrap (-(((inv m l s).nx (q * 3 + x) : Int) + 1)) = -((inv m l s).nx (q * 3 + x) : Int) - 1 := by rw [IntWalk.i64_in _ (by omega)]; omega
    generalize (inv m l s).ot (q * 3 + x) = ot at *
    generalize (inv m l s).nx (q * 3 + x) = nx at *
    clear gd gI hk hO hN; replace hqk := hid hqk
    go_enter Try.func245, Try.ntmps245
    go_upto_region 4 with (first
      | (go_at_call 241; (with_reducible refine (hst.out _).mono ?_); rintro e w' ⟨rfl, rfl⟩))
    go_quiet (fail)
    go_wp2
    go_ret2
    exact ⟨rfl, below_drewN hS.out.bel _⟩
set_option maxHeartbeats 2000000 in
set_option maxRecDepth 100000 in
theorem l02Led_any (w : World) (m : Mach) (l s : Nat) (gd : Good m l s) (base : Nat) (v : Value) (u : List Int) (hu : Own w base 2 v (ints u)) (hn : ∀ k ∈ u, isNum s k) (hul : u.length ≤ 1000) (x : Nat) (hx : x < l) :
    Calls Try.prog 180 #[.agg (mcells m), .agg (mcells (inv m l s)), v, .int .u8 x] w fun e w' => ∃ v', e = .returned (.tuple #[.int .u8 (atX m l s u x : Nat), v']) ∧ Own w' w.heap.size 2 v' (ints (atS m l s u x)) ∧ Below w.heap.size w w' := by
  have hil := ints_length u
  obtain ⟨A, c, rfl, _, _⟩ := hu.form
  rw [hil] at hu ⊢
  have hcell := hid (fun (k : Nat) (y : Int) (hy : u[k]? = some y) => (show ∃ gA, A = some ⟨gA, 0, none⟩ ∧ ∀ W, Below w.heap.size w W → W.cell? ⟨gA, k, none⟩ = some (.int .i64 y) from by
    obtain ⟨g1, c2, he, _, hg1⟩ := hu.blk (fun e => by have h1 := congrArg List.length e; rw [hil] at h1; have h2 := (List.getElem?_eq_some_iff.1 hy).1; rw [List.length_nil] at h1; omega)
    injection he with e1 e2 e3
    subst e1
    exact ⟨g1, rfl, fun W hW => (hu.below hW).cellAt k _ (by simp [ints, hy])⟩))
  have hst := hid (fun W k (hk : isNum s k) y (hy : y < l) => l02Step_any W m l s gd k hk y hy)
  have hS := ((((St.start w).newMB m 27).newMB (inv m l s) 27).newOwn [] 2 (by simp))
  simp only [heap_alloc_size, List.length_nil] at hS
  replace hS := hid hS
  have hsx := hid (fun i y (hy : u[i]? = some y) => (show u.take (i + 1) = u.take i ++ [y] from by rw [List.take_add_one, hy]; rfl))
  have hlt := hid (fun i => atX_lt gd (u.take i) x (fun k hk => hn k (List.mem_of_mem_take hk)) hx)
  have hxs := hid (fun i y => atX_snoc (m := m) (l := l) (s := s) (u.take i) y x)
  have hss := hid (fun i y => atS_snoc (m := m) (l := l) (s := s) (u.take i) y x)
  have hsl := hid (fun i (hi : i ≤ u.length) => (show (ints (atS m l s (u.take i) x)).length = i from by rw [ints_length, atS_length, List.length_take]; omega))
  have h0X := hid (show atX m l s u x = atX m l s (u.take u.length) x by rw [List.take_length])
  have h0S := hid (show atS m l s u x = atS m l s (u.take u.length) x by rw [List.take_length])
  rw [h0X.out, h0S.out]
  have l3 := gd.l3
  replace hn := hid hn
  clear hu hil h0X h0S
  replace gd := hid gd
  generalize hI : inv m l s = I at *
  replace hI := hid hI
  generalize hN : u.length = N at *
  replace hN := hid hN
  go_enter Try.func180, Try.ntmps180
  go_upto_region 2 with (fail)
  generalize ((w.alloc (.cells (mcells m) 27)).alloc (.cells (mcells I) 27)).alloc (.cells #[] 2) = W1 at *
  go_wp2
  go_loopw [3, 10, 11] (fun y o i wr => ∃ j : Nat, j ≤ N ∧ i = .int .i64 j ∧ y = .int .u8 (atX m l s (u.take j) x : Nat) ∧ St w.heap.size w [Asn.own w.heap.size 2 o (ints (atS m l s (u.take j) x)), Asn.mb 27 (w.heap.size + 1) I, Asn.mb 27 w.heap.size m] wr) (fun _ _ i _ => N - (intOf i).toNat)
  case atStart => exact ⟨0, Nat.zero_le _, rfl, rfl, hS.out⟩
  case round =>
    obtain ⟨j, hj, rfl, rfl, rS⟩ := hrel
    clear hS
    replace rS := hid rS
    by_cases hjN : j < N
    · have dc : decide ((j : Int) < (N : Int)) = true := decide_eq_true (by omega)
      obtain ⟨y, hy⟩ : ∃ y, u[j]? = some y := ⟨_, List.getElem?_eq_getElem (by rw [hN.out]; exact hjN)⟩
      obtain ⟨gA, rfl, hc⟩ := hcell.out j y hy
      have j0 : (0 : Int) ≤ (j : Int) := Int.natCast_nonneg _
      have j1 : (j : Int) < (N : Int) := by omega
      have hcl := hid (fun W => hst.out W y (hn.out y (List.mem_of_getElem? hy)) _ (hlt.out j))
      have hX := hid ((congrArg (fun t => atX m l s t x) (hsx.out j y hy)).trans (hxs.out j y))
      have hSS := hid ((congrArg (fun t => atS m l s t x) (hsx.out j y hy)).trans (hss.out j y))
      have hl2 := hid (hsl.out j hj)
      have hlx := hlt.out j
      replace hc := hid hc
      clear hy
      generalize atX m l s (u.take j) x = xj at *
      generalize atS m l s (u.take j) x = sj at *
      generalize apO m l s y xj = xo at *
      generalize apN m l s y xj = xn at *
      go_upto_region 5 with (fail)
      replace rS := hid rS.out.drew
      refine wp_region_heldL (L := [(7, (fun w' : World => MB w' 27 w.heap.size m ∧ MB w' 27 (w.heap.size + 1) I ∧ w'.cell? ⟨gA, j, none⟩ = some (.int .i64 y)))]) (by kernel_rfl) (HeldL.cons (fun _ => ⟨rS.out.m2, rS.out.m1, hc.out _ rS.out.bel⟩) HeldL.nil) (fun hHeld => ?_)
      generalize wr.drew = wa at *
      refine wpAnyL_takeP (i := 0) 7 [] (v := (.agg (mcells m))) (fun w' : World => MB w' 27 w.heap.size m ∧ MB w' 27 (w.heap.size + 1) I ∧ w'.cell? ⟨gA, j, none⟩ = some (.int .i64 y)) rfl (by kernel_rfl) (by kernel_rfl) (by kernel_rfl) (by rfl) (by kernel_rfl) (by simp) (fun _ _ _ h => h) (Or.inl ⟨by rfl, ?_⟩) (by assumption) ?_
      · (intro W hW; exact exec_load _ rfl rfl (load_run hW.1))
      intro hHeld'
      clear hHeld; have hHeld := hHeld'; clear hHeld'
      try simp only [Act.put, List.getElem_toArray, List.getElem_cons_succ, List.getElem_cons_zero, List.setIfInBounds_toArray, List.set_cons_zero, List.set_cons_succ]
      refine wpAnyL_takeP (i := 1) 7 [] (v := (.agg (mcells I))) (fun w' : World => MB w' 27 w.heap.size m ∧ MB w' 27 (w.heap.size + 1) I ∧ w'.cell? ⟨gA, j, none⟩ = some (.int .i64 y)) rfl (by kernel_rfl) (by kernel_rfl) (by kernel_rfl) (by rfl) (by kernel_rfl) (by simp) (fun _ _ _ h => h) (Or.inl ⟨by rfl, ?_⟩) (by assumption) ?_
      · (intro W hW; exact exec_load _ rfl rfl (load_run hW.2.1))
      intro hHeld'
      clear hHeld; have hHeld := hHeld'; clear hHeld'
      try simp only [Act.put, List.getElem_toArray, List.getElem_cons_succ, List.getElem_cons_zero, List.setIfInBounds_toArray, List.set_cons_zero, List.set_cons_succ]
      refine wpAnyL_take0 (i := 2) (v := ?_) rfl (by kernel_rfl) (by kernel_rfl) (by kernel_rfl) (by rfl) (fun _ _ _ h => h) (Or.inl ⟨by rfl, ?_⟩) (by assumption) ?_
      rotate_left
      · (intro W _; go_simp; (with_reducible rfl))
      intro hHeld'
      clear hHeld; have hHeld := hHeld'; clear hHeld'
      try simp only [Act.put, List.getElem_toArray, List.getElem_cons_succ, List.getElem_cons_zero, List.setIfInBounds_toArray, List.set_cons_zero, List.set_cons_succ]
      refine wpAnyL_take0 (i := 3) (v := ?_) rfl (by kernel_rfl) (by kernel_rfl) (by kernel_rfl) (by rfl) (fun _ _ _ h => h) (Or.inl ⟨by rfl, ?_⟩) (by assumption) ?_
      rotate_left
      · (intro W _; go_simp; (with_reducible rfl))
      intro hHeld'
      clear hHeld; have hHeld := hHeld'; clear hHeld'
      try simp only [Act.put, List.getElem_toArray, List.getElem_cons_succ, List.getElem_cons_zero, List.setIfInBounds_toArray, List.set_cons_zero, List.set_cons_succ]
      refine wpAnyL_take0 (i := 4) (v := ?_) rfl (by kernel_rfl) (by kernel_rfl) (by kernel_rfl) (by rfl) (fun _ _ _ h => h) (Or.inl ⟨by rfl, ?_⟩) (by assumption) ?_
      rotate_left
      · (intro W _; go_simp; (with_reducible rfl))
      intro hHeld'
      clear hHeld; have hHeld := hHeld'; clear hHeld'
      try simp only [Act.put, List.getElem_toArray, List.getElem_cons_succ, List.getElem_cons_zero, List.setIfInBounds_toArray, List.set_cons_zero, List.set_cons_succ]
      refine wpAnyL_takeP (i := 5) 7 [] (v := ?_) (fun w' : World => MB w' 27 w.heap.size m ∧ MB w' 27 (w.heap.size + 1) I ∧ w'.cell? ⟨gA, j, none⟩ = some (.int .i64 y)) rfl (by kernel_rfl) (by kernel_rfl) (by kernel_rfl) (by rfl) (by kernel_rfl) (by simp) (fun _ _ _ h => h) (Or.inl ⟨by rfl, ?_⟩) (by assumption) ?_
      rotate_left
      · (intro W hW; (obtain ⟨_, _, hW⟩ := hW); go_simp; (with_reducible rfl))
      intro hHeld'
      clear hHeld; have hHeld := hHeld'; clear hHeld'
      try simp only [Act.put, List.getElem_toArray, List.getElem_cons_succ, List.getElem_cons_zero, List.setIfInBounds_toArray, List.set_cons_zero, List.set_cons_succ]
      refine wpAnyL_take0 (i := 6) (v := ?_) rfl (by kernel_rfl) (by kernel_rfl) (by kernel_rfl) (by rfl) (fun _ _ _ h => h) (Or.inl ⟨by rfl, ?_⟩) (by assumption) ?_
      rotate_left
      · (intro W _; go_simp; (with_reducible rfl))
      intro hHeld'
      clear hHeld; have hHeld := hHeld'; clear hHeld'
      try simp only [Act.put, List.getElem_toArray, List.getElem_cons_succ, List.getElem_cons_zero, List.setIfInBounds_toArray, List.set_cons_zero, List.set_cons_succ]
      refine wpAnyL_ready (rs := [7]) (by kernel_rfl) (by simp) ?_
      refine AllReadyL.cons rfl (fun K hK => ?_) AllReadyL.nil
      go_simp
      (with_reducible refine (hcl.out _).mono ?_)
      rintro e w3 ⟨rfl, hb⟩
      replace rS := hid (rS.out.call hb)
      clear hb
      go_simp
      refine hK.out _ _ (HeldL.cons (fun h => absurd h (by decide +kernel)) HeldL.nil) (fun hHeld' => ?_)
      clear hK K hHeld; have hHeld := hHeld'; clear hHeld'
      try simp only [Act.put, List.getElem_toArray, List.getElem_cons_succ, List.getElem_cons_zero, List.setIfInBounds_toArray, List.set_cons_zero, List.set_cons_succ]
      refine wpAnyL_take0 (i := 8) (v := ?_) rfl (by kernel_rfl) (by kernel_rfl) (by kernel_rfl) (by rfl) (fun _ _ _ h => h) (Or.inl ⟨by rfl, ?_⟩) (by assumption) ?_
      rotate_left
      · (intro W _; go_simp; (with_reducible rfl))
      intro hHeld'
      clear hHeld; have hHeld := hHeld'; clear hHeld'
      try simp only [Act.put, List.getElem_toArray, List.getElem_cons_succ, List.getElem_cons_zero, List.setIfInBounds_toArray, List.set_cons_zero, List.set_cons_succ]
      refine wpAnyL_take0 (i := 9) (v := ?_) rfl (by kernel_rfl) (by kernel_rfl) (by kernel_rfl) (by rfl) (fun _ _ _ h => h) (Or.inl ⟨by rfl, ?_⟩) (by assumption) ?_
      rotate_left
      · (intro W _; go_simp; (with_reducible rfl))
      intro hHeld'
      clear hHeld; have hHeld := hHeld'; clear hHeld'
      try simp only [Act.put, List.getElem_toArray, List.getElem_cons_succ, List.getElem_cons_zero, List.setIfInBounds_toArray, List.set_cons_zero, List.set_cons_succ]
      refine wpAnyL_take0 (i := 10) (v := ?_) rfl (by kernel_rfl) (by kernel_rfl) (by kernel_rfl) (by rfl) (fun _ _ _ h => h) (Or.inl ⟨by rfl, ?_⟩) (by assumption) ?_
      rotate_left
      · (intro W _; go_simp; (with_reducible rfl))
      intro hHeld'
      clear hHeld; have hHeld := hHeld'; clear hHeld'
      try simp only [Act.put, List.getElem_toArray, List.getElem_cons_succ, List.getElem_cons_zero, List.setIfInBounds_toArray, List.set_cons_zero, List.set_cons_succ]
      refine wpAnyL_take0 (i := 11) (v := ?_) rfl (by kernel_rfl) (by kernel_rfl) (by kernel_rfl) (by rfl) (fun _ _ _ h => h) (Or.inl ⟨by rfl, ?_⟩) (by assumption) ?_
      rotate_left
      · (intro W _; go_simp; (with_reducible rfl))
      intro hHeld'
      clear hHeld; have hHeld := hHeld'; clear hHeld'
      try simp only [Act.put, List.getElem_toArray, List.getElem_cons_succ, List.getElem_cons_zero, List.setIfInBounds_toArray, List.set_cons_zero, List.set_cons_succ]
      refine wpAnyL_take0 (i := 12) (v := ?_) rfl (by kernel_rfl) (by kernel_rfl) (by kernel_rfl) (by rfl) (fun _ _ _ h => h) (Or.inl ⟨by rfl, ?_⟩) (by assumption) ?_
      rotate_left
      · (intro W _; go_simp; (with_reducible rfl))
      intro hHeld'
      clear hHeld; have hHeld := hHeld'; clear hHeld'
      try simp only [Act.put, List.getElem_toArray, List.getElem_cons_succ, List.getElem_cons_zero, List.setIfInBounds_toArray, List.set_cons_zero, List.set_cons_succ]
      refine wpAnyL_done (by kernel_rfl) ?_ _
      go_wp2_with (first
        | ((with_reducible refine gate (N := 36) rfl ?_); refine St.app 29 2 (.int .i64 0) 8 Try.underlying29 info_i64 rfl (by omega) rfl _ _ rfl _ _ rfl rS.out _ rfl rfl j hl2.out (by omega) ?_; intro gn cn w4 rS'; replace rS := hid rS'; clear rS'))
      rw [← ints_snoc, ← hSS.out] at rS
      go_roundw
      case rel => exact ⟨j + 1, by omega, by go_num, by rw [hX.out], rS.out⟩
      case measure => simp [intOf]; omega
    · obtain rfl : j = N := by omega
      have dc : decide ((j : Int) < (j : Int)) = false := decide_eq_false (by omega)
      go_wp2
      go_ret2
      exact ⟨_, rfl, rS.out.o0, rS.out.bel⟩
end Go.Proofs.Ythmcdfjijkecfaa

/- The reference's l01Own, l02Act, ImageOf, SectionOf. -/
namespace Go.Proofs.Ythmcdfjijkecfaa
open Go.RowKit
set_option linter.unusedVariables false
set_option linter.unusedSimpArgs false
-- @LONG

set_option maxHeartbeats 1000000 in
set_option maxRecDepth 100000 in
theorem l01Own_any (w : World) (base : Nat) (v : Value) (l : List Int) (h : Own w base 2 v (ints l)) (hl : l.length ≤ 1000000) :
    Calls Try.prog 243 #[v] w fun e w' => ∃ v', e = .returned v' ∧ Own w' w.heap.size 2 v' (ints l) ∧ Below w.heap.size w w' := by
  have hil := ints_length l
  have hS := hid ((St.start w).newOwn [] 2 (by simp))
  have h' := hid (h.alloc (.cells #[] 2))
  clear h
  go_enter Try.func243, Try.ntmps243
  go_wp2_with (first
    | ((with_reducible refine gate (N := 5) rfl ?_); refine St.appS 29 2 (.int .i64 0) 8 Try.underlying29 info_i64 rfl (by omega) rfl _ _ rfl _ _ rfl hS.out _ _ _ _ rfl h'.out (ints_one l) (by rw [hil]; simp; omega) ?_; intro v' w2 hS'; replace hS := hid hS'; clear hS'))
  go_ret
  exact ⟨_, rfl, by have h := hS.out.o0; rw [List.nil_append] at h; exact h, hS.out.bel⟩
set_option maxHeartbeats 2000000 in
set_option maxRecDepth 100000 in
theorem l02Act_any (w : World) (m : Mach) (l s : Nat) (gd : Good m l s) (base : Nat) (v : Value) (gw : List Int) (hgw : Own w base 2 v (ints gw)) (hn : ∀ k ∈ gw, isNum s k) (hgl : gw.length ≤ 1000) (u : List Nat) (hu : ∀ x ∈ u, x < l) (hlen : u.length ≤ 1000) :
    Calls Try.prog 176 #[.agg (mcells m), .agg (mcells (inv m l s)), v, .string (wstr u)] w fun e w' => ∃ v', e = .returned (.tuple #[.string (wstr (imgW m l s gw u)), v']) ∧ Own w' w.heap.size 2 v' (ints (secW m l s gw u)) ∧ Below w.heap.size w w' := by
  have hsz := wstr_size u
  have hbyte := hid (fun k hk => wstr_byte u k hk (fun x hx => by have := hu x hx; have := gd.l3; omega))
  have hS := (((St.start w).newMB m 27).newMB (inv m l s) 27).newOwn [] 5 (by simp)
  simp only [heap_alloc_size, List.length_nil] at hS
  replace hS := hid hS
  have hown := hid (fun W (hW : Below w.heap.size w W) => l01Own_any W base v gw (hgw.below hW) (by omega))
  have hle := hid (fun W v (u' : List Int) (h1 : Own W 0 2 v (ints u')) (h2 : ∀ k ∈ u', isNum s k) (h3 : u'.length ≤ 1000) x (hx : x < l) => l02Led_any W m l s gd 0 v u' h1 h2 h3 x hx)
  have hnum := hid (fun k => secW_num gd (u.take k) gw hn (fun x hx => hu x (List.mem_of_mem_take hx)))
  have hsl := hid (fun k => secW_length (m := m) (l := l) (s := s) (u.take k) gw)
  have hil := hid (fun k (hk : k ≤ u.length) => (show (wb (imgW m l s gw (u.take k))).length = k by rw [wb_length, imgW_length, List.length_take]; omega))
  have hse := hid (fun k x => secW_snoc (m := m) (l := l) (s := s) (u.take k) x gw)
  have him := hid (fun k x => imgW_snoc (m := m) (l := l) (s := s) (u.take k) x gw)
  have hlt := hid (fun k x (hx : x < l) => atX_lt gd (secW m l s gw (u.take k)) x (hnum.out k) hx)
  have l3 := gd.l3
  replace hu := hid hu
  replace hn := hid hn
  have h0X := hid (show imgW m l s gw u = imgW m l s gw (u.take u.length) by rw [List.take_length])
  have h0S := hid (show secW m l s gw u = secW m l s gw (u.take u.length) by rw [List.take_length])
  rw [h0X.out, h0S.out]
  clear hgw h0X h0S
  replace gd := hid gd
  generalize hI : inv m l s = I at *
  replace hI := hid hI
  generalize hws : wstr u = ws at *
  replace hws := hid hws
  generalize hN : u.length = N at *
  replace hN := hid hN
  go_enter Try.func176, Try.ntmps176
  go_upto_region 3 with (first
    | (go_at_call 243; (with_reducible refine (hown.out _ hS.out.bel).mono ?_); rintro e w2 ⟨v2, rfl, hO, hb⟩; replace hS := hid (hS.out.callOwn hb hO).f1; clear hb hO hown))
  go_wp2
  go_loopw [2, 10, 11] (fun y o i wr => ∃ j : Nat, j ≤ N ∧ i = .int .i64 j ∧ St w.heap.size w [Asn.own w.heap.size 5 o (wb (imgW m l s gw (u.take j))), Asn.own w.heap.size 2 y (ints (secW m l s gw (u.take j))), Asn.mb 27 (w.heap.size + 1) I, Asn.mb 27 w.heap.size m] wr) (fun _ _ i _ => N - (intOf i).toNat)
  case atStart => exact ⟨0, Nat.zero_le _, rfl, hS.out⟩
  case round =>
    obtain ⟨j, hj, rfl, rS⟩ := hrel
    clear hS
    replace rS := hid rS
    by_cases hjN : j < N
    · have dc : decide ((j : Int) < (N : Int)) = true := decide_eq_true (by omega)
      have hx := hu.out _ (getD_mem u j (by rw [hN.out]; exact hjN))
      have hb := hbyte.out j (by omega)
      have htk := take_snoc' u j (by rw [hN.out]; exact hjN)
      have hsn := hid ((congrArg (fun t => secW m l s gw t) htk).trans (hse.out j (u.getD j 0)))
      have hin := hid ((congrArg (fun t => imgW m l s gw t) htk).trans (him.out j (u.getD j 0)))
      have hlk := hid (hil.out j hj)
      have hcl := hid (fun W v (h1 : Own W 0 2 v (ints (secW m l s gw (u.take j)))) => hle.out W v _ h1 (hnum.out j) (by rw [hsl.out j]; exact hgl) _ hx)
      have hlx := hlt.out j _ hx
      have e2 : ((u.getD j 0 : Nat) : Int) % 256 = (u.getD j 0 : Nat) := by omega
      have e4 : IntKind.u8.wrap ((u.getD j 0 : Nat) : Int) = (u.getD j 0 : Nat) := u8_in _ (by omega)
      clear htk
      generalize imgW m l s gw (u.take j) = im at *
      generalize secW m l s gw (u.take j) = se at *
      generalize u.getD j 0 = x at *
      have e1 : 48 + (x : Int) - 48 = x := by omega
      generalize hy : atX m l s se x = y at *
      replace hy := hid hy
      have e3 : (48 + (y : Int)) % 256 = 48 + y := by omega
      have j0 : (0 : Int) ≤ (j : Int) := Int.natCast_nonneg _
      have j1 : (j : Int) < (N : Int) := by omega
      go_upto_region 6 with (fail)
      replace rS := hid rS.out.drew
      refine wp_region_heldL (L := [(7, (fun w' : World => MB w' 27 w.heap.size m ∧ MB w' 27 (w.heap.size + 1) I))]) (by kernel_rfl) (HeldL.cons (fun _ => ⟨rS.out.m3, rS.out.m2⟩) HeldL.nil) (fun hHeld => ?_)
      generalize wr.drew = wa at *
      refine wpAnyL_takeP (i := 0) 7 [] (v := (.agg (mcells m))) (fun w' : World => MB w' 27 w.heap.size m ∧ MB w' 27 (w.heap.size + 1) I) rfl (by kernel_rfl) (by kernel_rfl) (by kernel_rfl) (by rfl) (by kernel_rfl) (by simp) (fun _ _ _ h => h) (Or.inl ⟨by rfl, ?_⟩) (by assumption) ?_
      · (intro W hW; exact exec_load _ rfl rfl (load_run hW.1))
      intro hHeld'
      clear hHeld; have hHeld := hHeld'; clear hHeld'
      try simp only [Act.put, List.getElem_toArray, List.getElem_cons_succ, List.getElem_cons_zero, List.setIfInBounds_toArray, List.set_cons_zero, List.set_cons_succ]
      refine wpAnyL_takeP (i := 1) 7 [] (v := (.agg (mcells I))) (fun w' : World => MB w' 27 w.heap.size m ∧ MB w' 27 (w.heap.size + 1) I) rfl (by kernel_rfl) (by kernel_rfl) (by kernel_rfl) (by rfl) (by kernel_rfl) (by simp) (fun _ _ _ h => h) (Or.inl ⟨by rfl, ?_⟩) (by assumption) ?_
      · (intro W hW; exact exec_load _ rfl rfl (load_run hW.2))
      intro hHeld'
      clear hHeld; have hHeld := hHeld'; clear hHeld'
      try simp only [Act.put, List.getElem_toArray, List.getElem_cons_succ, List.getElem_cons_zero, List.setIfInBounds_toArray, List.set_cons_zero, List.set_cons_succ]
      refine wpAnyL_take0 (i := 2) (v := ?_) rfl (by kernel_rfl) (by kernel_rfl) (by kernel_rfl) (by rfl) (fun _ _ _ h => h) (Or.inl ⟨by rfl, ?_⟩) (by assumption) ?_
      rotate_left
      · (intro W _; go_simp; (with_reducible rfl))
      intro hHeld'
      clear hHeld; have hHeld := hHeld'; clear hHeld'
      try simp only [Act.put, List.getElem_toArray, List.getElem_cons_succ, List.getElem_cons_zero, List.setIfInBounds_toArray, List.set_cons_zero, List.set_cons_succ]
      refine wpAnyL_take0 (i := 3) (v := ?_) rfl (by kernel_rfl) (by kernel_rfl) (by kernel_rfl) (by rfl) (fun _ _ _ h => h) (Or.inl ⟨by rfl, ?_⟩) (by assumption) ?_
      rotate_left
      · (intro W _; go_simp; (with_reducible rfl))
      intro hHeld'
      clear hHeld; have hHeld := hHeld'; clear hHeld'
      try simp only [Act.put, List.getElem_toArray, List.getElem_cons_succ, List.getElem_cons_zero, List.setIfInBounds_toArray, List.set_cons_zero, List.set_cons_succ]
      refine wpAnyL_take0 (i := 4) (v := ?_) rfl (by kernel_rfl) (by kernel_rfl) (by kernel_rfl) (by rfl) (fun _ _ _ h => h) (Or.inl ⟨by rfl, ?_⟩) (by assumption) ?_
      rotate_left
      · (intro W _; go_simp; (with_reducible rfl))
      intro hHeld'
      clear hHeld; have hHeld := hHeld'; clear hHeld'
      try simp only [Act.put, List.getElem_toArray, List.getElem_cons_succ, List.getElem_cons_zero, List.setIfInBounds_toArray, List.set_cons_zero, List.set_cons_succ]
      refine wpAnyL_take0 (i := 5) (v := ?_) rfl (by kernel_rfl) (by kernel_rfl) (by kernel_rfl) (by rfl) (fun _ _ _ h => h) (Or.inl ⟨by rfl, ?_⟩) (by assumption) ?_
      rotate_left
      · (intro W _; go_simp; (with_reducible rfl))
      intro hHeld'
      clear hHeld; have hHeld := hHeld'; clear hHeld'
      try simp only [Act.put, List.getElem_toArray, List.getElem_cons_succ, List.getElem_cons_zero, List.setIfInBounds_toArray, List.set_cons_zero, List.set_cons_succ]
      refine wpAnyL_take0 (i := 6) (v := ?_) rfl (by kernel_rfl) (by kernel_rfl) (by kernel_rfl) (by rfl) (fun _ _ _ h => h) (Or.inl ⟨by rfl, ?_⟩) (by assumption) ?_
      rotate_left
      · (intro W _; go_simp; (with_reducible rfl))
      intro hHeld'
      clear hHeld; have hHeld := hHeld'; clear hHeld'
      try simp only [Act.put, List.getElem_toArray, List.getElem_cons_succ, List.getElem_cons_zero, List.setIfInBounds_toArray, List.set_cons_zero, List.set_cons_succ]
      refine wpAnyL_ready (rs := [7]) (by kernel_rfl) (by simp) ?_
      refine AllReadyL.cons rfl (fun K hK => ?_) AllReadyL.nil
      go_simp
      (with_reducible refine (hcl.out _ _ (rS.out.o1.mono (Nat.zero_le _))).mono ?_)
      rintro e w3 ⟨v', rfl, hO, hb2⟩
      replace rS := hid (rS.out.callOwn hb2 hO)
      clear hb2 hO
      go_simp
      refine hK.out _ _ (HeldL.cons (fun h => absurd h (by decide +kernel)) HeldL.nil) (fun hHeld' => ?_)
      clear hK K hHeld; have hHeld := hHeld'; clear hHeld'
      try simp only [Act.put, List.getElem_toArray, List.getElem_cons_succ, List.getElem_cons_zero, List.setIfInBounds_toArray, List.set_cons_zero, List.set_cons_succ]
      refine wpAnyL_take0 (i := 8) (v := ?_) rfl (by kernel_rfl) (by kernel_rfl) (by kernel_rfl) (by rfl) (fun _ _ _ h => h) (Or.inl ⟨by rfl, ?_⟩) (by assumption) ?_
      rotate_left
      · (intro W _; go_simp; (with_reducible rfl))
      intro hHeld'
      clear hHeld; have hHeld := hHeld'; clear hHeld'
      try simp only [Act.put, List.getElem_toArray, List.getElem_cons_succ, List.getElem_cons_zero, List.setIfInBounds_toArray, List.set_cons_zero, List.set_cons_succ]
      refine wpAnyL_take0 (i := 9) (v := ?_) rfl (by kernel_rfl) (by kernel_rfl) (by kernel_rfl) (by rfl) (fun _ _ _ h => h) (Or.inl ⟨by rfl, ?_⟩) (by assumption) ?_
      rotate_left
      · (intro W _; go_simp; (with_reducible rfl))
      intro hHeld'
      clear hHeld; have hHeld := hHeld'; clear hHeld'
      try simp only [Act.put, List.getElem_toArray, List.getElem_cons_succ, List.getElem_cons_zero, List.setIfInBounds_toArray, List.set_cons_zero, List.set_cons_succ]
      refine wpAnyL_take0 (i := 10) (v := ?_) rfl (by kernel_rfl) (by kernel_rfl) (by kernel_rfl) (by rfl) (fun _ _ _ h => h) (Or.inl ⟨by rfl, ?_⟩) (by assumption) ?_
      rotate_left
      · (intro W _; go_simp; (with_reducible rfl))
      intro hHeld'
      clear hHeld; have hHeld := hHeld'; clear hHeld'
      try simp only [Act.put, List.getElem_toArray, List.getElem_cons_succ, List.getElem_cons_zero, List.setIfInBounds_toArray, List.set_cons_zero, List.set_cons_succ]
      refine wpAnyL_take0 (i := 11) (v := ?_) rfl (by kernel_rfl) (by kernel_rfl) (by kernel_rfl) (by rfl) (fun _ _ _ h => h) (Or.inl ⟨by rfl, ?_⟩) (by assumption) ?_
      rotate_left
      · (intro W _; go_simp; (with_reducible rfl))
      intro hHeld'
      clear hHeld; have hHeld := hHeld'; clear hHeld'
      try simp only [Act.put, List.getElem_toArray, List.getElem_cons_succ, List.getElem_cons_zero, List.setIfInBounds_toArray, List.set_cons_zero, List.set_cons_succ]
      refine wpAnyL_take0 (i := 12) (v := ?_) rfl (by kernel_rfl) (by kernel_rfl) (by kernel_rfl) (by rfl) (fun _ _ _ h => h) (Or.inl ⟨by rfl, ?_⟩) (by assumption) ?_
      rotate_left
      · (intro W _; go_simp; (with_reducible rfl))
      intro hHeld'
      clear hHeld; have hHeld := hHeld'; clear hHeld'
      try simp only [Act.put, List.getElem_toArray, List.getElem_cons_succ, List.getElem_cons_zero, List.setIfInBounds_toArray, List.set_cons_zero, List.set_cons_succ]
      refine wpAnyL_done (by kernel_rfl) ?_ _
      replace rS := hid rS.out.f1
      go_wp2_with (first
        | ((with_reducible refine gate (N := 38) rfl ?_); refine St.app 22 5 (.int .u8 0) 1 Try.underlying22 info_u8 rfl (by omega) rfl _ _ rfl _ _ rfl rS.out _ rfl rfl j hlk.out (by omega) ?_; intro gn cn w4 rS'; replace rS := hid rS'; clear rS'))
      rw [← wb_snoc, ← hin.out] at rS
      replace rS := hid rS.out.f2.drop
      go_roundw
      case rel => exact ⟨j + 1, by omega, by go_num, by rw [hsn.out]; exact rS.out⟩
      case measure => simp [intOf]; omega
    · obtain rfl : j = N := by omega
      have dc : decide ((j : Int) < (j : Int)) = false := decide_eq_false (by omega)
      have hconv := rS.out.o0.conv
      go_wp2
      go_ret2
      exact ⟨_, rfl, rS.out.o1, rS.out.bel⟩
end Go.Proofs.Ythmcdfjijkecfaa
