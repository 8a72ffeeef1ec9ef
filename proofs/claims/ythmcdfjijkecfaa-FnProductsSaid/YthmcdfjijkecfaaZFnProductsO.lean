/- What the proof of FnProducts leans on, part 15 of 25. -/
import Derived.Test.YthmcdfjijkecfaaZFnProductsN
import Derived.WalkSpells
/- append(dst, src...): a slice behind another one. -/
namespace Go.Proofs.Ythmcdfjijkecfaa
open Go.RowKit
set_option linter.unusedVariables false
set_option linter.unusedSimpArgs false
-- @LONG

theorem run_append_empty {P : Program} (W : World) (t ty e : TypeId) (i : TypeInfo) (ht : P.underlying t = some (.slice e)) (hi : P.info? e = some i) (base : Nat) (v : Value) (cs : List Value) (h : Own W base e v cs) :
    (Builtin.append_ #[t, t] ty #[v, .slice none 0 0]).run P W = .ok v W := by
  obtain ⟨A, c, rfl, hc, hA⟩ := h.form
  rcases hA with ⟨rfl, rfl, rfl⟩ | ⟨g, rfl, _⟩
  · simp [Builtin.append_, run_underlying ht, sizeOf, typeInfo, hi, Builtin.lenOf, Builtin.firstCells, loadCells, loadCellsFrom]
  · simp [Builtin.append_, run_underlying ht, sizeOf, typeInfo, hi, Builtin.lenOf, Builtin.firstCells, hc, storeCells]
theorem run_append_sl {P : Program} (W : World) (t ty e : TypeId) (z : Value) (bytes : Nat) (ht : P.underlying t = some (.slice e)) (hinfo : (P.info? e).map (fun i => (i.zero, i.size, i.bytes)) = some (some z, 1, bytes)) (hz : z.cells.size = 1) (hb : bytes ≤ 64)
    (base : Nat) (v : Value) (cs : List Value) (h : Own W base e v cs) (hbase : base ≤ W.heap.size) (b2 e2 : Nat) (v2 : Value) (cs2 : List Value) (h2 : Own W b2 e2 v2 cs2) (h1 : ∀ u ∈ cs2, u.oneCell' = true) (hlen : cs.length + cs2.length ≤ 1000000000) :
    ∃ v' w', (Builtin.append_ #[t, t] ty #[v, v2]).run P W = .ok v' w' ∧ Own w' base e v' (cs ++ cs2) ∧ Below base W w' ∧ (∀ k, k < W.heap.size → v.ownBlock ≠ some k → w'.heap[k]? = W.heap[k]?) ∧ (v'.ownBlock = v.ownBlock ∨ v'.ownBlock = some W.heap.size) := by
  obtain ⟨i, hi, hz0, hz1, hz2⟩ := info_parts hinfo
  obtain ⟨A, c, rfl, hc, hA⟩ := h2.form
  rcases hA with ⟨rfl, rfl, rfl⟩ | ⟨g, rfl, _, _, hcell⟩
  · refine ⟨v, W, run_append_empty W t ty e i ht hi base v cs h, by rw [List.append_nil]; exact h, Below.refl _ _, fun _ _ _ => rfl, .inl rfl⟩
  · obtain ⟨v', w', hr, h3, h4, _, h5⟩ := run_append_own_at (P := P) W base t ty e i z 1 bytes ht hi hz0 hz1 hz2 hz (by omega) v cs.length cs h ⟨g, 0, none⟩ cs2.length c cs2 (by omega) (fun j u hu => by rw [Addr.add_mid, Nat.zero_add]; exact hcell j u hu) h1
      (by simp only [maxLen]; omega) (Nat.le_trans (Nat.mul_le_mul_left _ hb) (by omega)) hbase
    have hold : ∀ k, k < W.heap.size → v.ownBlock ≠ some k → w'.heap[k]? = W.heap[k]? := fun k hk hne => h4.block k hk (fun e => hne e.symm)
    refine ⟨v', w', hr, ?_, ⟨h4.os, h4.tape, h4.output, h4.size, fun k hk => hold k (by omega) (fun e => by have := (h.lt k e).1; omega)⟩, hold, h5⟩
    unfold Own
    rw [List.length_append]; exact h3
section
variable {ops : Array Oper} {rest : List Oper} {o : Oper} {act : Act} {W w0 : World} {Q : Exit → Act → World → Prop} {L : List Asn} {base : Nat}
theorem St.appdV {t : Nat} {v v' : Value} {cs cs' : List Value} {w w' : World} (h : St base w0 (Asn.own base t v cs :: L) w) (hO : Own w' base t v' cs') (hb : Below base w w') (hold : ∀ k, k < w.heap.size → v.ownBlock ≠ some k → w'.heap[k]? = w.heap[k]?)
    (hg : v'.ownBlock = v.ownBlock ∨ v'.ownBlock = some w.heap.size) : St base w0 (Asn.own base t v' cs' :: L) w' :=
  h.turn (a' := Asn.own base t v' cs') hO (fun k hk => by
    have hk' : v'.ownBlock = some k := hk
    rcases hg with hg | hg
    · exact .inl (hg.symm.trans hk')
    · rw [hg] at hk'; injection hk' with e; exact .inr (by omega)) (fun k hk => ((show Own w base t v cs from h.star.1).lt k hk).1) hb fun k hk hne => hold k hk hne
theorem St.appS (t e : TypeId) (z : Value) (bytes : Nat)
    (ht : Try.prog.underlying t = some (.slice e)) (hinfo : (Try.prog.info? e).map (fun i => (i.zero, i.size, i.bytes)) = some (some z, 1, bytes)) (hz : z.cells.size = 1) (hb : bytes ≤ 64)
    (hgd : o.guard = none) (s x : Operand) (ho : o.op = .call { callee := .builtin .append, args := #[s, x], argTypes := #[t, t] })
    (v : Value) (cs : List Value) (hs : act.eval s = v) (hS : St base w0 (Asn.own base e v cs :: L) W) (b2 e2 : Nat) (v2 : Value) (cs2 : List Value) (hx : act.eval x = v2) (h2 : Own W b2 e2 v2 cs2) (h1 : ∀ u ∈ cs2, u.oneCell' = true) (hlen : cs.length + cs2.length ≤ 1000000000)
    (h : ∀ v' w', St base w0 (Asn.own base e v' (cs ++ cs2) :: L) w' → wpList Try.prog ops Q rest (act.put o.dst v') w') : wpList Try.prog ops Q (o :: rest) act W := by
  obtain ⟨v', w', hr, h3, h4, h5, h6⟩ := run_append_sl (P := Try.prog) W t o.type e z bytes ht hinfo hz hb base v cs hS.star.1 hS.le b2 e2 v2 cs2 h2 h1 hlen
  refine wpList_plain hgd fun K hK => ?_
  unfold Oper.wp execOp
  simp only [ho, resolve, invoke, builtin, Sem.run_bind, Sem.run_pure, Result.andThen_ok, List.map_toArray, List.map_cons, List.map_nil, hs, hx, hr]
  exact hK _ _ (h v' w' (hS.appdV h3 h4 h5 h6))
end
theorem ints_one (l : List Int) : ∀ u ∈ ints l, u.oneCell' = true := fun u hu => by
  obtain ⟨x, _, rfl⟩ := List.mem_map.1 hu
  rfl

set_option maxHeartbeats 1000000 in
set_option maxRecDepth 100000 in
theorem clone_any (w : World) (base : Nat) (v : Value) (l : List Int) (h : Own w base 2 v (ints l)) (hl : l.length ≤ 1000000) :
    Calls Try.prog 178 #[v] w fun e w' => ∃ v', e = .returned v' ∧ Own w' w.heap.size 2 v' (ints l) ∧ Below w.heap.size w w' := by
  have hil := ints_length l
  have hnil := fun (W : World) (a : Option Addr) (n c : Nat) => Lib.run_eql_slice_nil (P := Try.prog) W 29 2 a n c 0 0 Try.underlying29
  obtain ⟨A, c, rfl, _, hA⟩ := h.form
  rw [hil] at h ⊢
  rcases hA with ⟨rfl, h0, rfl⟩ | ⟨g, rfl, _⟩
  · have hl0 : l = [] := by rw [← List.length_eq_zero_iff, ← hil, h0]; rfl
    subst hl0
    clear h
    go_enter Try.func178, Try.ntmps178
    go_wp2
    go_ret
    exact ⟨_, rfl, Own.nil _ _ _, Below.refl _ _⟩
  · have hS := hid ((St.start w).newOwn [] 2 (by simp))
    have h' := hid (h.alloc (.cells #[] 2))
    clear h
    go_enter Try.func178, Try.ntmps178
    go_wp2_with (first
      | ((with_reducible refine gate (N := 7) rfl ?_); refine St.appS 29 2 (.int .i64 0) 8 Try.underlying29 info_i64 rfl (by omega) rfl _ _ rfl _ _ rfl hS.out _ _ _ _ rfl h'.out (ints_one l) (by rw [hil]; simp; omega) ?_; intro v' w2 hS'; replace hS := hid hS'; clear hS'))
    go_ret
    exact ⟨_, rfl, by have h := hS.out.o0; rw [List.nil_append] at h; exact h, hS.out.bel⟩
end Go.Proofs.Ythmcdfjijkecfaa

/- ImageOf, SectionOf, PeriodOfWord: the program's side. -/
namespace Go.Proofs.Ythmcdfjijkecfaa
open Go.RowKit
set_option linter.unusedVariables false
set_option linter.unusedSimpArgs false
-- @LONG

/-- The letters of a text. -/
def lets (ws : ByteArray) : List Nat := ws.data.toList.map fun b => b.toNat - 48
theorem lets_wstr {l : Nat} (ws : ByteArray) (h : IsWd l ws) : ws = wstr (lets ws) ∧ (∀ x ∈ lets ws, x < l) ∧ (lets ws).length ≤ 40 := by
  have e : ws = wstr (lets ws) := wstr_of_bytes ws fun k hk => (h.2 k hk).1
  refine ⟨e, fun x hx => ?_, by unfold lets; rw [List.length_map, Array.length_toList]; exact h.1⟩
  obtain ⟨b, hb, rfl⟩ := List.mem_map.1 hx
  obtain ⟨k, hk, rfl⟩ := List.getElem_of_mem hb
  have hk' : k < ws.size := by simpa using hk
  have h2 := (h.2 k hk').2
  have h1 := (h.2 k hk').1
  have e2 : (ws[k]'hk').toNat = (ws.data.toList[k]).toNat := by simp [ByteArray.getElem_eq_getElem_data]
  omega
theorem IsGw.parts {m : Mach} {l s : Nat} {g : List Int} (gd : Good m l s) (h : IsGw m g) : g.length ≤ 40 ∧ ∀ k ∈ g, isNum s k := by
  have e : m.S.toNat = s := by rw [gd.S]; rfl
  have := h.2
  rw [e] at this; exact this
theorem mat_one {w : World} {b : Nat} {v r : Value} {l : List Int} (hO : Own w b 29 v [r]) (hr : Own w b 2 r (ints l)) : Mat w b v [l] :=
  ⟨[r], hO, rfl, fun i r' l' h1 h2 => by
    cases i with
    | zero => simp at h1 h2; subst h1; subst h2; exact hr
    | succ i => simp at h1⟩
/-- What is asked of a group word and a word: 0, or no group word, or no word. -/
theorem gw_cases (m : Mach) (g : List Int) (ws : ByteArray) : (¬ IsM m ∨ ¬ IsGw m g) ∨ (∃ l s, Good m l s ∧ IsGw m g ∧ ¬ IsWd l ws) ∨ ∃ l s, Good m l s ∧ IsGw m g ∧ IsWd l ws := by
  by_cases h : IsGw m g
  · obtain ⟨l, s, gd⟩ := h.1.good
    by_cases hw : IsWd l ws
    · exact .inr (.inr ⟨l, s, gd, h, hw⟩)
    · exact .inr (.inl ⟨l, s, gd, h, hw⟩)
  · exact .inl (.inr h)
open Classical in
noncomputable def imgAns (m : Mach) (g : List Int) (ws : ByteArray) : ByteArray × Int := if IsGw m g ∧ IsWd m.L ws then (wstr (imgW m m.L.toNat m.S.toNat g (lets ws)), 0) else ({ data := #[] }, 1)
open Classical in
noncomputable def secAns (m : Mach) (g : List Int) (ws : ByteArray) : List Int × Int := if IsGw m g ∧ IsWd m.L ws then (secW m m.L.toNat m.S.toNat g (lets ws), 0) else ([], 1)
section
variable {m : Mach} {l s : Nat} {g : List Int} {ws : ByteArray}
theorem imgAns_1 (h : ¬ IsGw m g) : imgAns m g ws = ({ data := #[] }, 1) := by unfold imgAns; rw [if_neg (fun k => h k.1)]
theorem imgAns_w (gd : Good m l s) (h : ¬ IsWd l ws) : imgAns m g ws = ({ data := #[] }, 1) := by unfold imgAns; rw [gd.L, if_neg (fun k => h k.2)]
theorem imgAns_0 (gd : Good m l s) (h : IsGw m g) (hw : IsWd l ws) : imgAns m g ws = (wstr (imgW m l s g (lets ws)), 0) := by unfold imgAns; rw [gd.L, gd.S, if_pos ⟨h, hw⟩]; rfl
theorem secAns_1 (h : ¬ IsGw m g) : secAns m g ws = ([], 1) := by unfold secAns; rw [if_neg (fun k => h k.1)]
theorem secAns_w (gd : Good m l s) (h : ¬ IsWd l ws) : secAns m g ws = ([], 1) := by unfold secAns; rw [gd.L, if_neg (fun k => h k.2)]
theorem secAns_0 (gd : Good m l s) (h : IsGw m g) (hw : IsWd l ws) : secAns m g ws = (secW m l s g (lets ws), 0) := by unfold secAns; rw [gd.L, gd.S, if_pos ⟨h, hw⟩]; rfl
end

set_option maxHeartbeats 2000000 in
set_option maxRecDepth 4000 in
theorem implImg_any (w : World) (m : Mach) (hkm : m.Ok) (b0 : Nat) (v : Value) (g : List Int) (hg : Own w b0 2 v (ints g)) (hl : g.length < 2000000) (ws : ByteArray) (hws : ws.size < 1000000000000) :
    Calls Try.prog 63 #[.agg (mcells m), v, .string ws] w fun e w' => e = .returned (.tuple #[.string (imgAns m g ws).1, .int .i64 (imgAns m g ws).2]) ∧ Below w.heap.size w w' := by
  obtain ⟨A0, cp0, rfl, _, _⟩ := hg.form
  rw [ints_length] at hg ⊢
  by_cases hbad : ¬ IsGw m g
  · rw [imgAns_1 hbad]
    have hS := hid ((St.arg w hg).newMB m 27)
    have hown := hid (hS.out.newOwn [(Value.slice A0 g.length cp0)] 29 (by simp))
    simp only [heap_alloc_size, List.length_cons, List.length_nil, Nat.zero_add] at hown
    have hgo := hid (fun W b vv (hO : Own W b 29 vv [(Value.slice A0 g.length cp0)]) (hr : Own W b 2 (Value.slice A0 g.length cp0) (ints g)) => groupOf_n W m hkm b vv [g] (mat_one hO hr) (by simp) (by simp; omega) (.inr ⟨g, by simp, hbad⟩))
    replace hkm := hid hkm; replace hg := hid hg; replace hbad := hid hbad
    go_enter Try.func63, Try.ntmps63
    go_wp2_with (first
      | ((with_reducible refine gate (N := 13) rfl ?_); refine load_mach rfl _ rfl w.heap.size rfl m hS.out.m0 ?_)
      | (go_at_call 167; (with_reducible refine (hgo.out _ _ _ (hown.out.o0.mono (Nat.zero_le _)) hown.out.o2).mono ?_); rintro e w1 ⟨rfl, hb⟩; replace hS := hid (hown.out.call hb); clear hgo hown; clear hb))
    go_ret2
    exact ⟨rfl, hS.out.bel⟩
  · have hgw := Classical.not_not.1 hbad
    obtain ⟨l, s, gd⟩ := hgw.1.good
    obtain ⟨hgl, hgn⟩ := hgw.parts gd
    have hS := hid ((St.arg w hg).newMB m 27)
    have hown := hid (hS.out.newOwn [(Value.slice A0 g.length cp0)] 29 (by simp))
    simp only [heap_alloc_size, List.length_cons, List.length_nil, Nat.zero_add] at hown
    have hgo := hid (fun W b vv (hO : Own W b 29 vv [(Value.slice A0 g.length cp0)]) (hr : Own W b 2 (Value.slice A0 g.length cp0) (ints g)) => groupOf_y W m hkm b vv [g] (mat_one hO hr) (by simp) (by simp; omega) l s gd (by simp; exact hgw))
    have hL := hid gd.L
    by_cases hw : IsWd l ws
    · rw [imgAns_0 gd hgw hw]
      obtain ⟨hwe, hwl, hw40⟩ := lets_wstr ws hw
      have hwd := hid (fun W => isWord_any (l : Int) (by have := gd.l2; omega) (by have := gd.l3; omega) ws hws true ⟨fun _ => hw, fun _ => rfl⟩ W)
      have him := hid (fun W G v1 v2 (hG : GM W G m l s v1 v2) (hO : Own W 0 2 (Value.slice A0 g.length cp0) (ints g)) => (by have h := image_any W G m l s gd v1 v2 hG 0 (Value.slice A0 g.length cp0) g hO hgn (by omega) (lets ws) hwl (by omega); rw [← hwe] at h; exact h : Calls Try.prog 174 #[.pointer (some ⟨G, 0, none⟩), (Value.slice A0 g.length cp0), .string ws] W fun e w' => ∃ v', e = .returned (.tuple #[.string (wstr (imgW m l s g (lets ws))), v']) ∧ Own w' 0 2 v' (ints (secW m l s g (lets ws))) ∧ Below W.heap.size W w'))
      replace hkm := hid hkm; replace hg := hid hg; replace hgw := hid hgw; replace gd := hid gd; replace hwe := hid hwe
      clear hbad
      generalize wstr (imgW m l s g (lets ws)) = ans at *
      go_enter Try.func63, Try.ntmps63
      go_wp2_with (first
        | ((with_reducible refine gate (N := 13) rfl ?_); refine load_mach rfl _ rfl w.heap.size rfl m hS.out.m0 ?_)
        | (go_at_call 167; (with_reducible refine (hgo.out _ _ _ (hown.out.o0.mono (Nat.zero_le _)) hown.out.o2).mono ?_); rintro e w1 ⟨G, v1, v2, rfl, hle, hGB, hb⟩; have hGM := hid hGB.gm; replace hS := hid (hown.out.call hb); have cL := hS.out.m1.cL; rw [hL.out] at cL; clear hgo hb hGB hle hown)
        | (go_at_call 130; (with_reducible refine (hwd.out _).mono ?_); rintro e w' ⟨rfl, rfl⟩)
        | (go_at_call 174; (with_reducible refine (him.out _ _ _ _ hGM.out hS.out.o2).mono ?_); rintro e w2 ⟨v', rfl, hO, hb⟩; replace hS := hid (hS.out.call hb); clear hb hO))
      go_ret2
      exact ⟨rfl, hS.out.bel⟩
    · rw [imgAns_w gd hw]
      have hwd := hid (fun W => isWord_any (l : Int) (by have := gd.l2; omega) (by have := gd.l3; omega) ws hws false ⟨fun h => (by cases h), fun h => absurd h hw⟩ W)
      replace hkm := hid hkm; replace hg := hid hg; replace hgw := hid hgw; replace gd := hid gd
      clear hbad
      go_enter Try.func63, Try.ntmps63
      go_wp2_with (first
        | ((with_reducible refine gate (N := 13) rfl ?_); refine load_mach rfl _ rfl w.heap.size rfl m hS.out.m0 ?_)
        | (go_at_call 167; (with_reducible refine (hgo.out _ _ _ (hown.out.o0.mono (Nat.zero_le _)) hown.out.o2).mono ?_); rintro e w1 ⟨G, v1, v2, rfl, hle, hGB, hb⟩; replace hS := hid (hown.out.call hb); have cL := hS.out.m1.cL; rw [hL.out] at cL; clear hgo hb hGB hle)
        | (go_at_call 130; (with_reducible refine (hwd.out _).mono ?_); rintro e w' ⟨rfl, rfl⟩))
      go_ret2
      exact ⟨rfl, hS.out.bel⟩
set_option maxHeartbeats 2000000 in
set_option maxRecDepth 4000 in
theorem implSec_any (w : World) (m : Mach) (hkm : m.Ok) (b0 : Nat) (v : Value) (g : List Int) (hg : Own w b0 2 v (ints g)) (hl : g.length < 2000000) (ws : ByteArray) (hws : ws.size < 1000000000000) :
    Calls Try.prog 65 #[.agg (mcells m), v, .string ws] w fun e w' => ∃ v', e = .returned (.tuple #[v', .int .i64 (secAns m g ws).2]) ∧ Own w' w.heap.size 2 v' (ints (secAns m g ws).1) ∧ Below w.heap.size w w' := by
  obtain ⟨A0, cp0, rfl, _, _⟩ := hg.form
  rw [ints_length] at hg ⊢
  by_cases hbad : ¬ IsGw m g
  · rw [secAns_1 hbad]
    have hS := hid ((St.arg w hg).newMB m 27)
    have hown := hid (hS.out.newOwn [(Value.slice A0 g.length cp0)] 29 (by simp))
    simp only [heap_alloc_size, List.length_cons, List.length_nil, Nat.zero_add] at hown
    have hgo := hid (fun W b vv (hO : Own W b 29 vv [(Value.slice A0 g.length cp0)]) (hr : Own W b 2 (Value.slice A0 g.length cp0) (ints g)) => groupOf_n W m hkm b vv [g] (mat_one hO hr) (by simp) (by simp; omega) (.inr ⟨g, by simp, hbad⟩))
    replace hkm := hid hkm; replace hg := hid hg; replace hbad := hid hbad
    go_enter Try.func65, Try.ntmps65
    go_wp2_with (first
      | ((with_reducible refine gate (N := 13) rfl ?_); refine load_mach rfl _ rfl w.heap.size rfl m hS.out.m0 ?_)
      | (go_at_call 167; (with_reducible refine (hgo.out _ _ _ (hown.out.o0.mono (Nat.zero_le _)) hown.out.o2).mono ?_); rintro e w1 ⟨rfl, hb⟩; replace hS := hid (hown.out.call hb); clear hgo hown; clear hb))
    go_ret2
    exact ⟨_, rfl, Own.nil _ _ _, hS.out.bel⟩
  · have hgw := Classical.not_not.1 hbad
    obtain ⟨l, s, gd⟩ := hgw.1.good
    obtain ⟨hgl, hgn⟩ := hgw.parts gd
    have hS := hid ((St.arg w hg).newMB m 27)
    have hown := hid (hS.out.newOwn [(Value.slice A0 g.length cp0)] 29 (by simp))
    simp only [heap_alloc_size, List.length_cons, List.length_nil, Nat.zero_add] at hown
    have hgo := hid (fun W b vv (hO : Own W b 29 vv [(Value.slice A0 g.length cp0)]) (hr : Own W b 2 (Value.slice A0 g.length cp0) (ints g)) => groupOf_y W m hkm b vv [g] (mat_one hO hr) (by simp) (by simp; omega) l s gd (by simp; exact hgw))
    have hL := hid gd.L
    by_cases hw : IsWd l ws
    · rw [secAns_0 gd hgw hw]
      obtain ⟨hwe, hwl, hw40⟩ := lets_wstr ws hw
      have hwd := hid (fun W => isWord_any (l : Int) (by have := gd.l2; omega) (by have := gd.l3; omega) ws hws true ⟨fun _ => hw, fun _ => rfl⟩ W)
      have him := hid (fun W G v1 v2 (hG : GM W G m l s v1 v2) (hO : Own W 0 2 (Value.slice A0 g.length cp0) (ints g)) => (by have h := image_any W G m l s gd v1 v2 hG 0 (Value.slice A0 g.length cp0) g hO hgn (by omega) (lets ws) hwl (by omega); rw [← hwe] at h; exact h : Calls Try.prog 174 #[.pointer (some ⟨G, 0, none⟩), (Value.slice A0 g.length cp0), .string ws] W fun e w' => ∃ v', e = .returned (.tuple #[.string (wstr (imgW m l s g (lets ws))), v']) ∧ Own w' 0 2 v' (ints (secW m l s g (lets ws))) ∧ Below W.heap.size W w'))
      have hse := hid (show (secW m l s g (lets ws)).length ≤ 1000000 by rw [secW_length]; omega)
      replace hkm := hid hkm; replace hg := hid hg; replace hgw := hid hgw; replace gd := hid gd; replace hwe := hid hwe
      clear hbad
      generalize wstr (imgW m l s g (lets ws)) = ans at *
      generalize secW m l s g (lets ws) = se at *
      have hcl := hid (fun W vq (hO : Own W 0 2 vq (ints se)) => clone_any W 0 vq se hO hse.out)
      go_enter Try.func65, Try.ntmps65
      go_wp2_with (first
        | ((with_reducible refine gate (N := 13) rfl ?_); refine load_mach rfl _ rfl w.heap.size rfl m hS.out.m0 ?_)
        | (go_at_call 167; (with_reducible refine (hgo.out _ _ _ (hown.out.o0.mono (Nat.zero_le _)) hown.out.o2).mono ?_); rintro e w1 ⟨G, v1, v2, rfl, hle, hGB, hb⟩; have hGM := hid hGB.gm; replace hS := hid (hown.out.call hb); have cL := hS.out.m1.cL; rw [hL.out] at cL; clear hgo hb hGB hle hown)
        | (go_at_call 130; (with_reducible refine (hwd.out _).mono ?_); rintro e w' ⟨rfl, rfl⟩)
        | (go_at_call 174; (with_reducible refine (him.out _ _ _ _ hGM.out hS.out.o2).mono ?_); rintro e w2 ⟨v', rfl, hO, hb⟩; replace hS := hid (hS.out.call hb); replace hO := hid hO; clear hb)
        | (go_at_call 178; (with_reducible refine (hcl.out _ _ hO.out).mono ?_); rintro e w3 ⟨v3, rfl, hO3, hb⟩; replace hS := hid (hS.out.callOwn hb hO3); clear hb hO3 hO))
      go_ret2
      exact ⟨_, rfl, hS.out.o0, hS.out.bel⟩
    · rw [secAns_w gd hw]
      have hwd := hid (fun W => isWord_any (l : Int) (by have := gd.l2; omega) (by have := gd.l3; omega) ws hws false ⟨fun h => (by cases h), fun h => absurd h hw⟩ W)
      replace hkm := hid hkm; replace hg := hid hg; replace hgw := hid hgw; replace gd := hid gd
      clear hbad
      go_enter Try.func65, Try.ntmps65
      go_wp2_with (first
        | ((with_reducible refine gate (N := 13) rfl ?_); refine load_mach rfl _ rfl w.heap.size rfl m hS.out.m0 ?_)
        | (go_at_call 167; (with_reducible refine (hgo.out _ _ _ (hown.out.o0.mono (Nat.zero_le _)) hown.out.o2).mono ?_); rintro e w1 ⟨G, v1, v2, rfl, hle, hGB, hb⟩; replace hS := hid (hown.out.call hb); have cL := hS.out.m1.cL; rw [hL.out] at cL; clear hgo hb hGB hle)
        | (go_at_call 130; (with_reducible refine (hwd.out _).mono ?_); rintro e w' ⟨rfl, rfl⟩))
      go_ret2
      exact ⟨_, rfl, Own.nil _ _ _, hS.out.bel⟩
end Go.Proofs.Ythmcdfjijkecfaa

/- Machines, compared by ==; and the machine of a state of a table is of bytes, and a machine again. -/
namespace Go.Proofs.Ythmcdfjijkecfaa
open Go.RowKit
set_option linter.unusedVariables false
set_option linter.unusedSimpArgs false

theorem cells_b48 : Try.prog.cellsOf 25 = 48 := by kernel_rfl
theorem cells_mach : Try.prog.cellsOf 27 = 98 := by kernel_rfl
theorem cells_i64 : Try.prog.cellsOf 2 = 1 := by kernel_rfl
theorem wf_i64s (a : Nat) (h : a < 1000000) : (Lit.int .i64 (a : Int)).wf = true := by
  have h0 : IntKind.i64.min = -9223372036854775808 := by decide
  have h1 : IntKind.i64.max = 9223372036854775807 := by decide
  simp [Lit.wf, IntKind.has, h0, h1]; omega
theorem lits_i64 (d : Nat) (a : Nat) (h : a < 1000000) : Try.prog.keyLits (d + 1) 2 [.int .i64 (a : Int)] = some [.int .i64 (a : Int)] := by
  unfold Program.keyLits
  rw [Try.underlying2]
  simp [wf_i64s a h]
theorem mapM_all {α β : Type} (F : α → Option β) (G : α → β) : ∀ l : List α, (∀ a ∈ l, F a = some (G a)) → l.mapM F = some (l.map G)
  | [], _ => rfl
  | a :: l, h => by
    rw [List.mapM_cons, h a (by simp), mapM_all F G l (fun b hb => h b (by simp [hb]))]
    rfl
def lrow3 (f : Nat → Nat) (i : Nat) : List Lit := [.int .u8 (f (i * 3) : Nat), .int .u8 (f (i * 3 + 1) : Nat), .int .u8 (f (i * 3 + 2) : Nat)]
def lit48 (f : Nat → Nat) : List Lit := ((List.range 16).map (lrow3 f)).flatten
theorem cut3 {α : Type} (g : Nat → α) (i : Nat) (h : i < 16) : (((List.range 48).map g).drop (i * 3)).take 3 = [g (i * 3), g (i * 3 + 1), g (i * 3 + 2)] := by
  apply List.ext_getElem?
  intro n
  rw [List.getElem?_take]
  rcases n with _ | _ | _ | n
  · rw [if_pos (by omega), List.getElem?_drop, List.getElem?_map, List.getElem?_range (by omega)]; rfl
  · rw [if_pos (by omega), List.getElem?_drop, List.getElem?_map, List.getElem?_range (by omega)]; rfl
  · rw [if_pos (by omega), List.getElem?_drop, List.getElem?_map, List.getElem?_range (by omega)]; rfl
  · rw [if_neg (by omega)]; rfl
theorem lits_b48 (d : Nat) (f : Nat → Nat) (h : ∀ i, f i < 256) : Try.prog.keyLits (d + 3) 25 ((List.range 48).map fun i => .int .u8 (f i : Nat)) = some (lit48 f) := by
  unfold Program.keyLits
  rw [Try.underlying25]
  simp only [cells_b48, List.length_map, List.length_range, cells_b3, if_true]
  rw [mapM_all _ (lrow3 f)]
  · rfl
  · intro i hi
    rw [List.mem_range] at hi
    rw [cut3 _ i hi]
    exact lits_b3 d _ _ _ (h _) (h _) (h _)
theorem flat3_inj (f g : Nat → Nat) : ∀ l : List Nat, (l.map (lrow3 f)).flatten = (l.map (lrow3 g)).flatten ↔ ∀ i ∈ l, lrow3 f i = lrow3 g i
  | [] => by simp
  | a :: l => by
    simp only [List.map_cons, List.flatten_cons, List.mem_cons, forall_eq_or_imp]
    rw [← flat3_inj f g l]
    exact ⟨fun h => List.append_inj h rfl, fun h => by rw [h.1, h.2]⟩
theorem lit48_inj (f g : Nat → Nat) (h : lit48 f = lit48 g) : ∀ i, i < 48 → f i = g i := fun i hi => by
  have := (flat3_inj f g _).1 h (i / 3) (List.mem_range.2 (by omega))
  simp only [lrow3, List.cons.injEq, Lit.int.injEq, true_and, and_true, Int.natCast_inj] at this
  obtain ⟨h0, h1, h2⟩ := this
  rcases (show i = i / 3 * 3 ∨ i = i / 3 * 3 + 1 ∨ i = i / 3 * 3 + 2 by omega) with e | e | e
  · rw [e]; exact h0
  · rw [e]; exact h1
  · rw [e]; exact h2
theorem mcells_list (m : Mach) : (mcells m).toList = [.int .i64 m.L] ++ ([.int .i64 m.S] ++ (((List.range 48).map fun i => .int .u8 (m.nx i : Nat)) ++ ((List.range 48).map fun i => .int .u8 (m.ot i : Nat)))) := by
  apply List.ext_getElem?
  intro n
  rw [Array.getElem?_toList]
  by_cases h : n < 98
  · rw [mcells_get m n h]
    rcases n with _ | _ | n
    · rfl
    · rfl
    · rw [List.getElem?_append_right (by simp), List.getElem?_append_right (by simp)]
      simp only [List.length_cons, List.length_nil]
      rw [show n + 1 + 1 - (0 + 1) - (0 + 1) = n by omega]
      by_cases hn : n < 48
      · rw [List.getElem?_append_left (by simpa using hn)]
        simp [mf, hn]; omega
      · rw [List.getElem?_append_right (by simp; omega)]
        simp only [List.length_map, List.length_range]
        rw [List.getElem?_map, List.getElem?_range (by omega)]
        unfold mf
        rw [if_neg (by omega), if_neg (by omega), if_neg (by omega), show n + 1 + 1 - 50 = n - 48 by omega]
        rfl
  · rw [Array.getElem?_eq_none (by rw [size_mcells]; omega), List.getElem?_eq_none (by simp; omega)]
def mlits (a b : Nat) (m : Mach) : List Lit := [.int .i64 (a : Int)] ++ ([.int .i64 (b : Int)] ++ (lit48 m.nx ++ lit48 m.ot))
set_option maxRecDepth 4000 in
theorem lits_mach (d : Nat) (m : Mach) (hk : m.Ok) (a b : Nat) (ha : m.L = a) (hb : m.S = b) (ha' : a < 1000000) (hb' : b < 1000000) : Try.prog.keyLits (d + 4) 27 (mcells m).toList = some (mlits a b m) := by
  have hlen : (mcells m).toList.length = 98 := by rw [Array.length_toList, size_mcells]
  have hc := mcells_list m
  rw [ha, hb] at hc
  have hN : ((List.range 48).map fun i => Value.int .u8 (m.nx i : Nat)).length = 48 := by simp
  have hO : ((List.range 48).map fun i => Value.int .u8 (m.ot i : Nat)).length = 48 := by simp
  have kN := lits_b48 d m.nx (fun i => (hk i).1)
  have kO := lits_b48 d m.ot (fun i => (hk i).2)
  generalize (List.range 48).map (fun i => Value.int .u8 (m.nx i : Nat)) = N at *
  generalize (List.range 48).map (fun i => Value.int .u8 (m.ot i : Nat)) = O at *
  unfold Program.keyLits
  rw [Try.underlying27]
  simp only [hlen, cells_mach, if_true, true_and]
  rw [if_pos (by decide +kernel)]
  rw [hc]
  simp only [List.mapM_cons, List.mapM_nil, cells_i64, cells_b48]
  have e0 : ([Value.int .i64 (a : Int)] ++ ([Value.int .i64 (b : Int)] ++ (N ++ O))).drop 2 = N ++ O := rfl
  have e1 : ([Value.int .i64 (a : Int)] ++ ([Value.int .i64 (b : Int)] ++ (N ++ O))).drop 50 = O := by
    show (N ++ O).drop 48 = O
    rw [List.drop_append_of_le_length (by omega), List.drop_of_length_le (by omega), List.nil_append]
  have e2 : (N ++ O).take 48 = N := by rw [List.take_append_of_le_length (by omega), List.take_of_length_le (by omega)]
  have e3 : O.take 48 = O := List.take_of_length_le (by omega)
  have e4 : (([Value.int .i64 (a : Int)] ++ ([Value.int .i64 (b : Int)] ++ (N ++ O))).drop 0).take 1 = [Value.int .i64 (a : Int)] := rfl
  have e5 : (([Value.int .i64 (a : Int)] ++ ([Value.int .i64 (b : Int)] ++ (N ++ O))).drop 1).take 1 = [Value.int .i64 (b : Int)] := rfl
  rw [e0, e1, e2, e3, e4, e5, lits_i64 _ a ha', lits_i64 _ b hb', kN, kO]
  simp [mlits]
theorem mlits_inj {a b a' b' : Nat} {m k : Mach} (ha : m.L = a) (hb : m.S = b) (ha' : k.L = a') (hb' : k.S = b') : mlits a b m = mlits a' b' k ↔ mcells m = mcells k := by
  constructor
  · intro h
    unfold mlits at h
    have l1 : (lit48 m.nx).length = 48 := rfl
    have l2 : (lit48 k.nx).length = 48 := rfl
    have h1 := List.append_inj h rfl
    have h2 := List.append_inj h1.2 rfl
    have h3 := List.append_inj h2.2 (by rw [l1, l2])
    have i1 := lit48_inj _ _ h3.1
    have i2 := lit48_inj _ _ h3.2
    have e1 : a = a' := by have := h1.1; simp at this; omega
    have e2 : b = b' := by have := h2.1; simp at this; omega
    unfold mcells
    congr 1
    apply List.map_congr_left
    intro i hi
    rw [List.mem_range] at hi
    unfold mf
    rw [ha, hb, ha', hb', e1, e2]
    split
    · rfl
    · split
      · rfl
      · split
        · rw [i1 _ (by omega)]
        · rw [i2 _ (by omega)]
  · intro h
    have g : ∀ i, i < 98 → mf m i = mf k i := fun i hi => by
      have := mcells_get m i hi
      rw [h, mcells_get k i hi] at this
      exact (Option.some.inj this).symm
    have e1 : a = a' := by have := g 0 (by omega); simp [mf, ha, ha'] at this; omega
    have e2 : b = b' := by have := g 1 (by omega); simp [mf, hb, hb'] at this; omega
    have i1 : ∀ i, i < 48 → m.nx i = k.nx i := fun i hi => by
      have := g (i + 2) (by omega)
      unfold mf at this
      rw [if_neg (by omega), if_neg (by omega), if_pos (by omega), if_neg (by omega), if_neg (by omega), if_pos (by omega)] at this
      simp at this
      omega
    have i2 : ∀ i, i < 48 → m.ot i = k.ot i := fun i hi => by
      have := g (i + 50) (by omega)
      unfold mf at this
      rw [if_neg (by omega), if_neg (by omega), if_neg (by omega), if_neg (by omega), if_neg (by omega), if_neg (by omega)] at this
      simp at this
      omega
    unfold mlits lit48
    rw [e1, e2]
    congr 3
    · congr 1
      apply List.map_congr_left
      intro i hi
      rw [List.mem_range] at hi
      unfold lrow3
      rw [i1 _ (by omega), i1 _ (by omega), i1 _ (by omega)]
    · congr 1
      apply List.map_congr_left
      intro i hi
      rw [List.mem_range] at hi
      unfold lrow3
      rw [i2 _ (by omega), i2 _ (by omega), i2 _ (by omega)]
/-- Two machines. -/
theorem eq_mach (w : World) (m k : Mach) (hm : m.Ok) (hk : k.Ok) (a b a' b' : Nat) (ha : m.L = a) (hb : m.S = b) (ha' : k.L = a') (hb' : k.S = b') (la : a < 1000000) (lb : b < 1000000) (la' : a' < 1000000) (lb' : b' < 1000000) (r : Bool) (hr : Tells r (mcells m = mcells k)) :
    (Op.equalIn 10000 27 (.agg (mcells m)) (.agg (mcells k))).run Try.prog w = .ok r w := by
  have hf : ∀ m : Mach, (Value.agg (mcells m)).formed Try.prog 27 = true := fun m => by
    simp [Value.formed, Try.underlying27, cells_mach, size_mcells]
  obtain ⟨q, hq, hi⟩ := run_equalIn_deep (P := Try.prog) 9995 5 27 key_mach w 4 4 _ _ _ _ (hf m) (hf k) (lits_mach 0 m hm a b ha hb la lb) (lits_mach 0 k hk a' b' ha' hb' la' lb')
  have e : q = r := by
    rw [Bool.eq_iff_iff, hi, hr.out, mlits_inj ha hb ha' hb']
  rw [← e]
  exact hq

section
variable {T : Tab}
/-- The machine of a state of a table. -/
theorem fin_lt (hT : T.Ok) {q : Nat} (hq : q < T.n) {s : Nat} (hs : s ∈ fin T (fix T) q) : s < T.n := (bfs_uniq hT (fun q hq => fix_lt q hq) q hq T.n).2 s hs
theorem gth_nx (hT : T.Ok) {q : Nat} (hq : q < T.n) (p : Nat) : (gth T (fix T) (fin T (fix T) q)).nx p ≤ (fin T (fix T) q).length ∧ (p / 3 < (fin T (fix T) q).length → p % 3 < T.L → (gth T (fix T) (fin T (fix T) q)).nx p < (fin T (fix T) q).length) := by
  have hp := fin_pos T (fix T) q
  unfold gth gthP
  dsimp only
  split
  · rename_i h
    have hi : p / 3 < (fin T (fix T) q).length := by omega
    have hs : (fin T (fix T) q).getD (p / 3) 0 ∈ fin T (fix T) q := by
      rw [List.getD_eq_getElem?_getD, List.getElem?_eq_getElem hi]; exact List.getElem_mem hi
    have := mem_idxOf_lt (fin_closed hT (c := fix T) (fun q hq => fix_lt q hq) hq _ hs (p % 3) h.2)
    exact ⟨Nat.le_of_lt this, fun _ _ => this⟩
  · rename_i h
    exact ⟨Nat.zero_le _, fun h1 h2 => absurd ⟨.inl h1, h2⟩ h⟩
theorem gth_ot (hT : T.Ok) {q : Nat} (hq : q < T.n) {N : Nat} (hN : 0 < N) (hot : ∀ q x, q < T.n → x < T.L → T.ot q x < N) (p : Nat) : (gth T (fix T) (fin T (fix T) q)).ot p < N := by
  unfold gth gthP
  dsimp only
  split
  · rename_i h
    refine hot _ _ ?_ h.2
    have hi : p / 3 < (fin T (fix T) q).length := by omega
    rw [List.getD_eq_getElem?_getD, List.getElem?_eq_getElem hi]
    exact fin_lt hT hq (List.getElem_mem hi)
  · exact hN
theorem fromM_ok (hT : T.Ok) {q : Nat} (hq : q < T.n) (hot : ∀ q x, q < T.n → x < T.L → T.ot q x < 256) : (fromM T q).Ok := by
  unfold fromM
  split
  · rename_i h
    intro p
    exact ⟨by have := (gth_nx hT hq p).1; omega, gth_ot hT hq (by omega) hot p⟩
  · exact fun p => ⟨by show 0 < 256; omega, by show 0 < 256; omega⟩
theorem fromM_L (T : Tab) (q : Nat) : ∃ a : Nat, (fromM T q).L = a ∧ a ≤ T.L := by
  unfold fromM; split
  · exact ⟨T.L, rfl, Nat.le_refl _⟩
  · exact ⟨0, rfl, Nat.zero_le _⟩
theorem fromM_S (T : Tab) (q : Nat) : ∃ a : Nat, (fromM T q).S = a ∧ a ≤ 16 := by
  unfold fromM; split
  · rename_i h; exact ⟨_, rfl, h⟩
  · exact ⟨0, rfl, Nat.zero_le _⟩
/-- .. is a machine, where the table's rows are permutations. -/
theorem fromM_good (hT : T.Ok) {q : Nat} (hq : q < T.n) (h2 : 2 ≤ T.L) (h3 : T.L ≤ 3) (hot : ∀ q x, q < T.n → x < T.L → T.ot q x < T.L) (hinj : ∀ q, q < T.n → ∀ y x, y < x → x < T.L → T.ot q y ≠ T.ot q x) (hc : fromC T q = 0) :
    ∃ s, Good (fromM T q) T.L s := by
  have h : (fin T (fix T) q).length ≤ 16 := by
    unfold fromC at hc
    split at hc
    · assumption
    · cases hc
  refine ⟨(fin T (fix T) q).length, ?_⟩
  have hg : fromM T q = gth T (fix T) (fin T (fix T) q) := by unfold fromM; rw [if_pos h]
  rw [hg]
  have hat : ∀ r, r < (fin T (fix T) q).length → (fin T (fix T) q).getD r 0 < T.n := fun r hr => by
    rw [List.getD_eq_getElem?_getD, List.getElem?_eq_getElem hr]
    exact fin_lt hT hq (List.getElem_mem hr)
  refine ⟨rfl, rfl, h2, h3, fin_pos _ _ _, h, ?_, ?_, ?_, ?_⟩
  · intro r x hr hx
    exact (gth_nx hT hq _).2 (by omega) (by omega)
  · intro r x hr hx
    exact gth_ot hT hq (by omega) hot _
  · intro r hr y x hy hx
    unfold gth gthP
    dsimp only
    rw [if_pos (by omega), if_pos (by omega), show (r * 3 + y) / 3 = r by omega, show (r * 3 + x) / 3 = r by omega, show (r * 3 + y) % 3 = y by omega, show (r * 3 + x) % 3 = x by omega]
    exact hinj _ (hat r hr) y x hy hx
  · intro r x hr hx hn
    unfold gth gthP
    dsimp only
    rw [if_neg (by omega), if_neg (by omega)]
    exact ⟨rfl, rfl⟩
theorem tabOf_ot {m : Mach} {l s : Nat} (g : Good m l s) : ∀ q x, q < (tabOf m l s).n → x < (tabOf m l s).L → (tabOf m l s).ot q x < (tabOf m l s).L := fun q x hq hx => g.ot q x hq hx
theorem tabOf_inj {m : Mach} {l s : Nat} (g : Good m l s) : ∀ q, q < (tabOf m l s).n → ∀ y x, y < x → x < (tabOf m l s).L → (tabOf m l s).ot q y ≠ (tabOf m l s).ot q x := fun q hq y x hy hx => g.inj q hq y x hy hx
end
end Go.Proofs.Ythmcdfjijkecfaa
