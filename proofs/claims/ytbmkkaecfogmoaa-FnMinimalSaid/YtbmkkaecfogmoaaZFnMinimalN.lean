/- What the proof of FnMinimal leans on, part 14 of 21. -/
import Derived.Test.YtbmkkaecfogmoaaZFnMinimalM
import Derived.WalkSpells
/- append(dst, src...): a slice behind another one. -/
namespace Go.Proofs.Ytbmkkaecfogmoaa
open Go.RowKit
set_option linter.unusedVariables false
set_option linter.unusedSimpArgs false
-- @LONG

theorem run_append_empty {P : Program} (W : World) (t ty e : TypeId) (i : TypeInfo) (ht : P.underlying t = some (.slice e)) (hi : P.info? e = some i) (base : Nat) (v : Value) (cs : List Value) (h : Own W base e v cs) :
    (Builtin.append_ #[t, t] ty #[v, .slice none 0 0]).run P W = .ok v W := by
  obtain ⟨A, c, rfl, hc, hA⟩ := h.form
  rcases hA with ⟨rfl, rfl, rfl⟩ | ⟨g, rfl, _⟩
  · simp [Builtin.append_, run_underlying ht, sizeOf, typeInfo, hi, Builtin.lenOf, Builtin.firstCells, loadCells, loadCellsFrom]
  · simp [Builtin.append_, run_underlying ht, sizeOf, typeInfo, hi, Builtin.lenOf, Builtin.firstCells, hc, storeCells]
theorem run_append_sl {P : Program} (W : World) (t ty e : TypeId) (z : Value) (bytes : Nat) (ht : P.underlying t = some (.slice e)) (hinfo : (P.info? e).map (fun i => (i.zero, i.size, i.bytes)) = some (some z, 1, bytes)) (hz : z.cells.size = 1) (hb : bytes ≤ 64)
    (base : Nat) (v : Value) (cs : List Value) (h : Own W base e v cs) (hbase : base ≤ W.heap.size) (b2 e2 : Nat) (v2 : Value) (cs2 : List Value) (h2 : Own W b2 e2 v2 cs2) (h1 : ∀ u ∈ cs2, u.oneCell' = true) (hlen : cs.length + cs2.length ≤ 1000000000) :
    ∃ v' w', (Builtin.append_ #[t, t] ty #[v, v2]).run P W = .ok v' w' ∧ Own w' base e v' (cs ++ cs2) ∧ Below base W w' ∧ (∀ k, k < W.heap.size → v.ownBlock ≠ some k → w'.heap[k]? = W.heap[k]?) ∧ (v'.ownBlock = v.ownBlock ∨ v'.ownBlock = some W.heap.size) := by
  obtain ⟨i, hi, hz0, hz1, hz2⟩ := info_parts hinfo
  obtain ⟨A, c, rfl, hc, hA⟩ := h2.form
  rcases hA with ⟨rfl, rfl, rfl⟩ | ⟨g, rfl, _, _, hcell⟩
  · refine ⟨v, W, run_append_empty W t ty e i ht hi base v cs h, by rw [List.append_nil]; exact h, Below.refl _ _, fun _ _ _ => rfl, .inl rfl⟩
  · obtain ⟨v', w', hr, h3, h4, _, h5⟩ := run_append_own_at (P := P) W base t ty e i z 1 bytes ht hi hz0 hz1 hz2 hz (by omega) v cs.length cs h ⟨g, 0, none⟩ cs2.length c cs2 (by omega) (fun j u hu => by rw [Addr.add_mid, Nat.zero_add]; exact hcell j u hu) h1
      (by simp only [maxLen]; omega) (Nat.le_trans (Nat.mul_le_mul_left _ hb) (by omega)) hbase
    have hold : ∀ k, k < W.heap.size → v.ownBlock ≠ some k → w'.heap[k]? = W.heap[k]? := fun k hk hne => h4.block k hk (fun e => hne e.symm)
    refine ⟨v', w', hr, ?_, ⟨h4.os, h4.tape, h4.output, h4.size, fun k hk => hold k (by omega) (fun e => by have := (h.lt k e).1; omega)⟩, hold, h5⟩
    unfold Own
    rw [List.length_append]; exact h3
section
variable {ops : Array Oper} {rest : List Oper} {o : Oper} {act : Act} {W w0 : World} {Q : Exit → Act → World → Prop} {L : List Asn} {base : Nat}
theorem St.appdV {t : Nat} {v v' : Value} {cs cs' : List Value} {w w' : World} (h : St base w0 (Asn.own base t v cs :: L) w) (hO : Own w' base t v' cs') (hb : Below base w w') (hold : ∀ k, k < w.heap.size → v.ownBlock ≠ some k → w'.heap[k]? = w.heap[k]?)
    (hg : v'.ownBlock = v.ownBlock ∨ v'.ownBlock = some w.heap.size) : St base w0 (Asn.own base t v' cs' :: L) w' :=
  h.turn (a' := Asn.own base t v' cs') hO (fun k hk => by
    have hk' : v'.ownBlock = some k := hk
    rcases hg with hg | hg
    · exact .inl (hg.symm.trans hk')
    · rw [hg] at hk'; injection hk' with e; exact .inr (by omega)) (fun k hk => ((show Own w base t v cs from h.star.1).lt k hk).1) hb fun k hk hne => hold k hk hne
theorem St.appS (t e : TypeId) (z : Value) (bytes : Nat)
    (ht : Try.prog.underlying t = some (.slice e)) (hinfo : (Try.prog.info? e).map (fun i => (i.zero, i.size, i.bytes)) = some (some z, 1, bytes)) (hz : z.cells.size = 1) (hb : bytes ≤ 64)
    (hgd : o.guard = none) (s x : Operand) (ho : o.op = .call { callee := .builtin .append, args := #[s, x], argTypes := #[t, t] })
    (v : Value) (cs : List Value) (hs : act.eval s = v) (hS : St base w0 (Asn.own base e v cs :: L) W) (b2 e2 : Nat) (v2 : Value) (cs2 : List Value) (hx : act.eval x = v2) (h2 : Own W b2 e2 v2 cs2) (h1 : ∀ u ∈ cs2, u.oneCell' = true) (hlen : cs.length + cs2.length ≤ 1000000000)
    (h : ∀ v' w', St base w0 (Asn.own base e v' (cs ++ cs2) :: L) w' → wpList Try.prog ops Q rest (act.put o.dst v') w') : wpList Try.prog ops Q (o :: rest) act W := by
  obtain ⟨v', w', hr, h3, h4, h5, h6⟩ := run_append_sl (P := Try.prog) W t o.type e z bytes ht hinfo hz hb base v cs hS.star.1 hS.le b2 e2 v2 cs2 h2 h1 hlen
  refine wpList_plain hgd fun K hK => ?_
  unfold Oper.wp execOp
  simp only [ho, resolve, invoke, builtin, Sem.run_bind, Sem.run_pure, Result.andThen_ok, List.map_toArray, List.map_cons, List.map_nil, hs, hx, hr]
  exact hK _ _ (h v' w' (hS.appdV h3 h4 h5 h6))
end
theorem ints_one (l : List Int) : ∀ u ∈ ints l, u.oneCell' = true := fun u hu => by
  obtain ⟨x, _, rfl⟩ := List.mem_map.1 hu
  rfl

set_option maxHeartbeats 1000000 in
set_option maxRecDepth 100000 in
theorem clone_any (w : World) (base : Nat) (v : Value) (l : List Int) (h : Own w base 2 v (ints l)) (hl : l.length ≤ 1000000) :
    Calls Try.prog 157 #[v] w fun e w' => ∃ v', e = .returned v' ∧ Own w' w.heap.size 2 v' (ints l) ∧ Below w.heap.size w w' := by
  have hil := ints_length l
  have hnil := fun (W : World) (a : Option Addr) (n c : Nat) => Lib.run_eql_slice_nil (P := Try.prog) W 29 2 a n c 0 0 Try.underlying29
  obtain ⟨A, c, rfl, _, hA⟩ := h.form
  rw [hil] at h ⊢
  rcases hA with ⟨rfl, h0, rfl⟩ | ⟨g, rfl, _⟩
  · have hl0 : l = [] := by rw [← List.length_eq_zero_iff, ← hil, h0]; rfl
    subst hl0
    clear h
    go_enter Try.func157, Try.ntmps157
    go_wp2
    go_ret
    exact ⟨_, rfl, Own.nil _ _ _, Below.refl _ _⟩
  · have hS := hid ((St.start w).newOwn [] 2 (by simp))
    have h' := hid (h.alloc (.cells #[] 2))
    clear h
    go_enter Try.func157, Try.ntmps157
    go_wp2_with (first
      | ((with_reducible refine gate (N := 7) rfl ?_); refine St.appS 29 2 (.int .i64 0) 8 Try.underlying29 info_i64 rfl (by omega) rfl _ _ rfl _ _ rfl hS.out _ _ _ _ rfl h'.out (ints_one l) (by rw [hil]; simp; omega) ?_; intro v' w2 hS'; replace hS := hid hS'; clear hS'))
    go_ret
    exact ⟨_, rfl, by have h := hS.out.o0; rw [List.nil_append] at h; exact h, hS.out.bel⟩
end Go.Proofs.Ytbmkkaecfogmoaa

/- ImageOf, SectionOf, PeriodOfWord: the program's side. -/
namespace Go.Proofs.Ytbmkkaecfogmoaa
open Go.RowKit
set_option linter.unusedVariables false
set_option linter.unusedSimpArgs false
-- @LONG

/-- The letters of a text. -/
def lets (ws : ByteArray) : List Nat := ws.data.toList.map fun b => b.toNat - 48
theorem lets_wstr {l : Nat} (ws : ByteArray) (h : IsWd l ws) : ws = wstr (lets ws) ∧ (∀ x ∈ lets ws, x < l) ∧ (lets ws).length ≤ 40 := by
  have e : ws = wstr (lets ws) := wstr_of_bytes ws fun k hk => (h.2 k hk).1
  refine ⟨e, fun x hx => ?_, by unfold lets; rw [List.length_map, Array.length_toList]; exact h.1⟩
  obtain ⟨b, hb, rfl⟩ := List.mem_map.1 hx
  obtain ⟨k, hk, rfl⟩ := List.getElem_of_mem hb
  have hk' : k < ws.size := by simpa using hk
  have h2 := (h.2 k hk').2
  have h1 := (h.2 k hk').1
  have e2 : (ws[k]'hk').toNat = (ws.data.toList[k]).toNat := by simp [ByteArray.getElem_eq_getElem_data]
  omega
theorem IsGw.parts {m : Mach} {l s : Nat} {g : List Int} (gd : Good m l s) (h : IsGw m g) : g.length ≤ 40 ∧ ∀ k ∈ g, isNum s k := by
  have e : m.S.toNat = s := by rw [gd.S]; rfl
  have := h.2
  rw [e] at this; exact this
theorem mat_one {w : World} {b : Nat} {v r : Value} {l : List Int} (hO : Own w b 29 v [r]) (hr : Own w b 2 r (ints l)) : Mat w b v [l] :=
  ⟨[r], hO, rfl, fun i r' l' h1 h2 => by
    cases i with
    | zero => simp at h1 h2; subst h1; subst h2; exact hr
    | succ i => simp at h1⟩
/-- What is asked of a group word and a word: 0, or no group word, or no word. -/
theorem gw_cases (m : Mach) (g : List Int) (ws : ByteArray) : (¬ IsM m ∨ ¬ IsGw m g) ∨ (∃ l s, Good m l s ∧ IsGw m g ∧ ¬ IsWd l ws) ∨ ∃ l s, Good m l s ∧ IsGw m g ∧ IsWd l ws := by
  by_cases h : IsGw m g
  · obtain ⟨l, s, gd⟩ := h.1.good
    by_cases hw : IsWd l ws
    · exact .inr (.inr ⟨l, s, gd, h, hw⟩)
    · exact .inr (.inl ⟨l, s, gd, h, hw⟩)
  · exact .inl (.inr h)
open Classical in
noncomputable def imgAns (m : Mach) (g : List Int) (ws : ByteArray) : ByteArray × Int := if IsGw m g ∧ IsWd m.L ws then (wstr (imgW m m.L.toNat m.S.toNat g (lets ws)), 0) else ({ data := #[] }, 1)
open Classical in
noncomputable def secAns (m : Mach) (g : List Int) (ws : ByteArray) : List Int × Int := if IsGw m g ∧ IsWd m.L ws then (secW m m.L.toNat m.S.toNat g (lets ws), 0) else ([], 1)
section
variable {m : Mach} {l s : Nat} {g : List Int} {ws : ByteArray}
theorem imgAns_1 (h : ¬ IsGw m g) : imgAns m g ws = ({ data := #[] }, 1) := by unfold imgAns; rw [if_neg (fun k => h k.1)]
theorem imgAns_w (gd : Good m l s) (h : ¬ IsWd l ws) : imgAns m g ws = ({ data := #[] }, 1) := by unfold imgAns; rw [gd.L, if_neg (fun k => h k.2)]
theorem imgAns_0 (gd : Good m l s) (h : IsGw m g) (hw : IsWd l ws) : imgAns m g ws = (wstr (imgW m l s g (lets ws)), 0) := by unfold imgAns; rw [gd.L, gd.S, if_pos ⟨h, hw⟩]; rfl
theorem secAns_1 (h : ¬ IsGw m g) : secAns m g ws = ([], 1) := by unfold secAns; rw [if_neg (fun k => h k.1)]
theorem secAns_w (gd : Good m l s) (h : ¬ IsWd l ws) : secAns m g ws = ([], 1) := by unfold secAns; rw [gd.L, if_neg (fun k => h k.2)]
theorem secAns_0 (gd : Good m l s) (h : IsGw m g) (hw : IsWd l ws) : secAns m g ws = (secW m l s g (lets ws), 0) := by unfold secAns; rw [gd.L, gd.S, if_pos ⟨h, hw⟩]; rfl
end

set_option maxHeartbeats 2000000 in
set_option maxRecDepth 4000 in
theorem implImg_any (w : World) (m : Mach) (hkm : m.Ok) (b0 : Nat) (v : Value) (g : List Int) (hg : Own w b0 2 v (ints g)) (hl : g.length < 2000000) (ws : ByteArray) (hws : ws.size < 1000000000000) :
    Calls Try.prog 51 #[.agg (mcells m), v, .string ws] w fun e w' => e = .returned (.tuple #[.string (imgAns m g ws).1, .int .i64 (imgAns m g ws).2]) ∧ Below w.heap.size w w' := by
  obtain ⟨A0, cp0, rfl, _, _⟩ := hg.form
  rw [ints_length] at hg ⊢
  by_cases hbad : ¬ IsGw m g
  · rw [imgAns_1 hbad]
    have hS := hid ((St.arg w hg).newMB m 27)
    have hown := hid (hS.out.newOwn [(Value.slice A0 g.length cp0)] 29 (by simp))
    simp only [heap_alloc_size, List.length_cons, List.length_nil, Nat.zero_add] at hown
    have hgo := hid (fun W b vv (hO : Own W b 29 vv [(Value.slice A0 g.length cp0)]) (hr : Own W b 2 (Value.slice A0 g.length cp0) (ints g)) => groupOf_n W m hkm b vv [g] (mat_one hO hr) (by simp) (by simp; omega) (.inr ⟨g, by simp, hbad⟩))
    replace hkm := hid hkm; replace hg := hid hg; replace hbad := hid hbad
    go_enter Try.func51, Try.ntmps51
    go_wp2_with (first
      | ((with_reducible refine gate (N := 13) rfl ?_); refine load_mach rfl _ rfl w.heap.size rfl m hS.out.m0 ?_)
      | (go_at_call 146; (with_reducible refine (hgo.out _ _ _ (hown.out.o0.mono (Nat.zero_le _)) hown.out.o2).mono ?_); rintro e w1 ⟨rfl, hb⟩; replace hS := hid (hown.out.call hb); clear hgo hown; clear hb))
    go_ret2
    exact ⟨rfl, hS.out.bel⟩
  · have hgw := Classical.not_not.1 hbad
    obtain ⟨l, s, gd⟩ := hgw.1.good
    obtain ⟨hgl, hgn⟩ := hgw.parts gd
    have hS := hid ((St.arg w hg).newMB m 27)
    have hown := hid (hS.out.newOwn [(Value.slice A0 g.length cp0)] 29 (by simp))
    simp only [heap_alloc_size, List.length_cons, List.length_nil, Nat.zero_add] at hown
    have hgo := hid (fun W b vv (hO : Own W b 29 vv [(Value.slice A0 g.length cp0)]) (hr : Own W b 2 (Value.slice A0 g.length cp0) (ints g)) => groupOf_y W m hkm b vv [g] (mat_one hO hr) (by simp) (by simp; omega) l s gd (by simp; exact hgw))
    have hL := hid gd.L
    by_cases hw : IsWd l ws
    · rw [imgAns_0 gd hgw hw]
      obtain ⟨hwe, hwl, hw40⟩ := lets_wstr ws hw
      have hwd := hid (fun W => isWord_any (l : Int) (by have := gd.l2; omega) (by have := gd.l3; omega) ws hws true ⟨fun _ => hw, fun _ => rfl⟩ W)
      have him := hid (fun W G v1 v2 (hG : GM W G m l s v1 v2) (hO : Own W 0 2 (Value.slice A0 g.length cp0) (ints g)) => (by have h := image_any W G m l s gd v1 v2 hG 0 (Value.slice A0 g.length cp0) g hO hgn (by omega) (lets ws) hwl (by omega); rw [← hwe] at h; exact h : Calls Try.prog 153 #[.pointer (some ⟨G, 0, none⟩), (Value.slice A0 g.length cp0), .string ws] W fun e w' => ∃ v', e = .returned (.tuple #[.string (wstr (imgW m l s g (lets ws))), v']) ∧ Own w' 0 2 v' (ints (secW m l s g (lets ws))) ∧ Below W.heap.size W w'))
      replace hkm := hid hkm; replace hg := hid hg; replace hgw := hid hgw; replace gd := hid gd; replace hwe := hid hwe
      clear hbad
      generalize wstr (imgW m l s g (lets ws)) = ans at *
      go_enter Try.func51, Try.ntmps51
      go_wp2_with (first
        | ((with_reducible refine gate (N := 13) rfl ?_); refine load_mach rfl _ rfl w.heap.size rfl m hS.out.m0 ?_)
        | (go_at_call 146; (with_reducible refine (hgo.out _ _ _ (hown.out.o0.mono (Nat.zero_le _)) hown.out.o2).mono ?_); rintro e w1 ⟨G, v1, v2, rfl, hle, hGB, hb⟩; have hGM := hid hGB.gm; replace hS := hid (hown.out.call hb); have cL := hS.out.m1.cL; rw [hL.out] at cL; clear hgo hb hGB hle hown)
        | (go_at_call 128; (with_reducible refine (hwd.out _).mono ?_); rintro e w' ⟨rfl, rfl⟩)
        | (go_at_call 153; (with_reducible refine (him.out _ _ _ _ hGM.out hS.out.o2).mono ?_); rintro e w2 ⟨v', rfl, hO, hb⟩; replace hS := hid (hS.out.call hb); clear hb hO))
      go_ret2
      exact ⟨rfl, hS.out.bel⟩
    · rw [imgAns_w gd hw]
      have hwd := hid (fun W => isWord_any (l : Int) (by have := gd.l2; omega) (by have := gd.l3; omega) ws hws false ⟨fun h => (by cases h), fun h => absurd h hw⟩ W)
      replace hkm := hid hkm; replace hg := hid hg; replace hgw := hid hgw; replace gd := hid gd
      clear hbad
      go_enter Try.func51, Try.ntmps51
      go_wp2_with (first
        | ((with_reducible refine gate (N := 13) rfl ?_); refine load_mach rfl _ rfl w.heap.size rfl m hS.out.m0 ?_)
        | (go_at_call 146; (with_reducible refine (hgo.out _ _ _ (hown.out.o0.mono (Nat.zero_le _)) hown.out.o2).mono ?_); rintro e w1 ⟨G, v1, v2, rfl, hle, hGB, hb⟩; replace hS := hid (hown.out.call hb); have cL := hS.out.m1.cL; rw [hL.out] at cL; clear hgo hb hGB hle)
        | (go_at_call 128; (with_reducible refine (hwd.out _).mono ?_); rintro e w' ⟨rfl, rfl⟩))
      go_ret2
      exact ⟨rfl, hS.out.bel⟩
set_option maxHeartbeats 2000000 in
set_option maxRecDepth 4000 in
theorem implSec_any (w : World) (m : Mach) (hkm : m.Ok) (b0 : Nat) (v : Value) (g : List Int) (hg : Own w b0 2 v (ints g)) (hl : g.length < 2000000) (ws : ByteArray) (hws : ws.size < 1000000000000) :
    Calls Try.prog 53 #[.agg (mcells m), v, .string ws] w fun e w' => ∃ v', e = .returned (.tuple #[v', .int .i64 (secAns m g ws).2]) ∧ Own w' w.heap.size 2 v' (ints (secAns m g ws).1) ∧ Below w.heap.size w w' := by
  obtain ⟨A0, cp0, rfl, _, _⟩ := hg.form
  rw [ints_length] at hg ⊢
  by_cases hbad : ¬ IsGw m g
  · rw [secAns_1 hbad]
    have hS := hid ((St.arg w hg).newMB m 27)
    have hown := hid (hS.out.newOwn [(Value.slice A0 g.length cp0)] 29 (by simp))
    simp only [heap_alloc_size, List.length_cons, List.length_nil, Nat.zero_add] at hown
    have hgo := hid (fun W b vv (hO : Own W b 29 vv [(Value.slice A0 g.length cp0)]) (hr : Own W b 2 (Value.slice A0 g.length cp0) (ints g)) => groupOf_n W m hkm b vv [g] (mat_one hO hr) (by simp) (by simp; omega) (.inr ⟨g, by simp, hbad⟩))
    replace hkm := hid hkm; replace hg := hid hg; replace hbad := hid hbad
    go_enter Try.func53, Try.ntmps53
    go_wp2_with (first
      | ((with_reducible refine gate (N := 13) rfl ?_); refine load_mach rfl _ rfl w.heap.size rfl m hS.out.m0 ?_)
      | (go_at_call 146; (with_reducible refine (hgo.out _ _ _ (hown.out.o0.mono (Nat.zero_le _)) hown.out.o2).mono ?_); rintro e w1 ⟨rfl, hb⟩; replace hS := hid (hown.out.call hb); clear hgo hown; clear hb))
    go_ret2
    exact ⟨_, rfl, Own.nil _ _ _, hS.out.bel⟩
  · have hgw := Classical.not_not.1 hbad
    obtain ⟨l, s, gd⟩ := hgw.1.good
    obtain ⟨hgl, hgn⟩ := hgw.parts gd
    have hS := hid ((St.arg w hg).newMB m 27)
    have hown := hid (hS.out.newOwn [(Value.slice A0 g.length cp0)] 29 (by simp))
    simp only [heap_alloc_size, List.length_cons, List.length_nil, Nat.zero_add] at hown
    have hgo := hid (fun W b vv (hO : Own W b 29 vv [(Value.slice A0 g.length cp0)]) (hr : Own W b 2 (Value.slice A0 g.length cp0) (ints g)) => groupOf_y W m hkm b vv [g] (mat_one hO hr) (by simp) (by simp; omega) l s gd (by simp; exact hgw))
    have hL := hid gd.L
    by_cases hw : IsWd l ws
    · rw [secAns_0 gd hgw hw]
      obtain ⟨hwe, hwl, hw40⟩ := lets_wstr ws hw
      have hwd := hid (fun W => isWord_any (l : Int) (by have := gd.l2; omega) (by have := gd.l3; omega) ws hws true ⟨fun _ => hw, fun _ => rfl⟩ W)
      have him := hid (fun W G v1 v2 (hG : GM W G m l s v1 v2) (hO : Own W 0 2 (Value.slice A0 g.length cp0) (ints g)) => (by have h := image_any W G m l s gd v1 v2 hG 0 (Value.slice A0 g.length cp0) g hO hgn (by omega) (lets ws) hwl (by omega); rw [← hwe] at h; exact h : Calls Try.prog 153 #[.pointer (some ⟨G, 0, none⟩), (Value.slice A0 g.length cp0), .string ws] W fun e w' => ∃ v', e = .returned (.tuple #[.string (wstr (imgW m l s g (lets ws))), v']) ∧ Own w' 0 2 v' (ints (secW m l s g (lets ws))) ∧ Below W.heap.size W w'))
      have hse := hid (show (secW m l s g (lets ws)).length ≤ 1000000 by rw [secW_length]; omega)
      replace hkm := hid hkm; replace hg := hid hg; replace hgw := hid hgw; replace gd := hid gd; replace hwe := hid hwe
      clear hbad
      generalize wstr (imgW m l s g (lets ws)) = ans at *
      generalize secW m l s g (lets ws) = se at *
      have hcl := hid (fun W vq (hO : Own W 0 2 vq (ints se)) => clone_any W 0 vq se hO hse.out)
      go_enter Try.func53, Try.ntmps53
      go_wp2_with (first
        | ((with_reducible refine gate (N := 13) rfl ?_); refine load_mach rfl _ rfl w.heap.size rfl m hS.out.m0 ?_)
        | (go_at_call 146; (with_reducible refine (hgo.out _ _ _ (hown.out.o0.mono (Nat.zero_le _)) hown.out.o2).mono ?_); rintro e w1 ⟨G, v1, v2, rfl, hle, hGB, hb⟩; have hGM := hid hGB.gm; replace hS := hid (hown.out.call hb); have cL := hS.out.m1.cL; rw [hL.out] at cL; clear hgo hb hGB hle hown)
        | (go_at_call 128; (with_reducible refine (hwd.out _).mono ?_); rintro e w' ⟨rfl, rfl⟩)
        | (go_at_call 153; (with_reducible refine (him.out _ _ _ _ hGM.out hS.out.o2).mono ?_); rintro e w2 ⟨v', rfl, hO, hb⟩; replace hS := hid (hS.out.call hb); replace hO := hid hO; clear hb)
        | (go_at_call 157; (with_reducible refine (hcl.out _ _ hO.out).mono ?_); rintro e w3 ⟨v3, rfl, hO3, hb⟩; replace hS := hid (hS.out.callOwn hb hO3); clear hb hO3 hO))
      go_ret2
      exact ⟨_, rfl, hS.out.o0, hS.out.bel⟩
    · rw [secAns_w gd hw]
      have hwd := hid (fun W => isWord_any (l : Int) (by have := gd.l2; omega) (by have := gd.l3; omega) ws hws false ⟨fun h => (by cases h), fun h => absurd h hw⟩ W)
      replace hkm := hid hkm; replace hg := hid hg; replace hgw := hid hgw; replace gd := hid gd
      clear hbad
      go_enter Try.func53, Try.ntmps53
      go_wp2_with (first
        | ((with_reducible refine gate (N := 13) rfl ?_); refine load_mach rfl _ rfl w.heap.size rfl m hS.out.m0 ?_)
        | (go_at_call 146; (with_reducible refine (hgo.out _ _ _ (hown.out.o0.mono (Nat.zero_le _)) hown.out.o2).mono ?_); rintro e w1 ⟨G, v1, v2, rfl, hle, hGB, hb⟩; replace hS := hid (hown.out.call hb); have cL := hS.out.m1.cL; rw [hL.out] at cL; clear hgo hb hGB hle)
        | (go_at_call 128; (with_reducible refine (hwd.out _).mono ?_); rintro e w' ⟨rfl, rfl⟩))
      go_ret2
      exact ⟨_, rfl, Own.nil _ _ _, hS.out.bel⟩
end Go.Proofs.Ytbmkkaecfogmoaa

/- Machines, compared by ==; and the machine of a state of a table is of bytes, and a machine again. -/
namespace Go.Proofs.Ytbmkkaecfogmoaa
open Go.RowKit
set_option linter.unusedVariables false
set_option linter.unusedSimpArgs false

theorem cells_b48 : Try.prog.cellsOf 25 = 48 := by kernel_rfl
theorem cells_mach : Try.prog.cellsOf 27 = 98 := by kernel_rfl
theorem cells_i64 : Try.prog.cellsOf 2 = 1 := by kernel_rfl
theorem wf_i64s (a : Nat) (h : a < 1000000) : (Lit.int .i64 (a : Int)).wf = true := by
  have h0 : IntKind.i64.min = -9223372036854775808 := by decide
  have h1 : IntKind.i64.max = 9223372036854775807 := by decide
  simp [Lit.wf, IntKind.has, h0, h1]; omega
theorem lits_i64 (d : Nat) (a : Nat) (h : a < 1000000) : Try.prog.keyLits (d + 1) 2 [.int .i64 (a : Int)] = some [.int .i64 (a : Int)] := by
  unfold Program.keyLits
  rw [Try.underlying2]
  simp [wf_i64s a h]
theorem mapM_all {α β : Type} (F : α → Option β) (G : α → β) : ∀ l : List α, (∀ a ∈ l, F a = some (G a)) → l.mapM F = some (l.map G)
  | [], _ => rfl
  | a :: l, h => by
    rw [List.mapM_cons, h a (by simp), mapM_all F G l (fun b hb => h b (by simp [hb]))]
    rfl
def lrow3 (f : Nat → Nat) (i : Nat) : List Lit := [.int .u8 (f (i * 3) : Nat), .int .u8 (f (i * 3 + 1) : Nat), .int .u8 (f (i * 3 + 2) : Nat)]
def lit48 (f : Nat → Nat) : List Lit := ((List.range 16).map (lrow3 f)).flatten
theorem cut3 {α : Type} (g : Nat → α) (i : Nat) (h : i < 16) : (((List.range 48).map g).drop (i * 3)).take 3 = [g (i * 3), g (i * 3 + 1), g (i * 3 + 2)] := by
  apply List.ext_getElem?
  intro n
  rw [List.getElem?_take]
  rcases n with _ | _ | _ | n
  · rw [if_pos (by omega), List.getElem?_drop, List.getElem?_map, List.getElem?_range (by omega)]; rfl
  · rw [if_pos (by omega), List.getElem?_drop, List.getElem?_map, List.getElem?_range (by omega)]; rfl
  · rw [if_pos (by omega), List.getElem?_drop, List.getElem?_map, List.getElem?_range (by omega)]; rfl
  · rw [if_neg (by omega)]; rfl
theorem lits_b48 (d : Nat) (f : Nat → Nat) (h : ∀ i, f i < 256) : Try.prog.keyLits (d + 3) 25 ((List.range 48).map fun i => .int .u8 (f i : Nat)) = some (lit48 f) := by
  unfold Program.keyLits
  rw [Try.underlying25]
  simp only [cells_b48, List.length_map, List.length_range, cells_b3, if_true]
  rw [mapM_all _ (lrow3 f)]
  · rfl
  · intro i hi
    rw [List.mem_range] at hi
    rw [cut3 _ i hi]
    exact lits_b3 d _ _ _ (h _) (h _) (h _)
theorem flat3_inj (f g : Nat → Nat) : ∀ l : List Nat, (l.map (lrow3 f)).flatten = (l.map (lrow3 g)).flatten ↔ ∀ i ∈ l, lrow3 f i = lrow3 g i
  | [] => by simp
  | a :: l => by
    simp only [List.map_cons, List.flatten_cons, List.mem_cons, forall_eq_or_imp]
    rw [← flat3_inj f g l]
    exact ⟨fun h => List.append_inj h rfl, fun h => by rw [h.1, h.2]⟩
theorem lit48_inj (f g : Nat → Nat) (h : lit48 f = lit48 g) : ∀ i, i < 48 → f i = g i := fun i hi => by
  have := (flat3_inj f g _).1 h (i / 3) (List.mem_range.2 (by omega))
  simp only [lrow3, List.cons.injEq, Lit.int.injEq, true_and, and_true, Int.natCast_inj] at this
  obtain ⟨h0, h1, h2⟩ := this
  rcases (show i = i / 3 * 3 ∨ i = i / 3 * 3 + 1 ∨ i = i / 3 * 3 + 2 by omega) with e | e | e
  · rw [e]; exact h0
  · rw [e]; exact h1
  · rw [e]; exact h2
theorem mcells_list (m : Mach) : (mcells m).toList = [.int .i64 m.L] ++ ([.int .i64 m.S] ++ (((List.range 48).map fun i => .int .u8 (m.nx i : Nat)) ++ ((List.range 48).map fun i => .int .u8 (m.ot i : Nat)))) := by
  apply List.ext_getElem?
  intro n
  rw [Array.getElem?_toList]
  by_cases h : n < 98
  · rw [mcells_get m n h]
    rcases n with _ | _ | n
    · rfl
    · rfl
    · rw [List.getElem?_append_right (by simp), List.getElem?_append_right (by simp)]
      simp only [List.length_cons, List.length_nil]
      rw [show n + 1 + 1 - (0 + 1) - (0 + 1) = n by omega]
      by_cases hn : n < 48
      · rw [List.getElem?_append_left (by simpa using hn)]
        simp [mf, hn]; omega
      · rw [List.getElem?_append_right (by simp; omega)]
        simp only [List.length_map, List.length_range]
        rw [List.getElem?_map, List.getElem?_range (by omega)]
        unfold mf
        rw [if_neg (by omega), if_neg (by omega), if_neg (by omega), show n + 1 + 1 - 50 = n - 48 by omega]
        rfl
  · rw [Array.getElem?_eq_none (by rw [size_mcells]; omega), List.getElem?_eq_none (by simp; omega)]
def mlits (a b : Nat) (m : Mach) : List Lit := [.int .i64 (a : Int)] ++ ([.int .i64 (b : Int)] ++ (lit48 m.nx ++ lit48 m.ot))
set_option maxRecDepth 4000 in
theorem lits_mach (d : Nat) (m : Mach) (hk : m.Ok) (a b : Nat) (ha : m.L = a) (hb : m.S = b) (ha' : a < 1000000) (hb' : b < 1000000) : Try.prog.keyLits (d + 4) 27 (mcells m).toList = some (mlits a b m) := by
  have hlen : (mcells m).toList.length = 98 := by rw [Array.length_toList, size_mcells]
  have hc := mcells_list m
  rw [ha, hb] at hc
  have hN : ((List.range 48).map fun i => Value.int .u8 (m.nx i : Nat)).length = 48 := by simp
  have hO : ((List.range 48).map fun i => Value.int .u8 (m.ot i : Nat)).length = 48 := by simp
  have kN := lits_b48 d m.nx (fun i => (hk i).1)
  have kO := lits_b48 d m.ot (fun i => (hk i).2)
  generalize (List.range 48).map (fun i => Value.int .u8 (m.nx i : Nat)) = N at *
  generalize (List.range 48).map (fun i => Value.int .u8 (m.ot i : Nat)) = O at *
  unfold Program.keyLits
  rw [Try.underlying27]
  simp only [hlen, cells_mach, if_true, true_and]
  rw [if_pos (by decide +kernel)]
  rw [hc]
  simp only [List.mapM_cons, List.mapM_nil, cells_i64, cells_b48]
  have e0 : ([Value.int .i64 (a : Int)] ++ ([Value.int .i64 (b : Int)] ++ (N ++ O))).drop 2 = N ++ O := rfl
  have e1 : ([Value.int .i64 (a : Int)] ++ ([Value.int .i64 (b : Int)] ++ (N ++ O))).drop 50 = O := by
    show (N ++ O).drop 48 = O
    rw [List.drop_append_of_le_length (by omega), List.drop_of_length_le (by omega), List.nil_append]
  have e2 : (N ++ O).take 48 = N := by rw [List.take_append_of_le_length (by omega), List.take_of_length_le (by omega)]
  have e3 : O.take 48 = O := List.take_of_length_le (by omega)
  have e4 : (([Value.int .i64 (a : Int)] ++ ([Value.int .i64 (b : Int)] ++ (N ++ O))).drop 0).take 1 = [Value.int .i64 (a : Int)] := rfl
  have e5 : (([Value.int .i64 (a : Int)] ++ ([Value.int .i64 (b : Int)] ++ (N ++ O))).drop 1).take 1 = [Value.int .i64 (b : Int)] := rfl
  rw [e0, e1, e2, e3, e4, e5, lits_i64 _ a ha', lits_i64 _ b hb', kN, kO]
  simp [mlits]
theorem mlits_inj {a b a' b' : Nat} {m k : Mach} (ha : m.L = a) (hb : m.S = b) (ha' : k.L = a') (hb' : k.S = b') : mlits a b m = mlits a' b' k ↔ mcells m = mcells k := by
  constructor
  · intro h
    unfold mlits at h
    have l1 : (lit48 m.nx).length = 48 := rfl
    have l2 : (lit48 k.nx).length = 48 := rfl
    have h1 := List.append_inj h rfl
    have h2 := List.append_inj h1.2 rfl
    have h3 := List.append_inj h2.2 (by rw [l1, l2])
    have i1 := lit48_inj _ _ h3.1
    have i2 := lit48_inj _ _ h3.2
    have e1 : a = a' := by have := h1.1; simp at this; omega
    have e2 : b = b' := by have := h2.1; simp at this; omega
    unfold mcells
    congr 1
    apply List.map_congr_left
    intro i hi
    rw [List.mem_range] at hi
    unfold mf
    rw [ha, hb, ha', hb', e1, e2]
    split
    · rfl
    · split
      · rfl
      · split
        · rw [i1 _ (by omega)]
        · rw [i2 _ (by omega)]
  · intro h
    have g : ∀ i, i < 98 → mf m i = mf k i := fun i hi => by
      have := mcells_get m i hi
      rw [h, mcells_get k i hi] at this
      exact (Option.some.inj this).symm
    have e1 : a = a' := by have := g 0 (by omega); simp [mf, ha, ha'] at this; omega
    have e2 : b = b' := by have := g 1 (by omega); simp [mf, hb, hb'] at this; omega
    have i1 : ∀ i, i < 48 → m.nx i = k.nx i := fun i hi => by
      have := g (i + 2) (by omega)
      unfold mf at this
      rw [if_neg (by omega), if_neg (by omega), if_pos (by omega), if_neg (by omega), if_neg (by omega), if_pos (by omega)] at this
      simp at this
      omega
    have i2 : ∀ i, i < 48 → m.ot i = k.ot i := fun i hi => by
      have := g (i + 50) (by omega)
      unfold mf at this
      rw [if_neg (by omega), if_neg (by omega), if_neg (by omega), if_neg (by omega), if_neg (by omega), if_neg (by omega)] at this
      simp at this
      omega
    unfold mlits lit48
    rw [e1, e2]
    congr 3
    · congr 1
      apply List.map_congr_left
      intro i hi
      rw [List.mem_range] at hi
      unfold lrow3
      rw [i1 _ (by omega), i1 _ (by omega), i1 _ (by omega)]
    · congr 1
      apply List.map_congr_left
      intro i hi
      rw [List.mem_range] at hi
      unfold lrow3
      rw [i2 _ (by omega), i2 _ (by omega), i2 _ (by omega)]
/-- Two machines. -/
theorem eq_mach (w : World) (m k : Mach) (hm : m.Ok) (hk : k.Ok) (a b a' b' : Nat) (ha : m.L = a) (hb : m.S = b) (ha' : k.L = a') (hb' : k.S = b') (la : a < 1000000) (lb : b < 1000000) (la' : a' < 1000000) (lb' : b' < 1000000) (r : Bool) (hr : Tells r (mcells m = mcells k)) :
    (Op.equalIn 10000 27 (.agg (mcells m)) (.agg (mcells k))).run Try.prog w = .ok r w := by
  have hf : ∀ m : Mach, (Value.agg (mcells m)).formed Try.prog 27 = true := fun m => by
    simp [Value.formed, Try.underlying27, cells_mach, size_mcells]
  obtain ⟨q, hq, hi⟩ := run_equalIn_deep (P := Try.prog) 9995 5 27 key_mach w 4 4 _ _ _ _ (hf m) (hf k) (lits_mach 0 m hm a b ha hb la lb) (lits_mach 0 k hk a' b' ha' hb' la' lb')
  have e : q = r := by
    rw [Bool.eq_iff_iff, hi, hr.out, mlits_inj ha hb ha' hb']
  rw [← e]
  exact hq

section
variable {T : Tab}
/-- The machine of a state of a table. -/
theorem fin_lt (hT : T.Ok) {q : Nat} (hq : q < T.n) {s : Nat} (hs : s ∈ fin T (fix T) q) : s < T.n := (bfs_uniq hT (fun q hq => fix_lt q hq) q hq T.n).2 s hs
theorem gth_nx (hT : T.Ok) {q : Nat} (hq : q < T.n) (p : Nat) : (gth T (fix T) (fin T (fix T) q)).nx p ≤ (fin T (fix T) q).length ∧ (p / 3 < (fin T (fix T) q).length → p % 3 < T.L → (gth T (fix T) (fin T (fix T) q)).nx p < (fin T (fix T) q).length) := by
  have hp := fin_pos T (fix T) q
  unfold gth gthP
  dsimp only
  split
  · rename_i h
    have hi : p / 3 < (fin T (fix T) q).length := by omega
    have hs : (fin T (fix T) q).getD (p / 3) 0 ∈ fin T (fix T) q := by
      rw [List.getD_eq_getElem?_getD, List.getElem?_eq_getElem hi]; exact List.getElem_mem hi
    have := mem_idxOf_lt (fin_closed hT (c := fix T) (fun q hq => fix_lt q hq) hq _ hs (p % 3) h.2)
    exact ⟨Nat.le_of_lt this, fun _ _ => this⟩
  · rename_i h
    exact ⟨Nat.zero_le _, fun h1 h2 => absurd ⟨.inl h1, h2⟩ h⟩
theorem gth_ot (hT : T.Ok) {q : Nat} (hq : q < T.n) {N : Nat} (hN : 0 < N) (hot : ∀ q x, q < T.n → x < T.L → T.ot q x < N) (p : Nat) : (gth T (fix T) (fin T (fix T) q)).ot p < N := by
  unfold gth gthP
  dsimp only
  split
  · rename_i h
    refine hot _ _ ?_ h.2
    have hi : p / 3 < (fin T (fix T) q).length := by omega
    rw [List.getD_eq_getElem?_getD, List.getElem?_eq_getElem hi]
    exact fin_lt hT hq (List.getElem_mem hi)
  · exact hN
theorem fromM_ok (hT : T.Ok) {q : Nat} (hq : q < T.n) (hot : ∀ q x, q < T.n → x < T.L → T.ot q x < 256) : (fromM T q).Ok := by
  unfold fromM
  split
  · rename_i h
    intro p
    exact ⟨by have := (gth_nx hT hq p).1; omega, gth_ot hT hq (by omega) hot p⟩
  · exact fun p => ⟨by show 0 < 256; omega, by show 0 < 256; omega⟩
theorem fromM_L (T : Tab) (q : Nat) : ∃ a : Nat, (fromM T q).L = a ∧ a ≤ T.L := by
  unfold fromM; split
  · exact ⟨T.L, rfl, Nat.le_refl _⟩
  · exact ⟨0, rfl, Nat.zero_le _⟩
theorem fromM_S (T : Tab) (q : Nat) : ∃ a : Nat, (fromM T q).S = a ∧ a ≤ 16 := by
  unfold fromM; split
  · rename_i h; exact ⟨_, rfl, h⟩
  · exact ⟨0, rfl, Nat.zero_le _⟩
/-- .. is a machine, where the table's rows are permutations. -/
theorem fromM_good (hT : T.Ok) {q : Nat} (hq : q < T.n) (h2 : 2 ≤ T.L) (h3 : T.L ≤ 3) (hot : ∀ q x, q < T.n → x < T.L → T.ot q x < T.L) (hinj : ∀ q, q < T.n → ∀ y x, y < x → x < T.L → T.ot q y ≠ T.ot q x) (hc : fromC T q = 0) :
    ∃ s, Good (fromM T q) T.L s := by
  have h : (fin T (fix T) q).length ≤ 16 := by
    unfold fromC at hc
    split at hc
    · assumption
    · cases hc
  refine ⟨(fin T (fix T) q).length, ?_⟩
  have hg : fromM T q = gth T (fix T) (fin T (fix T) q) := by unfold fromM; rw [if_pos h]
  rw [hg]
  have hat : ∀ r, r < (fin T (fix T) q).length → (fin T (fix T) q).getD r 0 < T.n := fun r hr => by
    rw [List.getD_eq_getElem?_getD, List.getElem?_eq_getElem hr]
    exact fin_lt hT hq (List.getElem_mem hr)
  refine ⟨rfl, rfl, h2, h3, fin_pos _ _ _, h, ?_, ?_, ?_, ?_⟩
  · intro r x hr hx
    exact (gth_nx hT hq _).2 (by omega) (by omega)
  · intro r x hr hx
    exact gth_ot hT hq (by omega) hot _
  · intro r hr y x hy hx
    unfold gth gthP
    dsimp only
    rw [if_pos (by omega), if_pos (by omega), show (r * 3 + y) / 3 = r by omega, show (r * 3 + x) / 3 = r by omega, show (r * 3 + y) % 3 = y by omega, show (r * 3 + x) % 3 = x by omega]
    exact hinj _ (hat r hr) y x hy hx
  · intro r x hr hx hn
    unfold gth gthP
    dsimp only
    rw [if_neg (by omega), if_neg (by omega)]
    exact ⟨rfl, rfl⟩
theorem tabOf_ot {m : Mach} {l s : Nat} (g : Good m l s) : ∀ q x, q < (tabOf m l s).n → x < (tabOf m l s).L → (tabOf m l s).ot q x < (tabOf m l s).L := fun q x hq hx => g.ot q x hq hx
theorem tabOf_inj {m : Mach} {l s : Nat} (g : Good m l s) : ∀ q, q < (tabOf m l s).n → ∀ y x, y < x → x < (tabOf m l s).L → (tabOf m l s).ot q y ≠ (tabOf m l s).ot q x := fun q hq y x hy hx => g.inj q hq y x hy hx
end
end Go.Proofs.Ytbmkkaecfogmoaa

/- States that do the same have the same machine. -/
namespace Go.Proofs.Ytbmkkaecfogmoaa
set_option linter.unusedVariables false
set_option linter.unusedSimpArgs false

/-- A relation between the states of two tables that goes on. -/
structure Bis (T U : Tab) (R : Nat → Nat → Prop) : Prop where
  L : T.L = U.L
  l : ∀ {a b}, R a b → a < T.n
  r : ∀ {a b}, R a b → b < U.n
  ot : ∀ {a b}, R a b → ∀ x, x < T.L → T.ot a x = U.ot b x
  nx : ∀ {a b}, R a b → ∀ x, x < T.L → R (T.nx a x) (U.nx b x)
/-- Two states that do the same. -/
def Sim (T : Tab) (p : Nat) (U : Tab) (q : Nat) : Prop := ∃ R, Bis T U R ∧ R p q

section
variable {T U V : Tab} {R : Nat → Nat → Prop}
theorem Sim.refl (hT : T.Ok) {q : Nat} (hq : q < T.n) : Sim T q T q :=
  ⟨fun a b => a = b ∧ a < T.n, ⟨rfl, fun h => h.2, fun h => h.1 ▸ h.2, fun h x _ => by rw [h.1], fun h x hx => ⟨by rw [h.1], hT.nx _ x h.2 hx⟩⟩, rfl, hq⟩
theorem Sim.symm {p q : Nat} (h : Sim T p U q) : Sim U q T p := by
  obtain ⟨R, h, hr⟩ := h
  exact ⟨fun a b => R b a, ⟨h.L.symm, fun k => h.r k, fun k => h.l k, fun k x hx => (h.ot k x (by rw [h.L]; exact hx)).symm, fun k x hx => h.nx k x (by rw [h.L]; exact hx)⟩, hr⟩
theorem Sim.trans {p q r : Nat} (h : Sim T p U q) (k : Sim U q V r) : Sim T p V r := by
  obtain ⟨R, h, hr⟩ := h
  obtain ⟨S, k, ks⟩ := k
  refine ⟨fun a c => ∃ b, R a b ∧ S b c, ⟨h.L.trans k.L, fun ⟨_, h1, _⟩ => h.l h1, fun ⟨_, _, h2⟩ => k.r h2, fun ⟨b, h1, h2⟩ x hx => ?_, fun ⟨b, h1, h2⟩ x hx => ?_⟩, q, hr, ks⟩
  · exact (h.ot h1 x hx).trans (k.ot h2 x (by rw [← h.L]; exact hx))
  · exact ⟨_, h.nx h1 x hx, k.nx h2 x (by rw [← h.L]; exact hx)⟩

theorem Bis.cls (h : Bis T U R) : ∀ k a b a' b', R a b → R a' b' → (cls T k a = cls T k a' ↔ cls U k b = cls U k b')
  | 0, _, _, _, _, _, _ => ⟨fun _ => rfl, fun _ => rfl⟩
  | k + 1, a, b, a', b', h1, h2 => by
    rw [cls_iff, cls_iff, like_iff, like_iff, Bis.cls h k _ _ _ _ h1 h2]
    constructor
    · rintro ⟨e1, e2, e3⟩
      refine ⟨e1, fun x hx => ?_, fun x hx => ?_⟩
      · have hx' : x < T.L := by rw [h.L]; exact hx
        rw [← h.ot h1 x hx', ← h.ot h2 x hx']; exact e2 x hx'
      · have hx' : x < T.L := by rw [h.L]; exact hx
        exact (Bis.cls h k _ _ _ _ (h.nx h1 x hx') (h.nx h2 x hx')).1 (e3 x hx')
    · rintro ⟨e1, e2, e3⟩
      refine ⟨e1, fun x hx => ?_, fun x hx => ?_⟩
      · rw [h.ot h1 x hx, h.ot h2 x hx]; exact e2 x (by rw [← h.L]; exact hx)
      · exact (Bis.cls h k _ _ _ _ (h.nx h1 x hx) (h.nx h2 x hx)).2 (e3 x (by rw [← h.L]; exact hx))

theorem stable_ex (hT : T.Ok) : ∃ k, k ≤ T.n ∧ Stable T k := by
  apply Classical.byContradiction
  intro hn
  have key : ∀ j, j ≤ T.n → j + 1 ≤ cnt1 T (j + 1) T.n := by
    intro j
    induction j with
    | zero => intro _; exact cnt1_pos T 0 T.n hT.pos
    | succ j ih =>
      intro hj
      have h1 := ih (by omega)
      have h2 := stable_or T j (fun hs => hn ⟨j + 1, hj, hs⟩)
      show j + 1 + 1 ≤ cnt1 T (j + 2) T.n
      omega
  have h1 := key T.n (Nat.le_refl _)
  have h2 := cnt1_le T (T.n + 1) T.n
  omega
theorem fix_big (hT : T.Ok) (d q : Nat) (hq : q < T.n) : Go.Proofs.Ytbmkkaecfogmoaa.cls T (T.n + d) q = fix T q := by
  obtain ⟨k, hk, hs⟩ := stable_ex hT
  have h1 := stable_all hT hs (T.n + d - k) q hq
  rw [show k + (T.n + d - k) = T.n + d by omega] at h1
  rw [h1, fix_of hT hk hs q hq]
theorem fix_fix (T : Tab) (q : Nat) : fix T (fix T q) = fix T q := cls_cls T T.n q
theorem fix_ot (T : Tab) (q x : Nat) (hx : x < T.L) : T.ot (fix T q) x = T.ot q x := ((like_iff _ _ _ _).1 (cls_like T T.n q)).2.1 x hx
theorem fix_nx (hT : T.Ok) {q x : Nat} (hq : q < T.n) (hx : x < T.L) : fix T (T.nx (fix T q) x) = fix T (T.nx q x) := by
  have hf := fix_lt (T := T) q hq
  have h : Go.Proofs.Ytbmkkaecfogmoaa.cls T (T.n + 1 + 1) (fix T q) = Go.Proofs.Ytbmkkaecfogmoaa.cls T (T.n + 1 + 1) q := by
    have h1 := fix_big hT 2 _ hf
    have h2 := fix_big hT 2 _ hq
    rw [show T.n + 2 = T.n + 1 + 1 by omega] at h1 h2
    rw [h1, h2, fix_fix]
  exact ((like_iff _ _ _ _).1 ((cls_iff T (T.n + 1) _ _).1 h)).2.2 x hx
theorem Bis.fix (h : Bis T U R) (hT : T.Ok) (hU : U.Ok) {a b a' b' : Nat} (h1 : R a b) (h2 : R a' b') : fix T a = fix T a' ↔ fix U b = fix U b' := by
  rw [← fix_big hT U.n a (h.l h1), ← fix_big hT U.n a' (h.l h2), ← fix_big hU T.n b (h.r h1), ← fix_big hU T.n b' (h.r h2), Nat.add_comm U.n T.n]
  exact h.cls _ _ _ _ _ h1 h2

/-- Classes of states that do the same. -/
def Rc (T U : Tab) (R : Nat → Nat → Prop) (c d : Nat) : Prop := ∃ a b, R a b ∧ c = Go.Proofs.Ytbmkkaecfogmoaa.fix T a ∧ d = Go.Proofs.Ytbmkkaecfogmoaa.fix U b
theorem Rc.of {a b : Nat} (h : R a b) : Rc T U R (Go.Proofs.Ytbmkkaecfogmoaa.fix T a) (Go.Proofs.Ytbmkkaecfogmoaa.fix U b) := ⟨a, b, h, rfl, rfl⟩
theorem Rc.inj (h : Bis T U R) (hT : T.Ok) (hU : U.Ok) {c d c' d' : Nat} (h1 : Rc T U R c d) (h2 : Rc T U R c' d') : c = c' ↔ d = d' := by
  obtain ⟨a, b, hr, rfl, rfl⟩ := h1
  obtain ⟨a', b', hr', rfl, rfl⟩ := h2
  exact h.fix hT hU hr hr'
theorem Rc.nx (h : Bis T U R) (hT : T.Ok) (hU : U.Ok) {c d x : Nat} (h1 : Rc T U R c d) (hx : x < T.L) : Rc T U R (Go.Proofs.Ytbmkkaecfogmoaa.fix T (T.nx c x)) (Go.Proofs.Ytbmkkaecfogmoaa.fix U (U.nx d x)) := by
  obtain ⟨a, b, hr, rfl, rfl⟩ := h1
  rw [fix_nx hT (h.l hr) hx, fix_nx hU (h.r hr) (by rw [← h.L]; exact hx)]
  exact Rc.of (h.nx hr x hx)
theorem Rc.ot (h : Bis T U R) {c d x : Nat} (h1 : Rc T U R c d) (hx : x < T.L) : T.ot c x = U.ot d x := by
  obtain ⟨a, b, hr, rfl, rfl⟩ := h1
  rw [fix_ot T a x hx, fix_ot U b x (by rw [← h.L]; exact hx)]
  exact h.ot hr x hx

/-- Lists in step. -/
inductive Par (S : Nat → Nat → Prop) : List Nat → List Nat → Prop
  | nil : Par S [] []
  | cons {a b : Nat} {l m : List Nat} : S a b → Par S l m → Par S (a :: l) (b :: m)
section
variable {S : Nat → Nat → Prop} {l m : List Nat}
theorem Par.length (h : Par S l m) : l.length = m.length := by
  induction h with
  | nil => rfl
  | cons _ _ ih => simp [ih]
theorem Par.snoc {a b : Nat} (h : Par S l m) (hs : S a b) : Par S (l ++ [a]) (m ++ [b]) := by
  induction h with
  | nil => exact .cons hs .nil
  | cons h1 _ ih => exact .cons h1 ih
theorem Par.get (h : Par S l m) : ∀ {i a b : Nat}, l[i]? = some a → m[i]? = some b → S a b := by
  induction h with
  | nil => intro i a b h1; simp at h1
  | cons hs _ ih =>
    intro i a b h1 h2
    cases i with
    | zero => simp at h1 h2; subst h1; subst h2; exact hs
    | succ i => simp at h1 h2; exact ih h1 h2
theorem Par.mem (h : Par S l m) (hi : ∀ {c d c' d'}, S c d → S c' d' → (c = c' ↔ d = d')) {c d : Nat} (hs : S c d) : c ∈ l ↔ d ∈ m := by
  induction h with
  | nil => simp
  | cons h1 _ ih => rw [List.mem_cons, List.mem_cons, ih, hi hs h1]
theorem Par.idxOf (h : Par S l m) (hi : ∀ {c d c' d'}, S c d → S c' d' → (c = c' ↔ d = d')) {c d : Nat} (hs : S c d) : l.idxOf c = m.idxOf d := by
  induction h with
  | nil => rfl
  | @cons a b l m h1 _ ih =>
    rw [List.idxOf_cons, List.idxOf_cons, ih]
    have := hi h1 hs
    by_cases e : a = c
    · have e2 := this.1 e
      subst e; subst e2; simp
    · have e2 : ¬ b = d := fun k => e (this.2 k)
      have f1 : (a == c) = false := by simpa using e
      have f2 : (b == d) = false := by simpa using e2
      rw [f1, f2]
end
theorem par_meet (h : Bis T U R) (hT : T.Ok) (hU : U.Ok) {l m : List Nat} {c d : Nat} (hp : Par (Rc T U R) l m) (hs : Rc T U R c d) : Par (Rc T U R) (meet l c) (meet m d) := by
  have hm := hp.mem (fun h1 h2 => Rc.inj h hT hU h1 h2) hs
  unfold meet
  by_cases e : c ∈ l
  · rw [if_pos e, if_pos (hm.1 e)]; exact hp
  · rw [if_neg e, if_neg (fun k => e (hm.2 k))]; exact hp.snoc hs
theorem par_meets (h : Bis T U R) (hT : T.Ok) (hU : U.Ok) {l m : List Nat} {s t : Nat} (hp : Par (Rc T U R) l m) (hs : Rc T U R s t) : ∀ x, x ≤ T.L → Par (Rc T U R) (meets T (Go.Proofs.Ytbmkkaecfogmoaa.fix T) s l x) (meets U (Go.Proofs.Ytbmkkaecfogmoaa.fix U) t m x)
  | 0, _ => hp
  | x + 1, hx => par_meet h hT hU (par_meets h hT hU hp hs x (by omega)) (hs.nx h hT hU (by omega))
theorem par_bfs (h : Bis T U R) (hT : T.Ok) (hU : U.Ok) {p q : Nat} (hr : R p q) : ∀ i, Par (Rc T U R) (bfs T (Go.Proofs.Ytbmkkaecfogmoaa.fix T) p i) (bfs U (Go.Proofs.Ytbmkkaecfogmoaa.fix U) q i)
  | 0 => .cons (Rc.of hr) .nil
  | i + 1 => by
    have ih := par_bfs h hT hU hr i
    have hl := ih.length
    unfold bfs
    rcases Nat.lt_or_ge i (bfs T (Go.Proofs.Ytbmkkaecfogmoaa.fix T) p i).length with hi | hi
    · rw [List.getElem?_eq_getElem hi, List.getElem?_eq_getElem (show i < (bfs U (Go.Proofs.Ytbmkkaecfogmoaa.fix U) q i).length by omega)]
      dsimp only
      have hs := ih.get (List.getElem?_eq_getElem hi) (List.getElem?_eq_getElem (show i < (bfs U (Go.Proofs.Ytbmkkaecfogmoaa.fix U) q i).length by omega))
      have := par_meets h hT hU ih hs T.L (Nat.le_refl _)
      rw [h.L] at this ⊢
      exact this
    · rw [List.getElem?_eq_none hi, List.getElem?_eq_none (show (bfs U (Go.Proofs.Ytbmkkaecfogmoaa.fix U) q i).length ≤ i by omega)]
      exact ih
theorem fin_big (hT : T.Ok) {q : Nat} (hq : q < T.n) (d : Nat) : bfs T (Go.Proofs.Ytbmkkaecfogmoaa.fix T) q (T.n + d) = fin T (Go.Proofs.Ytbmkkaecfogmoaa.fix T) q :=
  bfs_stay T _ (bfs_uniq hT (fun r hr => fix_lt r hr) q hq T.n).len d
theorem par_fin (h : Bis T U R) (hT : T.Ok) (hU : U.Ok) {p q : Nat} (hr : R p q) : Par (Rc T U R) (fin T (Go.Proofs.Ytbmkkaecfogmoaa.fix T) p) (fin U (Go.Proofs.Ytbmkkaecfogmoaa.fix U) q) := by
  rw [← fin_big hT (h.l hr) U.n, ← fin_big hU (h.r hr) T.n, Nat.add_comm U.n T.n]
  exact par_bfs h hT hU hr _
theorem gth_eq (h : Bis T U R) (hT : T.Ok) (hU : U.Ok) {l m : List Nat} (hp : Par (Rc T U R) l m) : gth T (Go.Proofs.Ytbmkkaecfogmoaa.fix T) l = gth U (Go.Proofs.Ytbmkkaecfogmoaa.fix U) m := by
  have hl := hp.length
  have key : ∀ p, (p / 3 < l.length ∨ p / 3 = l.length ∧ p % 3 < 0) ∧ p % 3 < U.L → Rc T U R (l.getD (p / 3) 0) (m.getD (p / 3) 0) := fun p hp' => by
    have h1 : p / 3 < l.length := by omega
    have h2 : p / 3 < m.length := by omega
    rw [List.getD_eq_getElem?_getD, List.getD_eq_getElem?_getD, List.getElem?_eq_getElem h1, List.getElem?_eq_getElem h2]
    exact hp.get (List.getElem?_eq_getElem h1) (List.getElem?_eq_getElem h2)
  unfold gth gthP
  rw [← hl, h.L]
  congr 1
  · funext p
    by_cases e : (p / 3 < l.length ∨ p / 3 = l.length ∧ p % 3 < 0) ∧ p % 3 < U.L
    · rw [if_pos e, if_pos e]
      exact hp.idxOf (fun h1 h2 => Rc.inj h hT hU h1 h2) ((key p e).nx h hT hU (by rw [h.L]; exact e.2))
    · rw [if_neg e, if_neg e]
  · funext p
    by_cases e : (p / 3 < l.length ∨ p / 3 = l.length ∧ p % 3 < 0) ∧ p % 3 < U.L
    · rw [if_pos e, if_pos e]
      exact (key p e).ot h (by rw [h.L]; exact e.2)
    · rw [if_neg e, if_neg e]
/-- States that do the same have the same machine. -/
theorem Sim.canon {p q : Nat} (h : Sim T p U q) (hT : T.Ok) (hU : U.Ok) : fromM T p = fromM U q ∧ fromC T p = fromC U q := by
  obtain ⟨R, h, hr⟩ := h
  have hp := par_fin h hT hU hr
  have hl := hp.length
  unfold fromM fromC
  rw [hl, gth_eq h hT hU hp]
  exact ⟨rfl, rfl⟩
theorem fromC_eq (T : Tab) (q : Nat) : fromC T q = 0 ↔ (fin T (Go.Proofs.Ytbmkkaecfogmoaa.fix T) q).length ≤ 16 := by
  unfold fromC
  by_cases h : (fin T (Go.Proofs.Ytbmkkaecfogmoaa.fix T) q).length ≤ 16
  · rw [if_pos h]; exact ⟨fun _ => h, fun _ => rfl⟩
  · rw [if_neg h]; exact ⟨fun k => absurd k (by decide), fun k => absurd k h⟩
theorem fin_zero (T : Tab) (q : Nat) : (fin T (Go.Proofs.Ytbmkkaecfogmoaa.fix T) q)[0]? = some (Go.Proofs.Ytbmkkaecfogmoaa.fix T q) := by
  obtain ⟨r, hr⟩ := bfs_pre T (Go.Proofs.Ytbmkkaecfogmoaa.fix T) q 0 T.n
  rw [Nat.zero_add] at hr
  unfold fin
  rw [hr]; simp [bfs]
/-- A table's few states are no limit. -/
theorem fromC_few (hT : T.Ok) {q : Nat} (hq : q < T.n) (hn : T.n ≤ 16) : fromC T q = 0 := by
  rw [fromC_eq]
  exact Nat.le_trans (bfs_uniq hT (fun r hr => fix_lt r hr) q hq T.n).len hn
/-- The machine of a state does what the state does. -/
theorem Sim.of_from (hT : T.Ok) {q : Nat} (hq : q < T.n) (h3 : T.L ≤ 3) (hc : fromC T q = 0) {s : Nat} (hs : (fromM T q).S = s) : Sim (tabOf (fromM T q) T.L s) 0 T q := by
  have h16 := (fromC_eq T q).1 hc
  have hM : fromM T q = gth T (Go.Proofs.Ytbmkkaecfogmoaa.fix T) (fin T (Go.Proofs.Ytbmkkaecfogmoaa.fix T) q) := by unfold fromM; rw [if_pos h16]
  rw [hM] at hs ⊢
  have hcl := fin_closed hT (c := Go.Proofs.Ytbmkkaecfogmoaa.fix T) (fun r hr => fix_lt r hr) hq
  have hf0 := fin_zero T q
  generalize fin T (Go.Proofs.Ytbmkkaecfogmoaa.fix T) q = st at *
  have hs' : s = st.length := by
    have : ((st.length : Nat) : Int) = s := hs
    omega
  subst hs'
  have lt : ∀ {i c : Nat}, st[i]? = some c → i < st.length := fun h => (List.getElem?_eq_some_iff.1 h).1
  refine ⟨fun i a => st[i]? = some (Go.Proofs.Ytbmkkaecfogmoaa.fix T a) ∧ a < T.n, ⟨rfl, fun h => lt h.1, fun h => h.2, fun {i a} h x hx => ?_, fun {i a} h x hx => ⟨?_, hT.nx _ x h.2 hx⟩⟩, hf0, hq⟩
  · have hi := lt h.1
    have hx' : x < T.L := hx
    show (gth T (Go.Proofs.Ytbmkkaecfogmoaa.fix T) st).ot (i * 3 + x) = _
    unfold gth gthP
    dsimp only
    rw [if_pos (by omega), show (i * 3 + x) / 3 = i by omega, show (i * 3 + x) % 3 = x by omega, List.getD_eq_getElem?_getD, h.1]
    exact fix_ot T a x hx'
  · have hi := lt h.1
    have hx' : x < T.L := hx
    show st[(gth T (Go.Proofs.Ytbmkkaecfogmoaa.fix T) st).nx (i * 3 + x)]? = _
    have e : (gth T (Go.Proofs.Ytbmkkaecfogmoaa.fix T) st).nx (i * 3 + x) = st.idxOf (Go.Proofs.Ytbmkkaecfogmoaa.fix T (T.nx a x)) := by
      unfold gth gthP
      dsimp only
      rw [if_pos (by omega), show (i * 3 + x) / 3 = i by omega, show (i * 3 + x) % 3 = x by omega, List.getD_eq_getElem?_getD, h.1]
      show st.idxOf (Go.Proofs.Ytbmkkaecfogmoaa.fix T (T.nx (Go.Proofs.Ytbmkkaecfogmoaa.fix T a) x)) = _
      rw [fix_nx hT h.2 hx']
    have hmem : Go.Proofs.Ytbmkkaecfogmoaa.fix T (T.nx a x) ∈ st := by
      have := hcl _ (List.mem_of_getElem? h.1) x hx'
      rwa [fix_nx hT h.2 hx'] at this
    rw [e]
    have hlt := List.idxOf_lt_length_of_mem hmem
    rw [List.getElem?_eq_getElem hlt, List.getElem_idxOf hlt]
end

end Go.Proofs.Ytbmkkaecfogmoaa

/- What a state of a table makes of words. -/
namespace Go.Proofs.Ytbmkkaecfogmoaa
set_option linter.unusedVariables false
set_option linter.unusedSimpArgs false

/-- What a state of a table makes of a word. -/
def imgT (T : Tab) : Nat → List Nat → List Nat
  | _, [] => []
  | q, x :: u => T.ot q x :: imgT T (T.nx q x) u
theorem imgT_tab (m : Mach) (l s : Nat) : ∀ (u : List Nat) (q : Nat), imgT (tabOf m l s) q u = img m q u
  | [], _ => rfl
  | x :: u, q => by
    show m.ot (q * 3 + x) :: imgT (tabOf m l s) (m.nx (q * 3 + x)) u = _
    rw [imgT_tab m l s u]; rfl
section
variable {T U : Tab}
theorem Sim.imgT {p q : Nat} (h : Sim T p U q) : ∀ u : List Nat, (∀ x ∈ u, x < T.L) → imgT T p u = imgT U q u := by
  obtain ⟨R, h, hr⟩ := h
  intro u
  induction u generalizing p q with
  | nil => intro _; rfl
  | cons x u ih =>
    intro hu
    have hx := hu x (by simp)
    show T.ot p x :: Go.Proofs.Ytbmkkaecfogmoaa.imgT T (T.nx p x) u = U.ot q x :: Go.Proofs.Ytbmkkaecfogmoaa.imgT U (U.nx q x) u
    rw [h.ot hr x hx, ih (h.nx hr x hx) fun z hz => hu z (by simp [hz])]
/-- States that lead all words alike do the same. -/
theorem Sim.of_imgT (hT : T.Ok) (hU : U.Ok) (hL : T.L = U.L) {p q : Nat} (hp : p < T.n) (hq : q < U.n) (h : ∀ u : List Nat, (∀ x ∈ u, x < T.L) → Go.Proofs.Ytbmkkaecfogmoaa.imgT T p u = Go.Proofs.Ytbmkkaecfogmoaa.imgT U q u) : Sim T p U q := by
  refine ⟨fun a b => a < T.n ∧ b < U.n ∧ ∀ u : List Nat, (∀ x ∈ u, x < T.L) → Go.Proofs.Ytbmkkaecfogmoaa.imgT T a u = Go.Proofs.Ytbmkkaecfogmoaa.imgT U b u, ⟨hL, fun h => h.1, fun h => h.2.1, fun {a b} h x hx => ?_, fun {a b} h x hx => ⟨hT.nx a x h.1 hx, hU.nx b x h.2.1 (hL ▸ hx), fun u hu => ?_⟩⟩, hp, hq, h⟩
  · have := h.2.2 [x] (by simpa using hx)
    simpa [Go.Proofs.Ytbmkkaecfogmoaa.imgT] using this
  · have := h.2.2 (x :: u) (by intro z hz; rcases List.mem_cons.1 hz with rfl | hz; exact hx; exact hu z hz)
    simp only [Go.Proofs.Ytbmkkaecfogmoaa.imgT, List.cons.injEq] at this
    exact this.2
end
end Go.Proofs.Ytbmkkaecfogmoaa

/- The reference's least equal states of a large machine. -/
namespace Go.Proofs.Ytbmkkaecfogmoaa
open Go.RowKit
set_option linter.unusedVariables false
set_option linter.unusedSimpArgs false

/-- Equal rows of bytes. -/
theorem rc1_iff (f : Nat → Nat → Nat) (L a b : Nat) (hL : L ≤ 3) : rc1 .u8 f L a = rc1 .u8 f L b ↔ (alls L fun x => f a x == f b x) = true := by
  rw [alls_iff]
  constructor
  · intro h x hx
    have h1 := rc1_get .u8 f L a x (by omega)
    rw [h, rc1_get .u8 f L b x (by omega), if_pos hx, if_pos hx] at h1
    simp at h1; simp; omega
  · intro h
    unfold rc1
    apply List.map_congr_left
    intro x _
    by_cases hx : x < L
    · have := h x hx
      simp at this
      rw [if_pos hx, if_pos hx, this]
    · rw [if_neg hx, if_neg hx]
theorem lit3_iff {a b c a' b' c' : Nat} : ([Value.int .u8 (a : Int), .int .u8 (b : Int), .int .u8 (c : Int)] = [.int .u8 (a' : Int), .int .u8 (b' : Int), .int .u8 (c' : Int)]) ↔ a = a' ∧ b = b' ∧ c = c' := by
  constructor
  · intro h; simp at h; omega
  · rintro ⟨rfl, rfl, rfl⟩; rfl
theorem rc1_lit256 (f : Nat → Nat → Nat) (L q : Nat) (h : ∀ x, x < L → f q x < 256) : ∃ a b c : Nat, rc1 .u8 f L q = [.int .u8 (a : Int), .int .u8 (b : Int), .int .u8 (c : Int)] ∧ a < 256 ∧ b < 256 ∧ c < 256 := by
  have hx : ∀ x, (if x < L then f q x else 0) < 256 := fun x => by
    by_cases hx : x < L
    · rw [if_pos hx]; exact h x hx
    · rw [if_neg hx]; omega
  exact ⟨_, _, _, rfl, hx 0, hx 1, hx 2⟩
theorem clsL_stable {T : Tab} {k : Nat} (h : Stable T k) : clsL T (k + 1) T.n = clsL T k T.n := by
  unfold clsL
  apply List.map_congr_left
  intro q hq
  exact h q (List.mem_range.1 hq)
/-- A list filled up to q, with x at q. -/
theorem filL_at (f : Nat → Nat) (q n x : Nat) (hq : q < n) : ∀ j, j < n → ((nats (filL f q n)).set q (.int .i64 (x : Int)))[j]? = some (.int .i64 ((if j = q then x else if j < q then f j else 0 : Nat) : Int)) := fun j hj => by
  rw [List.getElem?_set]
  by_cases e : q = j
  · subst e; rw [if_pos rfl, if_pos (by rw [nats_length, filL_length]; exact hj), if_pos rfl]
  · rw [if_neg e, if_neg (Ne.symm e)]
    simp [nats, filL, hj]
theorem filL_done (f : Nat → Nat) (q n x : Nat) (h : x = f q) : (nats (filL f q n)).set q (.int .i64 (x : Int)) = nats (filL f (q + 1) n) := by subst h; exact filL_set f q n

set_option maxHeartbeats 8000000 in
set_option maxRecDepth 100000 in
theorem l07Classes_any (w : World) (base : Nat) (vN vO : Value) (T : Tab) (hT : T.Ok) (hL : T.L ≤ 3) (hL0 : 0 < T.L) (hn : T.n < 100000) (hot : ∀ q x, q < T.n → x < T.L → T.ot q x < 256) (hG : LG w base vN vO T) :
    Calls Try.prog 246 #[.agg #[.int .i64 T.L, vN, vO]] w fun e w' => ∃ v, e = .returned v ∧ Own w' w.heap.size 2 v (nats ((List.range T.n).map (fix T))) ∧ Below w.heap.size w w' := by
  have hpos := hT.pos
  obtain ⟨gN, cN, rfl⟩ := hG.1.blk hpos
  obtain ⟨gO, cO, rfl⟩ := hG.2.blk hpos
  have hGW := hid (fun W (hb : Below w.heap.size w W) => hG.below hb)
  have hcN := hid (fun W (hb : Below w.heap.size w W) q x (hq : q < T.n) (hx : x < T.L) => (hG.below hb).1.cellAt (q * 3 + x) _ (rcs_in .i64 T.nx T.L T.n q x hq hx hL))
  have hrO := hid (fun W (hb : Below w.heap.size w W) q (hq : q < T.n) => (hG.below hb).2.range (q * 3) (rc1 .u8 T.ot T.L q) (rcs_row .u8 T.ot T.L T.n q hq))
  have hrw := hid (fun a b => rc1_iff T.ot T.L a b hL)
  have hS := hid ((St.start w).newBlk #[.int .i64 T.L, .slice (some ⟨gN, 0, none⟩) T.n cN, .slice (some ⟨gO, 0, none⟩) T.n cO] 232)
  have hmk := fun W : World => run_make_row' (P := Try.prog) 29 2 (.int .i64 0) 8 Try.underlying29 info_i64 rfl .i64 .i64 T.n (by omega) (by omega) W
  have hmc := hid (toList_madeCells_one (.int .i64 0) T.n)
  generalize madeCells #[.int .i64 0] T.n = mc at *
  have hmcs := hid (show mc.size = T.n by rw [← Array.length_toList, hmc.out, List.length_replicate])
  have hcb := hid (fun k => cnt1_le T (k + 1) T.n)
  have hcp := hid (fun k => cnt1_pos T k T.n hpos)
  have hst := hid (fun k => stable_or T k)
  have hsc := hid (fun k (h : Stable T (k + 1)) => stable_cnt h)
  have hfx := hid (fun k hk h => clsL_fix hT (k := k) hk h)
  have hnx := hid (fun q x (hq : q < T.n) (hx : x < T.L) => hT.nx q x hq hx)
  have hc0 := hid (show clsL T 0 T.n = filL (cls T 0) 0 T.n by unfold clsL filL; apply List.map_congr_left; intro j _; simp [cls])
  have hlk := hid (fun k r q => like_iff T (cls T k) r q)
  have hci := hid (fun k r q => cls_iff T k r q)
  have hcle := hid (fun k q => cls_le T k q)
  have hcs' := hid (fun k q (h : ∀ j, j < q → like T (cls T k) j q = false) => (show cls T (k + 1) q = q from by rw [cls_succ]; exact fst_eq _ _ _ (Nat.le_refl _) h (fun h' => absurd h' (Nat.lt_irrefl _))))
  have hlit := hid (fun q (hq : q < T.n) => rc1_lit256 T.ot T.L q (fun x hx => hot q x hq hx))
  have hcst := hid (fun k (h : Stable T k) => clsL_stable h)
  have hgd := guard_b3
  have hall := hid (fun L' p => alls_iff L' p)
  replace hT := hid hT
  clear hG
  generalize hnn : T.n = n at *
  replace hnn := hid hnn
  generalize hLL : T.L = L at *
  replace hLL := hid hLL
  have hcl : w.heap.size < w.heap.size + 1 := Nat.lt_succ_self _
  have e0 : (w.alloc (.cells #[.int .i64 L, .slice (some ⟨gN, 0, none⟩) n cN, .slice (some ⟨gO, 0, none⟩) n cO] 232)).cell? ⟨w.heap.size, 1, none⟩ = some (.slice (some ⟨gN, 0, none⟩) n cN) := cell_of_row _ _ 1 _ _ _ hS.out.k0
  go_enter Try.func246, Try.ntmps246
  go_wp2
  have yS := hid (hS.out.newArr mc n hmcs.out 2 (by omega))
  rw [hmc.out, filL_zero (cls T 0) n, ← hc0.out, heap_alloc_size] at yS
  clear hS e0
  generalize (w.alloc (.cells #[.int .i64 L, .slice (some ⟨gN, 0, none⟩) n cN, .slice (some ⟨gO, 0, none⟩) n cO] 232)).alloc (.cells mc 2) = w1 at *
  go_loopg [4, 5] n (fun gk v ks wr => ∃ k K : Nat, ks = .int .i64 K ∧ k ≤ K ∧ (k = 0 → K = 0) ∧ (k ≠ 0 → K = cnt1 T k n) ∧ gk = n - k ∧ St w.heap.size w [Asn.own w.heap.size 2 v (nats (clsL T k n)), Asn.blk w.heap.size #[.int .i64 L, .slice (some ⟨gN, 0, none⟩) n cN, .slice (some ⟨gO, 0, none⟩) n cO] 232] wr)
  case atStart => exact ⟨0, 0, rfl, Nat.le_refl _, fun _ => rfl, fun h => absurd rfl h, rfl, yS.out⟩
  case round =>
    obtain ⟨k, K, rfl, hkK, hK0, hK1, rfl, rS⟩ := hrel
    clear yS
    replace hK0 := hid hK0; replace hK1 := hid hK1
    obtain ⟨g1, c1, rfl, _, _⟩ := rS.o0.blk (fun e => by have h1 := congrArg List.length e; rw [nats_length, clsL_length, List.length_nil] at h1; omega)
    rw [nats_length, clsL_length] at rS ⊢
    have yS := hid (rS.newArr mc n hmcs.out 2 (by omega))
    rw [hmc.out, filL_zero (cls T (k + 1)) n] at yS
    clear rS
    go_wp2
    generalize wr.alloc (.cells mc 2) = wa at *
    generalize wr.heap.size = g2 at *
    go_loopw [7, 8] (fun ct i wr => ∃ q : Nat, q ≤ n ∧ i = .int .i64 q ∧ ct = .int .i64 (cnt1 T (k + 1) q : Nat) ∧ St w.heap.size w [Asn.own w.heap.size 2 (.slice (some ⟨g2, 0, none⟩) n n) (nats (filL (cls T (k + 1)) q n)), Asn.own w.heap.size 2 (.slice (some ⟨g1, 0, none⟩) n c1) (nats (clsL T k n)), Asn.blk w.heap.size #[.int .i64 L, .slice (some ⟨gN, 0, none⟩) n cN, .slice (some ⟨gO, 0, none⟩) n cO] 232] wr) (fun _ i _ => n - (intOf i).toNat)
    case atStart => exact ⟨0, Nat.zero_le _, rfl, rfl, yS.out⟩
    case round =>
      obtain ⟨q, hq, rfl, rfl, zS⟩ := hrel
      clear yS
      replace zS := hid zS
      by_cases hqn : q < n
      · have dq : decide ((q : Int) < (n : Int)) = true := decide_eq_true (by omega)
        obtain ⟨u, hu⟩ := filL_get (cls T (k + 1)) q n q hqn
        have co := Own.cellAt zS.out.o0 q u hu
        have fo := Own.frozenAt zS.out.o0 (by rw [nats_length, filL_length]) q
        have tS := hid (zS.out.setOwn (by rw [nats_length, filL_length]) q (.int .i64 (q : Int)) hqn)
        have hct := cnt1_le T (k + 1) q
        have hcs := hid (show cnt1 T (k + 1) (q + 1) = cnt1 T (k + 1) q + if cls T (k + 1) q = q then 1 else 0 from rfl)
        clear hu zS
        generalize cnt1 T (k + 1) q = ct at *
        go_upto_region 8 with (fail)
        clear co fo
        generalize wr.setCell ⟨g2, q, none⟩ (.int .i64 (q : Int)) = wb at *
        go_wp2
        go_loopw [9] (fun i wr => ∃ r : Nat, r ≤ q ∧ i = .int .i64 r ∧ Hid (∀ j, j < r → like T (cls T k) j q = false) ∧ St w.heap.size w [Asn.own w.heap.size 2 (.slice (some ⟨g2, 0, none⟩) n n) ((nats (filL (cls T (k + 1)) q n)).set q (.int .i64 (q : Int))), Asn.own w.heap.size 2 (.slice (some ⟨g1, 0, none⟩) n c1) (nats (clsL T k n)), Asn.blk w.heap.size #[.int .i64 L, .slice (some ⟨gN, 0, none⟩) n cN, .slice (some ⟨gO, 0, none⟩) n cO] 232] wr) (fun i _ => q - (intOf i).toNat)
        case atStart => exact ⟨0, Nat.zero_le _, rfl, fun j hj => absurd hj (by omega), tS.out⟩
        case round =>
          obtain ⟨r, hr, rfl, hno, uS⟩ := hrel
          clear tS
          replace uS := hid uS
          have hat := hid (filL_at (cls T (k + 1)) q n q hqn)
          by_cases hrq : r < q
          · have hrn : r < n := by omega
            have e1 := Own.cellAt uS.out.o1 q _ (clsL_get T k n q hqn)
            have e2 := Own.cellAt uS.out.o1 r _ (clsL_get T k n r hrn)
            have e3 : wr.cell? ⟨w.heap.size, 2, none⟩ = some (.slice (some ⟨gO, 0, none⟩) n cO) := cell_of_row _ _ 2 _ _ _ uS.out.k2
            have rq := hid (hrO.out wr uS.out.bel q hqn)
            have rr := hid (hrO.out wr uS.out.bel r hrn)
            have hoe := hid (hrw.out r q)
            have hl := hid (hlk.out k r q)
            obtain ⟨a0, a1, a2, hra, ha⟩ := hlit.out q hqn
            obtain ⟨b0, b1, b2, hrb, hb⟩ := hlit.out r hrn
            rw [hra, hrb, lit3_iff] at hoe
            rw [hra] at rq
            rw [hrb] at rr
            clear hra hrb
            have ea0 : wr.cell? ⟨gO, q * 3, none⟩ = some (.int .u8 (a0 : Int)) := rq.out 0 _ rfl
            have ea1 : wr.cell? ⟨gO, q * 3 + 1, none⟩ = some (.int .u8 (a1 : Int)) := rq.out 1 _ rfl
            have ea2 : wr.cell? ⟨gO, q * 3 + 2, none⟩ = some (.int .u8 (a2 : Int)) := rq.out 2 _ rfl
            have eb0 : wr.cell? ⟨gO, r * 3, none⟩ = some (.int .u8 (b0 : Int)) := rr.out 0 _ rfl
            have eb1 : wr.cell? ⟨gO, r * 3 + 1, none⟩ = some (.int .u8 (b1 : Int)) := rr.out 1 _ rfl
            have eb2 : wr.cell? ⟨gO, r * 3 + 2, none⟩ = some (.int .u8 (b2 : Int)) := rr.out 2 _ rfl
            generalize hcq : cls T k q = cq at *
            generalize hcr : cls T k r = cr at *
            replace hcq := hid hcq; replace hcr := hid hcr
            have hnext : Hid (like T (cls T k) r q = false → ∀ j, j < r + 1 → like T (cls T k) j q = false) := fun h j hj => by
              by_cases e : j = r
              · subst e; exact h
              · exact hno.out j (by omega)
            have dr : decide ((r : Int) < (q : Int)) = true := decide_eq_true (by omega)
            by_cases hcc : cq = cr
            · subst hcc
              have hbz : ((cq : Int) == (cq : Int)) = true := by simp
              obtain ⟨ro, hro⟩ : ∃ ro : Bool, Hid (Tells ro (a0 = b0 ∧ a1 = b1 ∧ a2 = b2)) := ⟨decide _, decide_eq_true_iff⟩
              have heq := fun W : World => eq_b3 W a0 a1 a2 b0 b1 b2 ha hb ro hro.out
              clear ha hb
              go_upto_region 11 with (fail)
              go_quiet (fail)
              clear ea0 ea1 ea2 eb0 eb1 eb2 e1 e2 e3 heq rq rr hbz
              replace uS := hid (uS.out.drewN nq)
              generalize wr.drewN nq = wc at *
              go_wp2
              go_loopw [10, 11] (fun sm i wr => ∃ x : Nat, x ≤ L ∧ i = .int .i64 x ∧ sm = .bool (ro && alls x fun y => cls T k (T.nx q y) == cls T k (T.nx r y)) ∧ St w.heap.size w [Asn.own w.heap.size 2 (.slice (some ⟨g2, 0, none⟩) n n) ((nats (filL (cls T (k + 1)) q n)).set q (.int .i64 (q : Int))), Asn.own w.heap.size 2 (.slice (some ⟨g1, 0, none⟩) n c1) (nats (clsL T k n)), Asn.blk w.heap.size #[.int .i64 L, .slice (some ⟨gN, 0, none⟩) n cN, .slice (some ⟨gO, 0, none⟩) n cO] 232] wr) (fun _ i _ => L - (intOf i).toNat)
              case atStart => exact ⟨0, Nat.zero_le _, rfl, by simp [alls], uS.out⟩
              case round =>
                obtain ⟨x, hx, rfl, rfl, vS⟩ := hrel
                clear uS
                replace vS := hid vS
                have e0 : wr.cell? ⟨w.heap.size, 0, none⟩ = some (.int .i64 (L : Int)) := cell_of_row _ _ 0 _ _ _ vS.out.k2
                have hsx := hid (alls_succ x fun y => cls T k (T.nx q y) == cls T k (T.nx r y))
                cases hsv : (ro && alls x fun y => cls T k (T.nx q y) == cls T k (T.nx r y)) with
                | false =>
                  have hlf := hid (hnext.out (by
                    cases hlv : like T (cls T k) r q with
                    | false => rfl
                    | true =>
                      obtain ⟨_, ho1, hx1⟩ := hl.out.1 hlv
                      have h1 : ro = true := hro.out.out.2 (by
                        obtain ⟨u1, u2, u3⟩ := hoe.out.2 ((hall.out _ _).2 fun x hx => by simpa using ho1 x hx)
                        exact ⟨u1.symm, u2.symm, u3.symm⟩)
                      have h2 : (alls x fun y => cls T k (T.nx q y) == cls T k (T.nx r y)) = true := (hall.out _ _).2 fun y hy => by simpa using (hx1 y (by omega)).symm
                      rw [h1, h2] at hsv
                      cases hsv))
                  clear hsv
                  by_cases hxL : x < L
                  · have dx : decide ((x : Int) < (L : Int)) = true := decide_eq_true (by omega)
                    go_wp2
                    go_roundw
                    case rel => exact ⟨r + 1, by omega, by go_num, hlf, vS.out⟩
                    case measure => simp [intOf]; omega
                  · have dx : decide ((x : Int) < (L : Int)) = false := decide_eq_false (by omega)
                    go_wp2
                    go_roundw
                    case rel => exact ⟨r + 1, by omega, by go_num, hlf, vS.out⟩
                    case measure => simp [intOf]; omega
                | true =>
                  rw [Bool.and_eq_true] at hsv
                  have hro1 := hsv.1
                  subst hro1
                  by_cases hxL : x < L
                  · have dx : decide ((x : Int) < (L : Int)) = true := decide_eq_true (by omega)
                    rw [hsv.2] at hsx
                    clear hsv
                    have e1 : wr.cell? ⟨w.heap.size, 1, none⟩ = some (.slice (some ⟨gN, 0, none⟩) n cN) := cell_of_row _ _ 1 _ _ _ vS.out.k2
                    have e2 := hcN.out wr vS.out.bel q x hqn hxL
                    have e3 := hcN.out wr vS.out.bel r x hrn hxL
                    have h1 := hnx.out q x hqn hxL
                    have h2 := hnx.out r x hrn hxL
                    have e4 := Own.cellAt vS.out.o1 _ _ (clsL_get T k n _ h1)
                    have e5 := Own.cellAt vS.out.o1 _ _ (clsL_get T k n _ h2)
                    generalize T.nx q x = a at *
                    generalize T.nx r x = b at *
                    generalize cls T k a = ca at *
                    generalize cls T k b = cb at *
                    have hbeq : (((ca : Nat) : Int) == ((cb : Nat) : Int)) = (ca == cb) := by
                      by_cases e : ca = cb
                      · subst e; simp
                      · have h1 : (ca == cb) = false := by simpa using e
                        rw [h1]
                        have : ((ca : Nat) : Int) ≠ ((cb : Nat) : Int) := by omega
                        simpa using this
                    replace hbeq := hid hbeq
                    have x3 : (x : Int) < 3 := by omega
                    have x0 : (0 : Int) ≤ (x : Int) := Int.natCast_nonneg _
                    go_upto_region 15 with (fail)
                    go_quiet (fail)
                    go_wp2
                    go_roundw
                    case rel => exact ⟨x + 1, by omega, by go_num, by rw [hsx.out]; simp; first | exact hbeq.out | (rw [← hbeq.out]; simp), vS.out.drewN _⟩
                    case measure => simp [intOf]; omega
                  · obtain rfl : L = x := by omega
                    have dx : decide ((L : Int) < (L : Int)) = false := decide_eq_false (by omega)
                    have hlv := hid (show like T (cls T k) r q = true from hl.out.2 ⟨by first | trivial | rfl, fun x hx => by
                        obtain ⟨u1, u2, u3⟩ := hro.out.out.1 rfl
                        have := (hall.out _ _).1 (hoe.out.1 ⟨u1.symm, u2.symm, u3.symm⟩) x hx
                        simpa using this, fun x hx => by have := (hall.out _ _).1 hsv.2 x hx; simpa using (by simpa using this : cls T k (T.nx q x) = cls T k (T.nx r x)).symm⟩)
                    clear hsv
                    have hce := hid ((hci.out k r q).2 hlv.out)
                    have hrr := hid (hcle.out (k + 1) r)
                    have e1 := Own.cellAt vS.out.o0 r _ (hat.out r hrn)
                    rw [if_neg (show ¬ r = q by omega), if_pos hrq] at e1
                    have e2 := Own.cellAt vS.out.o0 q _ (hat.out q hqn)
                    rw [if_pos rfl] at e2
                    have fo := Own.frozenAt vS.out.o0 (by rw [List.length_set, nats_length, filL_length]) q
                    have hdn := hid (filL_done (cls T (k + 1)) q n (cls T (k + 1) r) hce.out)
                    have hsk := hid (show cls T (k + 1) q ≠ q from by have h1 := hce.out; have h2 := hrr.out; omega)
                    have hcrr : cls T (k + 1) r < q := by have h2 := hrr.out; omega
                    generalize hcv : cls T (k + 1) r = cv at *
                    replace hcv := hid hcv
                    have vS2 := hid (vS.out.setOwn (by rw [List.length_set, nats_length, filL_length]) q (.int .i64 (cv : Int)) hqn)
                    rw [List.set_set, hdn.out] at vS2
                    rw [if_neg hsk.out] at hcs
                    have hne : ((cv : Int) == (q : Int)) = false := by simp; omega
                    go_wp2
                    go_roundw
                    case rel => exact ⟨q + 1, by omega, by go_num, by rw [hcs.out]; rfl, vS2.out⟩
                    case measure => simp [intOf]; omega
            · have hcz : ((cq : Int) == (cr : Int)) = false := by simp; omega
              have hlf := hid (hnext.out (by
                cases hlv : like T (cls T k) r q with
                | false => rfl
                | true => exact absurd (hl.out.1 hlv).1.symm hcc))
              have e0 : ∀ d, (wr.drewN d).cell? ⟨w.heap.size, 0, none⟩ = some (.int .i64 (L : Int)) := fun d => cell_of_row _ _ 0 _ _ _ uS.out.k2
              replace e0 := hid e0
              go_upto_region 11 with (fail)
              go_quiet (fail)
              have e00 := e0.out nq
              clear e1 e2 e3 ea0 ea1 ea2 eb0 eb1 eb2 ha hb rq rr hcc
              replace uS := hid (uS.out.drewN nq)
              generalize wr.drewN nq = wc at *
              go_wp2
              go_loopw [10, 11] (fun sm i wr => i = .int .i64 0 ∧ sm = .bool false ∧ wr = wc) (fun _ _ _ => 0)
              case atStart => exact ⟨rfl, rfl, rfl⟩
              case round =>
                obtain ⟨rfl, rfl, rfl⟩ := hrel
                go_wp2
                go_roundw
                case rel => exact ⟨r + 1, by omega, by go_num, hlf, uS.out⟩
                case measure => simp [intOf]; omega
          · obtain rfl : q = r := by omega
            have dr : decide ((q : Int) < (q : Int)) = false := decide_eq_false (by omega)
            have hqq := hid (hcs'.out k q hno.out)
            have e2 := Own.cellAt uS.out.o0 q _ (hat.out q hqn)
            rw [if_pos rfl] at e2
            have hdn := hid (filL_done (cls T (k + 1)) q n q hqq.out.symm)
            rw [hdn.out] at uS
            rw [if_pos hqq.out] at hcs
            have hne : ((q : Int) == (q : Int)) = true := by simp
            go_wp2
            go_roundw
            case rel => exact ⟨q + 1, by omega, by go_num, by rw [hcs.out]; go_num, uS.out⟩
            case measure => simp [intOf]; omega
      · obtain rfl : n = q := by omega
        have dq : decide ((n : Int) < (n : Int)) = false := decide_eq_false (by omega)
        have hS2 := zS.out
        rw [← hnn.out, filL_all, hnn.out] at hS2
        replace hS2 := hid hS2
        clear zS
        have hcn1 := hcb.out k
        have hcn2 := hcp.out k
        by_cases hcK : cnt1 T (k + 1) n = K
        · have hk0 : k ≠ 0 := fun e => by have := hK0.out e; omega
          have hKk := hK1.out hk0
          have hstab := hid (show Stable T k from by
            obtain ⟨k', rfl⟩ : ∃ k', k = k' + 1 := ⟨k - 1, by omega⟩
            apply Classical.byContradiction
            intro h
            have h1 := hst.out k' h
            have h2 : cnt1 T (k' + 2) n = K := hcK
            omega)
          have hf := hid (hfx.out k (by omega) hstab.out)
          have hf2 := hid (hcst.out k hstab.out)
          have hz : ((K : Int) == (K : Int)) = true := by simp
          subst hcK
          have hres := hid (show clsL T (k + 1) n = (List.range n).map (fix T) by rw [hf2.out, hf.out])
          generalize cnt1 T (k + 1) n = K at *
          clear hKk
          go_wp2
          go_ret
          exact ⟨_, rfl, by rw [← hres.out]; exact hS2.out.o0, hS2.out.bel⟩
        · have hz : (((cnt1 T (k + 1) n : Nat) : Int) == (K : Int)) = false := by simp; omega
          have hk1 : k + 1 ≤ cnt1 T (k + 1) n := by
            by_cases hk0 : k = 0
            · omega
            · have hKk := hK1.out hk0
              obtain ⟨k', rfl⟩ : ∃ k', k = k' + 1 := ⟨k - 1, by omega⟩
              by_cases hs : Stable T (k' + 1)
              · have h1 := hsc.out k' hs
                have h2 : cnt1 T (k' + 1 + 1) n ≠ K := hcK
                have h3 : cnt1 T (k' + 1 + 1) n = cnt1 T (k' + 1) n := h1
                omega
              · have h1 := hst.out k' hs
                have h3 : cnt1 T (k' + 1) n < cnt1 T (k' + 1 + 1) n := h1
                omega
          have hmm : n - (k + 1) < n - k := by omega
          replace hk1 := hid hk1
          generalize hKK : cnt1 T (k + 1) n = K2 at *
          replace hKK := hid hKK
          clear hcK
          go_wp2
          go_roundg (n - (k + 1))
          case measure => exact hmm
          case rel => exact ⟨k + 1, K2, rfl, hk1.out, fun h => absurd h (by omega), fun _ => hKK.out.symm, rfl, hS2.out.f1.drop⟩
end Go.Proofs.Ytbmkkaecfogmoaa

/- Machines of few letters and states are compared by ==. -/
namespace Go.Proofs.Ytbmkkaecfogmoaa
open Go.RowKit
set_option linter.unusedVariables false
set_option linter.unusedSimpArgs false

def Sm (m : Mach) : Prop := m.Ok ∧ ∃ a b : Nat, m.L = a ∧ m.S = b ∧ a ≤ 3 ∧ b ≤ 16
theorem Sm.same {m : Mach} (h : Sm m) (w : World) : (Op.equalIn 10000 27 (.agg (mcells m)) (.agg (mcells m))).run Try.prog w = .ok true w := by
  obtain ⟨hk, a, b, ha, hb, la, lb⟩ := h
  exact eq_mach w m m hk hk a b a b ha hb ha hb (by omega) (by omega) (by omega) (by omega) true (iff_of_true rfl rfl)
theorem Sm.zero : Sm ⟨0, 0, fun _ => 0, fun _ => 0⟩ := ⟨fun _ => ⟨show 0 < 256 by decide, show 0 < 256 by decide⟩, 0, 0, rfl, rfl, by decide, by decide⟩
theorem Good.sm {m : Mach} {l s : Nat} (g : Good m l s) (h : m.Ok) : Sm m := ⟨h, l, s, g.L, g.S, g.l3, g.s16⟩
end Go.Proofs.Ytbmkkaecfogmoaa
