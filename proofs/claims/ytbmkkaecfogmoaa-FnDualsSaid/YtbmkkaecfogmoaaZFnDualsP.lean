/- What the proof of FnDuals leans on, part 16 of 26. -/
import Derived.Test.YtbmkkaecfogmoaaZFnDualsO
import Derived.WalkSpells
/- append(dst, src...): a slice behind another one. -/
namespace Go.Proofs.Ytbmkkaecfogmoaa
open Go.RowKit
set_option linter.unusedVariables false
set_option linter.unusedSimpArgs false
-- @LONG

theorem run_append_empty {P : Program} (W : World) (t ty e : TypeId) (i : TypeInfo) (ht : P.underlying t = some (.slice e)) (hi : P.info? e = some i) (base : Nat) (v : Value) (cs : List Value) (h : Own W base e v cs) :
    (Builtin.append_ #[t, t] ty #[v, .slice none 0 0]).run P W = .ok v W := by
  obtain ⟨A, c, rfl, hc, hA⟩ := h.form
  rcases hA with ⟨rfl, rfl, rfl⟩ | ⟨g, rfl, _⟩
  · simp [Builtin.append_, run_underlying ht, sizeOf, typeInfo, hi, Builtin.lenOf, Builtin.firstCells, loadCells, loadCellsFrom]
  · simp [Builtin.append_, run_underlying ht, sizeOf, typeInfo, hi, Builtin.lenOf, Builtin.firstCells, hc, storeCells]
theorem run_append_sl {P : Program} (W : World) (t ty e : TypeId) (z : Value) (bytes : Nat) (ht : P.underlying t = some (.slice e)) (hinfo : (P.info? e).map (fun i => (i.zero, i.size, i.bytes)) = some (some z, 1, bytes)) (hz : z.cells.size = 1) (hb : bytes ≤ 64)
    (base : Nat) (v : Value) (cs : List Value) (h : Own W base e v cs) (hbase : base ≤ W.heap.size) (b2 e2 : Nat) (v2 : Value) (cs2 : List Value) (h2 : Own W b2 e2 v2 cs2) (h1 : ∀ u ∈ cs2, u.oneCell' = true) (hlen : cs.length + cs2.length ≤ 1000000000) :
    ∃ v' w', (Builtin.append_ #[t, t] ty #[v, v2]).run P W = .ok v' w' ∧ Own w' base e v' (cs ++ cs2) ∧ Below base W w' ∧ (∀ k, k < W.heap.size → v.ownBlock ≠ some k → w'.heap[k]? = W.heap[k]?) ∧ (v'.ownBlock = v.ownBlock ∨ v'.ownBlock = some W.heap.size) := by
  obtain ⟨i, hi, hz0, hz1, hz2⟩ := info_parts hinfo
  obtain ⟨A, c, rfl, hc, hA⟩ := h2.form
  rcases hA with ⟨rfl, rfl, rfl⟩ | ⟨g, rfl, _, _, hcell⟩
  · refine ⟨v, W, run_append_empty W t ty e i ht hi base v cs h, by rw [List.append_nil]; exact h, Below.refl _ _, fun _ _ _ => rfl, .inl rfl⟩
  · obtain ⟨v', w', hr, h3, h4, _, h5⟩ := run_append_own_at (P := P) W base t ty e i z 1 bytes ht hi hz0 hz1 hz2 hz (by omega) v cs.length cs h ⟨g, 0, none⟩ cs2.length c cs2 (by omega) (fun j u hu => by rw [Addr.add_mid, Nat.zero_add]; exact hcell j u hu) h1
      (by simp only [maxLen]; omega) (Nat.le_trans (Nat.mul_le_mul_left _ hb) (by omega)) hbase
    have hold : ∀ k, k < W.heap.size → v.ownBlock ≠ some k → w'.heap[k]? = W.heap[k]? := fun k hk hne => h4.block k hk (fun e => hne e.symm)
    refine ⟨v', w', hr, ?_, ⟨h4.os, h4.tape, h4.output, h4.size, fun k hk => hold k (by omega) (fun e => by have := (h.lt k e).1; omega)⟩, hold, h5⟩
    unfold Own
    rw [List.length_append]; exact h3
section
variable {ops : Array Oper} {rest : List Oper} {o : Oper} {act : Act} {W w0 : World} {Q : Exit → Act → World → Prop} {L : List Asn} {base : Nat}
theorem St.appdV {t : Nat} {v v' : Value} {cs cs' : List Value} {w w' : World} (h : St base w0 (Asn.own base t v cs :: L) w) (hO : Own w' base t v' cs') (hb : Below base w w') (hold : ∀ k, k < w.heap.size → v.ownBlock ≠ some k → w'.heap[k]? = w.heap[k]?)
    (hg : v'.ownBlock = v.ownBlock ∨ v'.ownBlock = some w.heap.size) : St base w0 (Asn.own base t v' cs' :: L) w' :=
  h.turn (a' := Asn.own base t v' cs') hO (fun k hk => by
    have hk' : v'.ownBlock = some k := hk
    rcases hg with hg | hg
    · exact .inl (hg.symm.trans hk')
    · rw [hg] at hk'; injection hk' with e; exact .inr (by omega)) (fun k hk => ((show Own w base t v cs from h.star.1).lt k hk).1) hb fun k hk hne => hold k hk hne
theorem St.appS (t e : TypeId) (z : Value) (bytes : Nat)
    (ht : Try.prog.underlying t = some (.slice e)) (hinfo : (Try.prog.info? e).map (fun i => (i.zero, i.size, i.bytes)) = some (some z, 1, bytes)) (hz : z.cells.size = 1) (hb : bytes ≤ 64)
    (hgd : o.guard = none) (s x : Operand) (ho : o.op = .call { callee := .builtin .append, args := #[s, x], argTypes := #[t, t] })
    (v : Value) (cs : List Value) (hs : act.eval s = v) (hS : St base w0 (Asn.own base e v cs :: L) W) (b2 e2 : Nat) (v2 : Value) (cs2 : List Value) (hx : act.eval x = v2) (h2 : Own W b2 e2 v2 cs2) (h1 : ∀ u ∈ cs2, u.oneCell' = true) (hlen : cs.length + cs2.length ≤ 1000000000)
    (h : ∀ v' w', St base w0 (Asn.own base e v' (cs ++ cs2) :: L) w' → wpList Try.prog ops Q rest (act.put o.dst v') w') : wpList Try.prog ops Q (o :: rest) act W := by
  obtain ⟨v', w', hr, h3, h4, h5, h6⟩ := run_append_sl (P := Try.prog) W t o.type e z bytes ht hinfo hz hb base v cs hS.star.1 hS.le b2 e2 v2 cs2 h2 h1 hlen
  refine wpList_plain hgd fun K hK => ?_
  unfold Oper.wp execOp
  simp only [ho, resolve, invoke, builtin, Sem.run_bind, Sem.run_pure, Result.andThen_ok, List.map_toArray, List.map_cons, List.map_nil, hs, hx, hr]
  exact hK _ _ (h v' w' (hS.appdV h3 h4 h5 h6))
end
theorem ints_one (l : List Int) : ∀ u ∈ ints l, u.oneCell' = true := fun u hu => by
  obtain ⟨x, _, rfl⟩ := List.mem_map.1 hu
  rfl

set_option maxHeartbeats 1000000 in
set_option maxRecDepth 100000 in
theorem clone_any (w : World) (base : Nat) (v : Value) (l : List Int) (h : Own w base 2 v (ints l)) (hl : l.length ≤ 1000000) :
    Calls Try.prog 157 #[v] w fun e w' => ∃ v', e = .returned v' ∧ Own w' w.heap.size 2 v' (ints l) ∧ Below w.heap.size w w' := by
  have hil := ints_length l
  have hnil := fun (W : World) (a : Option Addr) (n c : Nat) => Lib.run_eql_slice_nil (P := Try.prog) W 29 2 a n c 0 0 Try.underlying29
  obtain ⟨A, c, rfl, _, hA⟩ := h.form
  rw [hil] at h ⊢
  rcases hA with ⟨rfl, h0, rfl⟩ | ⟨g, rfl, _⟩
  · have hl0 : l = [] := by rw [← List.length_eq_zero_iff, ← hil, h0]; rfl
    subst hl0
    clear h
    go_enter Try.func157, Try.ntmps157
    go_wp2
    go_ret
    exact ⟨_, rfl, Own.nil _ _ _, Below.refl _ _⟩
  · have hS := hid ((St.start w).newOwn [] 2 (by simp))
    have h' := hid (h.alloc (.cells #[] 2))
    clear h
    go_enter Try.func157, Try.ntmps157
    go_wp2_with (first
      | ((with_reducible refine gate (N := 7) rfl ?_); refine St.appS 29 2 (.int .i64 0) 8 Try.underlying29 info_i64 rfl (by omega) rfl _ _ rfl _ _ rfl hS.out _ _ _ _ rfl h'.out (ints_one l) (by rw [hil]; simp; omega) ?_; intro v' w2 hS'; replace hS := hid hS'; clear hS'))
    go_ret
    exact ⟨_, rfl, by have h := hS.out.o0; rw [List.nil_append] at h; exact h, hS.out.bel⟩
end Go.Proofs.Ytbmkkaecfogmoaa

/- ImageOf, SectionOf, PeriodOfWord: the program's side. -/
namespace Go.Proofs.Ytbmkkaecfogmoaa
open Go.RowKit
set_option linter.unusedVariables false
set_option linter.unusedSimpArgs false
-- @LONG

/-- The letters of a text. -/
def lets (ws : ByteArray) : List Nat := ws.data.toList.map fun b => b.toNat - 48
theorem lets_wstr {l : Nat} (ws : ByteArray) (h : IsWd l ws) : ws = wstr (lets ws) ∧ (∀ x ∈ lets ws, x < l) ∧ (lets ws).length ≤ 40 := by
  have e : ws = wstr (lets ws) := wstr_of_bytes ws fun k hk => (h.2 k hk).1
  refine ⟨e, fun x hx => ?_, by unfold lets; rw [List.length_map, Array.length_toList]; exact h.1⟩
  obtain ⟨b, hb, rfl⟩ := List.mem_map.1 hx
  obtain ⟨k, hk, rfl⟩ := List.getElem_of_mem hb
  have hk' : k < ws.size := by simpa using hk
  have h2 := (h.2 k hk').2
  have h1 := (h.2 k hk').1
  have e2 : (ws[k]'hk').toNat = (ws.data.toList[k]).toNat := by simp [ByteArray.getElem_eq_getElem_data]
  omega
theorem IsGw.parts {m : Mach} {l s : Nat} {g : List Int} (gd : Good m l s) (h : IsGw m g) : g.length ≤ 40 ∧ ∀ k ∈ g, isNum s k := by
  have e : m.S.toNat = s := by rw [gd.S]; rfl
  have := h.2
  rw [e] at this; exact this
theorem mat_one {w : World} {b : Nat} {v r : Value} {l : List Int} (hO : Own w b 29 v [r]) (hr : Own w b 2 r (ints l)) : Mat w b v [l] :=
  ⟨[r], hO, rfl, fun i r' l' h1 h2 => by
    cases i with
    | zero => simp at h1 h2; subst h1; subst h2; exact hr
    | succ i => simp at h1⟩
/-- What is asked of a group word and a word: 0, or no group word, or no word. -/
theorem gw_cases (m : Mach) (g : List Int) (ws : ByteArray) : (¬ IsM m ∨ ¬ IsGw m g) ∨ (∃ l s, Good m l s ∧ IsGw m g ∧ ¬ IsWd l ws) ∨ ∃ l s, Good m l s ∧ IsGw m g ∧ IsWd l ws := by
  by_cases h : IsGw m g
  · obtain ⟨l, s, gd⟩ := h.1.good
    by_cases hw : IsWd l ws
    · exact .inr (.inr ⟨l, s, gd, h, hw⟩)
    · exact .inr (.inl ⟨l, s, gd, h, hw⟩)
  · exact .inl (.inr h)
open Classical in
noncomputable def imgAns (m : Mach) (g : List Int) (ws : ByteArray) : ByteArray × Int := if IsGw m g ∧ IsWd m.L ws then (wstr (imgW m m.L.toNat m.S.toNat g (lets ws)), 0) else ({ data := #[] }, 1)
open Classical in
noncomputable def secAns (m : Mach) (g : List Int) (ws : ByteArray) : List Int × Int := if IsGw m g ∧ IsWd m.L ws then (secW m m.L.toNat m.S.toNat g (lets ws), 0) else ([], 1)
section
variable {m : Mach} {l s : Nat} {g : List Int} {ws : ByteArray}
theorem imgAns_1 (h : ¬ IsGw m g) : imgAns m g ws = ({ data := #[] }, 1) := by unfold imgAns; rw [if_neg (fun k => h k.1)]
theorem imgAns_w (gd : Good m l s) (h : ¬ IsWd l ws) : imgAns m g ws = ({ data := #[] }, 1) := by unfold imgAns; rw [gd.L, if_neg (fun k => h k.2)]
theorem imgAns_0 (gd : Good m l s) (h : IsGw m g) (hw : IsWd l ws) : imgAns m g ws = (wstr (imgW m l s g (lets ws)), 0) := by unfold imgAns; rw [gd.L, gd.S, if_pos ⟨h, hw⟩]; rfl
theorem secAns_1 (h : ¬ IsGw m g) : secAns m g ws = ([], 1) := by unfold secAns; rw [if_neg (fun k => h k.1)]
theorem secAns_w (gd : Good m l s) (h : ¬ IsWd l ws) : secAns m g ws = ([], 1) := by unfold secAns; rw [gd.L, if_neg (fun k => h k.2)]
theorem secAns_0 (gd : Good m l s) (h : IsGw m g) (hw : IsWd l ws) : secAns m g ws = (secW m l s g (lets ws), 0) := by unfold secAns; rw [gd.L, gd.S, if_pos ⟨h, hw⟩]; rfl
end

set_option maxHeartbeats 2000000 in
set_option maxRecDepth 4000 in
theorem implImg_any (w : World) (m : Mach) (hkm : m.Ok) (b0 : Nat) (v : Value) (g : List Int) (hg : Own w b0 2 v (ints g)) (hl : g.length < 2000000) (ws : ByteArray) (hws : ws.size < 1000000000000) :
    Calls Try.prog 51 #[.agg (mcells m), v, .string ws] w fun e w' => e = .returned (.tuple #[.string (imgAns m g ws).1, .int .i64 (imgAns m g ws).2]) ∧ Below w.heap.size w w' := by
  obtain ⟨A0, cp0, rfl, _, _⟩ := hg.form
  rw [ints_length] at hg ⊢
  by_cases hbad : ¬ IsGw m g
  · rw [imgAns_1 hbad]
    have hS := hid ((St.arg w hg).newMB m 27)
    have hown := hid (hS.out.newOwn [(Value.slice A0 g.length cp0)] 29 (by simp))
    simp only [heap_alloc_size, List.length_cons, List.length_nil, Nat.zero_add] at hown
    have hgo := hid (fun W b vv (hO : Own W b 29 vv [(Value.slice A0 g.length cp0)]) (hr : Own W b 2 (Value.slice A0 g.length cp0) (ints g)) => groupOf_n W m hkm b vv [g] (mat_one hO hr) (by simp) (by simp; omega) (.inr ⟨g, by simp, hbad⟩))
    replace hkm := hid hkm; replace hg := hid hg; replace hbad := hid hbad
    go_enter Try.func51, Try.ntmps51
    go_wp2_with (first
      | ((with_reducible refine gate (N := 13) rfl ?_); refine load_mach rfl _ rfl w.heap.size rfl m hS.out.m0 ?_)
      | (go_at_call 146; (with_reducible refine (hgo.out _ _ _ (hown.out.o0.mono (Nat.zero_le _)) hown.out.o2).mono ?_); rintro e w1 ⟨rfl, hb⟩; replace hS := hid (hown.out.call hb); clear hgo hown; clear hb))
    go_ret2
    exact ⟨rfl, hS.out.bel⟩
  · have hgw := Classical.not_not.1 hbad
    obtain ⟨l, s, gd⟩ := hgw.1.good
    obtain ⟨hgl, hgn⟩ := hgw.parts gd
    have hS := hid ((St.arg w hg).newMB m 27)
    have hown := hid (hS.out.newOwn [(Value.slice A0 g.length cp0)] 29 (by simp))
    simp only [heap_alloc_size, List.length_cons, List.length_nil, Nat.zero_add] at hown
    have hgo := hid (fun W b vv (hO : Own W b 29 vv [(Value.slice A0 g.length cp0)]) (hr : Own W b 2 (Value.slice A0 g.length cp0) (ints g)) => groupOf_y W m hkm b vv [g] (mat_one hO hr) (by simp) (by simp; omega) l s gd (by simp; exact hgw))
    have hL := hid gd.L
    by_cases hw : IsWd l ws
    · rw [imgAns_0 gd hgw hw]
      obtain ⟨hwe, hwl, hw40⟩ := lets_wstr ws hw
      have hwd := hid (fun W => isWord_any (l : Int) (by have := gd.l2; omega) (by have := gd.l3; omega) ws hws true ⟨fun _ => hw, fun _ => rfl⟩ W)
      have him := hid (fun W G v1 v2 (hG : GM W G m l s v1 v2) (hO : Own W 0 2 (Value.slice A0 g.length cp0) (ints g)) => (by have h := image_any W G m l s gd v1 v2 hG 0 (Value.slice A0 g.length cp0) g hO hgn (by omega) (lets ws) hwl (by omega); rw [← hwe] at h; exact h : Calls Try.prog 153 #[.pointer (some ⟨G, 0, none⟩), (Value.slice A0 g.length cp0), .string ws] W fun e w' => ∃ v', e = .returned (.tuple #[.string (wstr (imgW m l s g (lets ws))), v']) ∧ Own w' 0 2 v' (ints (secW m l s g (lets ws))) ∧ Below W.heap.size W w'))
      replace hkm := hid hkm; replace hg := hid hg; replace hgw := hid hgw; replace gd := hid gd; replace hwe := hid hwe
      clear hbad
      generalize wstr (imgW m l s g (lets ws)) = ans at *
      go_enter Try.func51, Try.ntmps51
      go_wp2_with (first
        | ((with_reducible refine gate (N := 13) rfl ?_); refine load_mach rfl _ rfl w.heap.size rfl m hS.out.m0 ?_)
        | (go_at_call 146; (with_reducible refine (hgo.out _ _ _ (hown.out.o0.mono (Nat.zero_le _)) hown.out.o2).mono ?_); rintro e w1 ⟨G, v1, v2, rfl, hle, hGB, hb⟩; have hGM := hid hGB.gm; replace hS := hid (hown.out.call hb); have cL := hS.out.m1.cL; rw [hL.out] at cL; clear hgo hb hGB hle hown)
        | (go_at_call 128; (with_reducible refine (hwd.out _).mono ?_); rintro e w' ⟨rfl, rfl⟩)
        | (go_at_call 153; (with_reducible refine (him.out _ _ _ _ hGM.out hS.out.o2).mono ?_); rintro e w2 ⟨v', rfl, hO, hb⟩; replace hS := hid (hS.out.call hb); clear hb hO))
      go_ret2
      exact ⟨rfl, hS.out.bel⟩
    · rw [imgAns_w gd hw]
      have hwd := hid (fun W => isWord_any (l : Int) (by have := gd.l2; omega) (by have := gd.l3; omega) ws hws false ⟨fun h => (by cases h), fun h => absurd h hw⟩ W)
      replace hkm := hid hkm; replace hg := hid hg; replace hgw := hid hgw; replace gd := hid gd
      clear hbad
      go_enter Try.func51, Try.ntmps51
      go_wp2_with (first
        | ((with_reducible refine gate (N := 13) rfl ?_); refine load_mach rfl _ rfl w.heap.size rfl m hS.out.m0 ?_)
        | (go_at_call 146; (with_reducible refine (hgo.out _ _ _ (hown.out.o0.mono (Nat.zero_le _)) hown.out.o2).mono ?_); rintro e w1 ⟨G, v1, v2, rfl, hle, hGB, hb⟩; replace hS := hid (hown.out.call hb); have cL := hS.out.m1.cL; rw [hL.out] at cL; clear hgo hb hGB hle)
        | (go_at_call 128; (with_reducible refine (hwd.out _).mono ?_); rintro e w' ⟨rfl, rfl⟩))
      go_ret2
      exact ⟨rfl, hS.out.bel⟩
set_option maxHeartbeats 2000000 in
set_option maxRecDepth 4000 in
theorem implSec_any (w : World) (m : Mach) (hkm : m.Ok) (b0 : Nat) (v : Value) (g : List Int) (hg : Own w b0 2 v (ints g)) (hl : g.length < 2000000) (ws : ByteArray) (hws : ws.size < 1000000000000) :
    Calls Try.prog 53 #[.agg (mcells m), v, .string ws] w fun e w' => ∃ v', e = .returned (.tuple #[v', .int .i64 (secAns m g ws).2]) ∧ Own w' w.heap.size 2 v' (ints (secAns m g ws).1) ∧ Below w.heap.size w w' := by
  obtain ⟨A0, cp0, rfl, _, _⟩ := hg.form
  rw [ints_length] at hg ⊢
  by_cases hbad : ¬ IsGw m g
  · rw [secAns_1 hbad]
    have hS := hid ((St.arg w hg).newMB m 27)
    have hown := hid (hS.out.newOwn [(Value.slice A0 g.length cp0)] 29 (by simp))
    simp only [heap_alloc_size, List.length_cons, List.length_nil, Nat.zero_add] at hown
    have hgo := hid (fun W b vv (hO : Own W b 29 vv [(Value.slice A0 g.length cp0)]) (hr : Own W b 2 (Value.slice A0 g.length cp0) (ints g)) => groupOf_n W m hkm b vv [g] (mat_one hO hr) (by simp) (by simp; omega) (.inr ⟨g, by simp, hbad⟩))
    replace hkm := hid hkm; replace hg := hid hg; replace hbad := hid hbad
    go_enter Try.func53, Try.ntmps53
    go_wp2_with (first
      | ((with_reducible refine gate (N := 13) rfl ?_); refine load_mach rfl _ rfl w.heap.size rfl m hS.out.m0 ?_)
      | (go_at_call 146; (with_reducible refine (hgo.out _ _ _ (hown.out.o0.mono (Nat.zero_le _)) hown.out.o2).mono ?_); rintro e w1 ⟨rfl, hb⟩; replace hS := hid (hown.out.call hb); clear hgo hown; clear hb))
    go_ret2
    exact ⟨_, rfl, Own.nil _ _ _, hS.out.bel⟩
  · have hgw := Classical.not_not.1 hbad
    obtain ⟨l, s, gd⟩ := hgw.1.good
    obtain ⟨hgl, hgn⟩ := hgw.parts gd
    have hS := hid ((St.arg w hg).newMB m 27)
    have hown := hid (hS.out.newOwn [(Value.slice A0 g.length cp0)] 29 (by simp))
    simp only [heap_alloc_size, List.length_cons, List.length_nil, Nat.zero_add] at hown
    have hgo := hid (fun W b vv (hO : Own W b 29 vv [(Value.slice A0 g.length cp0)]) (hr : Own W b 2 (Value.slice A0 g.length cp0) (ints g)) => groupOf_y W m hkm b vv [g] (mat_one hO hr) (by simp) (by simp; omega) l s gd (by simp; exact hgw))
    have hL := hid gd.L
    by_cases hw : IsWd l ws
    · rw [secAns_0 gd hgw hw]
      obtain ⟨hwe, hwl, hw40⟩ := lets_wstr ws hw
      have hwd := hid (fun W => isWord_any (l : Int) (by have := gd.l2; omega) (by have := gd.l3; omega) ws hws true ⟨fun _ => hw, fun _ => rfl⟩ W)
      have him := hid (fun W G v1 v2 (hG : GM W G m l s v1 v2) (hO : Own W 0 2 (Value.slice A0 g.length cp0) (ints g)) => (by have h := image_any W G m l s gd v1 v2 hG 0 (Value.slice A0 g.length cp0) g hO hgn (by omega) (lets ws) hwl (by omega); rw [← hwe] at h; exact h : Calls Try.prog 153 #[.pointer (some ⟨G, 0, none⟩), (Value.slice A0 g.length cp0), .string ws] W fun e w' => ∃ v', e = .returned (.tuple #[.string (wstr (imgW m l s g (lets ws))), v']) ∧ Own w' 0 2 v' (ints (secW m l s g (lets ws))) ∧ Below W.heap.size W w'))
      have hse := hid (show (secW m l s g (lets ws)).length ≤ 1000000 by rw [secW_length]; omega)
      replace hkm := hid hkm; replace hg := hid hg; replace hgw := hid hgw; replace gd := hid gd; replace hwe := hid hwe
      clear hbad
      generalize wstr (imgW m l s g (lets ws)) = ans at *
      generalize secW m l s g (lets ws) = se at *
      have hcl := hid (fun W vq (hO : Own W 0 2 vq (ints se)) => clone_any W 0 vq se hO hse.out)
      go_enter Try.func53, Try.ntmps53
      go_wp2_with (first
        | ((with_reducible refine gate (N := 13) rfl ?_); refine load_mach rfl _ rfl w.heap.size rfl m hS.out.m0 ?_)
        | (go_at_call 146; (with_reducible refine (hgo.out _ _ _ (hown.out.o0.mono (Nat.zero_le _)) hown.out.o2).mono ?_); rintro e w1 ⟨G, v1, v2, rfl, hle, hGB, hb⟩; have hGM := hid hGB.gm; replace hS := hid (hown.out.call hb); have cL := hS.out.m1.cL; rw [hL.out] at cL; clear hgo hb hGB hle hown)
        | (go_at_call 128; (with_reducible refine (hwd.out _).mono ?_); rintro e w' ⟨rfl, rfl⟩)
        | (go_at_call 153; (with_reducible refine (him.out _ _ _ _ hGM.out hS.out.o2).mono ?_); rintro e w2 ⟨v', rfl, hO, hb⟩; replace hS := hid (hS.out.call hb); replace hO := hid hO; clear hb)
        | (go_at_call 157; (with_reducible refine (hcl.out _ _ hO.out).mono ?_); rintro e w3 ⟨v3, rfl, hO3, hb⟩; replace hS := hid (hS.out.callOwn hb hO3); clear hb hO3 hO))
      go_ret2
      exact ⟨_, rfl, hS.out.o0, hS.out.bel⟩
    · rw [secAns_w gd hw]
      have hwd := hid (fun W => isWord_any (l : Int) (by have := gd.l2; omega) (by have := gd.l3; omega) ws hws false ⟨fun h => (by cases h), fun h => absurd h hw⟩ W)
      replace hkm := hid hkm; replace hg := hid hg; replace hgw := hid hgw; replace gd := hid gd
      clear hbad
      go_enter Try.func53, Try.ntmps53
      go_wp2_with (first
        | ((with_reducible refine gate (N := 13) rfl ?_); refine load_mach rfl _ rfl w.heap.size rfl m hS.out.m0 ?_)
        | (go_at_call 146; (with_reducible refine (hgo.out _ _ _ (hown.out.o0.mono (Nat.zero_le _)) hown.out.o2).mono ?_); rintro e w1 ⟨G, v1, v2, rfl, hle, hGB, hb⟩; replace hS := hid (hown.out.call hb); have cL := hS.out.m1.cL; rw [hL.out] at cL; clear hgo hb hGB hle)
        | (go_at_call 128; (with_reducible refine (hwd.out _).mono ?_); rintro e w' ⟨rfl, rfl⟩))
      go_ret2
      exact ⟨_, rfl, Own.nil _ _ _, hS.out.bel⟩
end Go.Proofs.Ytbmkkaecfogmoaa

/- Portraits: the program's small functions. -/
namespace Go.Proofs.Ytbmkkaecfogmoaa
open Go.RowKit
set_option linter.unusedVariables false
set_option linter.unusedSimpArgs false
-- @LONG

theorem blkc {w : World} {b t : Nat} {v : Value} (h : w.heap[b]? = some (.cells #[v] t (0, 0))) : w.cell? ⟨b, 0, none⟩ = some v := cell_of_row _ _ 0 _ _ _ h

theorem areDepths_any (d n : Int) (r : Bool) (hr : r = decide (IsD d n)) (w : World) :
    Calls Try.prog 120 #[.int .i64 d, .int .i64 n] w fun e w' => e = .returned (.bool r) ∧ w = w' := by
  have hl := hid (fun W => areLetters_any d (decide (2 ≤ d ∧ d ≤ 3)) rfl W)
  have hw := hid (fun W => within_any n 1 4 (decide (1 ≤ n ∧ n ≤ 4)) rfl W)
  by_cases h1 : 2 ≤ d ∧ d ≤ 3
  · have hr2 := hid (show r = decide (1 ≤ n ∧ n ≤ 4) by rw [hr]; unfold IsD; simp [h1])
    rw [decide_eq_true h1] at hl
    generalize decide (1 ≤ n ∧ n ≤ 4) = c at *
    clear h1 hr
    go_enter Try.func120, Try.ntmps120
    go_wp2_with (first
      | (go_at_call 165; (with_reducible refine (hl.out _).mono ?_); rintro e w' ⟨rfl, rfl⟩)
      | (go_at_call 124; (with_reducible refine (hw.out _).mono ?_); rintro e w' ⟨rfl, rfl⟩))
    go_ret
    exact ⟨retB hr2.out.symm, rfl⟩
  · have hr2 := hid (show r = false by rw [hr]; unfold IsD; simp [h1])
    rw [decide_eq_false h1] at hl
    clear h1 hr
    go_enter Try.func120, Try.ntmps120
    go_wp2_with (first
      | (go_at_call 165; (with_reducible refine (hl.out _).mono ?_); rintro e w' ⟨rfl, rfl⟩))
    go_ret
    exact ⟨retB hr2.out.symm, rfl⟩
theorem size_any (d n : Nat) (hd : d = 2 ∨ d = 3) (hn : n ≤ 5) (w : World) :
    Calls Try.prog 121 #[.int .i64 d, .int .i64 n] w fun e w' => e = .returned (.int .i64 (start d n : Nat)) ∧ w = w' := by
  have hb : pw d n ≤ 243 := pw5 hd hn
  have hp := hid (fun W => power_any d n (by omega) (by omega) (by omega) W)
  have hpos := pw_pos d (by omega) n
  have hs := hid (show (((pw d n : Nat) : Int) - 1) / ((d : Int) - 1) = (start d n : Nat) from by
    have h := start_div d (by omega) n
    have e1 : ((pw d n : Nat) : Int) - 1 = ((pw d n - 1 : Nat) : Int) := by omega
    have e2 : (d : Int) - 1 = ((d - 1 : Nat) : Int) := by omega
    rw [e1, e2, ← Int.natCast_ediv, h])
  have ew : IntKind.i64.wrap ((pw d n : Nat) - 1) = ((pw d n : Nat) : Int) - 1 := IntWalk.i64_in _ (by omega)
  have ed : IntKind.i64.wrap ((d : Int) - 1) = (d : Int) - 1 := IntWalk.i64_in _ (by omega)
  have hd1 : (d : Int) - 1 ≠ 0 := by omega
  have hsb : start d n ≤ 243 := by
    have := start_pw d (by omega) n
    have h2 : start d n ≤ start d n * (d - 1) := Nat.le_mul_of_pos_right _ (by omega)
    omega
  generalize pw d n = M at *
  generalize start d n = R at *
  go_enter Try.func121, Try.ntmps121
  go_wp2_with (first
    | (go_at_call 176; (with_reducible refine (hp.out _).mono ?_); rintro e w' ⟨rfl, rfl⟩))
  go_ret
  exact ⟨retI hs.out, rfl⟩

set_option maxHeartbeats 1000000 in
set_option maxRecDepth 100000 in
theorem permutations_any (d : Nat) (hd : d = 2 ∨ d = 3) (w : World) :
    Calls Try.prog 125 #[.int .i64 d] w fun e w' => ∃ v, e = .returned v ∧ Mat w' w.heap.size v (prms d) ∧ Below w.heap.size w w' := by
  rcases hd with rfl | rfl
  · have hS := (((St.start w).newOwn [.int .i64 0, .int .i64 1] 2 (by simp)).newOwn [.int .i64 1, .int .i64 0] 2 (by simp)).newOwn [.slice (some ⟨w.heap.size, 0, none⟩) 2 2, .slice (some ⟨w.heap.size + 1, 0, none⟩) 2 2] 29 (by simp)
    simp only [heap_alloc_size, List.length_cons, List.length_nil, Nat.zero_add, Nat.reduceAdd] at hS
    replace hS := hid hS
    go_enter Try.func125, Try.ntmps125
    go_wp2
    go_ret
    refine ⟨_, rfl, ⟨_, hS.out.o0, rfl, fun i r l hr hl => ?_⟩, hS.out.bel⟩
    match i, hr, hl with
    | 0, hr, hl => simp [prms] at hr hl; subst hr; subst hl; exact hS.out.o2
    | 1, hr, hl => simp [prms] at hr hl; subst hr; subst hl; exact hS.out.o1
    | i + 2, hr, hl => simp at hr
  · have hS := (((((((St.start w).newOwn [.int .i64 0, .int .i64 1, .int .i64 2] 2 (by simp)).newOwn [.int .i64 0, .int .i64 2, .int .i64 1] 2 (by simp)).newOwn [.int .i64 1, .int .i64 0, .int .i64 2] 2 (by simp)).newOwn [.int .i64 1, .int .i64 2, .int .i64 0] 2 (by simp)).newOwn [.int .i64 2, .int .i64 0, .int .i64 1] 2 (by simp)).newOwn [.int .i64 2, .int .i64 1, .int .i64 0] 2 (by simp)).newOwn [.slice (some ⟨w.heap.size, 0, none⟩) 3 3, .slice (some ⟨w.heap.size + 1, 0, none⟩) 3 3, .slice (some ⟨w.heap.size + 1 + 1, 0, none⟩) 3 3, .slice (some ⟨w.heap.size + 1 + 1 + 1, 0, none⟩) 3 3, .slice (some ⟨w.heap.size + 1 + 1 + 1 + 1, 0, none⟩) 3 3, .slice (some ⟨w.heap.size + 1 + 1 + 1 + 1 + 1, 0, none⟩) 3 3] 29 (by simp)
    simp only [heap_alloc_size, List.length_cons, List.length_nil, Nat.zero_add, Nat.reduceAdd] at hS
    replace hS := hid hS
    go_enter Try.func125, Try.ntmps125
    go_wp2
    go_ret
    refine ⟨_, rfl, ⟨_, hS.out.o0, rfl, fun i r l hr hl => ?_⟩, hS.out.bel⟩
    match i, hr, hl with
    | 0, hr, hl => simp [prms] at hr hl; subst hr; subst hl; exact hS.out.drop.o5
    | 1, hr, hl => simp [prms] at hr hl; subst hr; subst hl; exact hS.out.o5
    | 2, hr, hl => simp [prms] at hr hl; subst hr; subst hl; exact hS.out.o4
    | 3, hr, hl => simp [prms] at hr hl; subst hr; subst hl; exact hS.out.o3
    | 4, hr, hl => simp [prms] at hr hl; subst hr; subst hl; exact hS.out.o2
    | 5, hr, hl => simp [prms] at hr hl; subst hr; subst hl; exact hS.out.o1
    | i + 6, hr, hl => simp at hr
/-- A number that no permutation has. -/
def badP (d : Nat) (k : Int) : Bool := !decide (0 ≤ k ∧ k ≤ (cnt d : Int) - 1)
theorem badP_any (d : Nat) (g : List Int) : g.any (badP d) = !decide (∀ k ∈ g, 0 ≤ k ∧ k < (cnt d : Int)) := by
  rw [Bool.eq_iff_iff]
  simp only [List.any_eq_true, badP, Bool.not_eq_true', decide_eq_false_iff_not]
  constructor
  · rintro ⟨x, hx, hn⟩ h; have := h x hx; omega
  · intro h
    apply Classical.byContradiction
    intro hn
    exact h fun k hk => Classical.byContradiction fun hb => hn ⟨k, hk, by omega⟩
set_option maxHeartbeats 1000000 in
theorem isP1_any (b : Nat) (w : World) (d : Nat) (hd : d = 2 ∨ d = 3) (hb : w.cell? ⟨b, 0, none⟩ = some (.int .i64 d)) (k : Int) :
    Calls Try.prog 123 #[.int .i64 k, .pointer (some ⟨b, 0, none⟩)] w fun e w' => e = .returned (.bool (badP d k)) ∧ Below w.heap.size w w' := by
  have hp := hid (fun W => permutations_any d hd W)
  have hpl := hid (prms_length d)
  have hc : cnt d ≤ 6 ∧ 2 ≤ cnt d := by rcases hd with rfl | rfl <;> decide
  have hin := hid (fun W => within_any k 0 ((cnt d : Int) - 1) (decide (0 ≤ k ∧ k ≤ (cnt d : Int) - 1)) rfl W)
  have hr := hid (show badP d k = !decide (0 ≤ k ∧ k ≤ (cnt d : Int) - 1) from rfl)
  have ew : IntKind.i64.wrap ((cnt d : Int) - 1) = (cnt d : Int) - 1 := IntWalk.i64_in _ (by omega)
  generalize badP d k = r at *
  generalize decide (0 ≤ k ∧ k ≤ (cnt d : Int) - 1) = c at *
  generalize cnt d = C at *
  generalize prms d = P at *
  go_enter Try.func123, Try.ntmps123
  go_wp2_with (first
    | (go_at_call 125; (with_reducible refine (hp.out _).mono ?_); rintro e w1 ⟨v, rfl, hM, hb2⟩; obtain ⟨A, cp, rfl⟩ := hM.form; rw [hpl.out]; replace hb2 := hid hb2; clear hM)
    | (go_at_call 124; (with_reducible refine (hin.out _).mono ?_); rintro e w' ⟨rfl, rfl⟩))
  go_ret
  exact ⟨retB hr.out.symm, hb2.out⟩
set_option maxHeartbeats 1000000 in
set_option maxRecDepth 100000 in
theorem indexFuncI_isP (b : Nat) (w : World) (base : Nat) (v : Value) (l : List Int) (h : Own w base 2 v (ints l)) (hl : l.length < 2000000) (p : Int → Bool)
    (hcall : ∀ W, Below w.heap.size w W → ∀ x, x ∈ l → Calls Try.prog 123 #[.int .i64 x, .pointer (some ⟨b, 0, none⟩)] W fun e w' => e = .returned (.bool (p x)) ∧ Below W.heap.size W w') :
    Calls Try.prog 218 #[v, .func (.func 123) #[] #[.pointer (some ⟨b, 0, none⟩)]] w fun e w' => e = .returned (.int .i64 (idxP p l 0)) ∧ Below w.heap.size w w' := by
  have hil := ints_length l
  obtain ⟨A1, c1, rfl, _, _⟩ := h.form
  rw [hil] at h ⊢
  have hget := hid (fun (k : Nat) (x : Int) (hx : l[k]? = some x) => (show (ints l)[k]? = some (.int .i64 x) by simp [ints, hx]))
  have hcell := hid (fun (k : Nat) (x : Int) (hx : l[k]? = some x) => (show ∃ g, A1 = some ⟨g, 0, none⟩ ∧ ∀ W, Below w.heap.size w W → W.cell? ⟨g, k, none⟩ = some (.int .i64 x) from by
    obtain ⟨g1, c2, he, _, hg1⟩ := h.blk (fun e => by have h1 := congrArg List.length e; rw [hil] at h1; have h2 := (List.getElem?_eq_some_iff.1 hx).1; rw [List.length_nil] at h1; omega)
    injection he with e1 e2 e3
    subst e1
    exact ⟨g1, rfl, fun W hW => (h.below hW).cellAt k _ (hget.out k x hx)⟩))
  replace hcall := hid hcall
  clear h hil
  obtain ⟨R, hR⟩ : ∃ R, R = idxP p l 0 := ⟨_, rfl⟩
  rw [← hR]
  replace hR := hid hR
  generalize hn : l.length = n at *
  replace hn := hid hn
  go_enter Try.func218, Try.ntmps218
  go_wp2
  go_loopw [8] (fun i wr => ∃ k : Nat, k ≤ n ∧ i = .int .i64 k ∧ Hid (R = idxP p (l.drop k) k) ∧ Below w.heap.size w wr) (fun i _ => n - (intOf i).toNat)
  case atStart => exact ⟨0, Nat.zero_le _, rfl, hR, Below.refl _ _⟩
  case round =>
    obtain ⟨k, hk, rfl, hA, rB⟩ := hrel
    clear hR
    replace rB := hid rB
    by_cases hlt : k < n
    · obtain ⟨x, hx⟩ : ∃ x, l[k]? = some x := ⟨_, List.getElem?_eq_getElem (by rw [hn.out]; exact hlt)⟩
      obtain ⟨g, rfl, hc⟩ := hcell.out k x hx
      have d1 := hc wr rB.out
      have hcl := hid (hcall.out wr rB.out x (List.mem_of_getElem? hx))
      have hT := hid (fun hp => idxP_drop_t (p := p) hx hp k)
      have hF := hid (fun hp => idxP_drop_f (p := p) hx hp k)
      clear hc hx
      cases hp : p x with
      | true =>
        rw [hp] at hcl
        have hA2 := hid (hA.out.trans (hT.out hp))
        clear hp hT hF
        go_wp2_with (first
          | (go_at_call 123; (with_reducible refine (hcl.out).mono ?_); rintro e w1 ⟨rfl, hb⟩; replace rB := hid (rB.out.trans (hb.mono rB.out.size)); clear hb))
        go_ret
        exact ⟨retI (by rw [hA2.out]), rB.out⟩
      | false =>
        rw [hp] at hcl
        have hA2 := hid (hA.out.trans (hF.out hp))
        clear hp hT hF
        go_wp2_with (first
          | (go_at_call 123; (with_reducible refine (hcl.out).mono ?_); rintro e w1 ⟨rfl, hb⟩; replace rB := hid (rB.out.trans (hb.mono rB.out.size)); clear hb))
        go_roundw
        case rel => exact ⟨k + 1, by omega, by go_num, hA2, rB.out⟩
        case measure => simp [intOf]; omega
    · obtain rfl : k = n := by omega
      have hA2 := hid (hA.out.trans (show _ = (-1 : Int) by rw [List.drop_eq_nil_of_le (by rw [hn.out]; exact Nat.le_refl _)]; rfl))
      go_wp2
      go_ret
      exact ⟨retI (by rw [hA2.out]), rB.out⟩
set_option maxHeartbeats 1000000 in
theorem containsFuncI_isP (b : Nat) (w : World) (base : Nat) (v : Value) (l : List Int) (h : Own w base 2 v (ints l)) (hl : l.length < 2000000) (p : Int → Bool)
    (hcall : ∀ W, Below w.heap.size w W → ∀ x, x ∈ l → Calls Try.prog 123 #[.int .i64 x, .pointer (some ⟨b, 0, none⟩)] W fun e w' => e = .returned (.bool (p x)) ∧ Below W.heap.size W w') :
    Calls Try.prog 122 #[v, .func (.func 123) #[] #[.pointer (some ⟨b, 0, none⟩)]] w fun e w' => e = .returned (.bool (l.any p)) ∧ Below w.heap.size w w' := by
  have hi := hid (indexFuncI_isP b w base v l h hl p hcall)
  have ha := hid (idxP_any p l 0 (Int.le_refl _))
  clear hcall h hl
  generalize idxP p l 0 = r at *
  generalize l.any p = c at *
  go_enter Try.func122, Try.ntmps122
  go_wp2_with (first
    | (go_at_call 218; (with_reducible refine (hi.out).mono ?_); rintro e w1 ⟨rfl, hb⟩; replace hb := hid hb))
  go_ret
  refine ⟨retB ?_, hb.out⟩
  have h := ha.out
  rw [Bool.eq_iff_iff, ← h]
  simp
set_option maxHeartbeats 2000000 in
set_option maxRecDepth 4000 in
theorem isPortrait_any (w : World) (d n : Int) (base : Nat) (v : Value) (g : List Int) (h : Own w base 2 v (ints g)) (hl : g.length < 2000000) (r : Bool) (hr : r = decide (IsD d n ∧ IsP d.toNat n.toNat g)) :
    Calls Try.prog 29 #[.int .i64 d, .int .i64 n, v] w fun e w' => e = .returned (.bool r) ∧ Below w.heap.size w w' := by
  have hS := hid ((St.arg w h).newBlk #[.int .i64 d] 2)
  have hmf : ∀ (fn : Fn) (first cap : Array Value) (w : World), (Instr.makeFunc fn first cap).run Try.prog w = .ok (.func fn first cap) w := fun _ _ _ _ => rfl
  have hil := ints_length g
  obtain ⟨A, c, rfl, _, _⟩ := h.form
  rw [hil] at h hS ⊢
  have had := hid (fun W => areDepths_any d n (decide (IsD d n)) rfl W)
  by_cases hD : IsD d n
  · rw [decide_eq_true hD] at had
    obtain ⟨d, n, rfl, rfl, hd, hn1, hn4⟩ := hD.nat
    simp only [Int.toNat_natCast] at hr
    have hsz := hid (fun W => size_any d n hd (by omega) W)
    have hst := start_le hd hn4
    have hcb := hid (fun W (hW : Own W 0 2 (.slice A g.length c) (ints g)) (hb : W.cell? ⟨w.heap.size, 0, none⟩ = some (.int .i64 d)) (hlt : w.heap.size < W.heap.size) => containsFuncI_isP w.heap.size W 0 _ g hW hl (badP d) (fun W' hW' x _ => isP1_any w.heap.size W' d hd ((hW'.cell hlt).trans hb) x))
    by_cases he : g.length = start d n
    · have e1 : ((g.length : Int) == ((start d n : Nat) : Int)) = true := by simp [he]
      have hr2 := hid (show r = !(g.any (badP d)) by rw [hr, badP_any, Bool.not_not]; exact decide_eq_decide.2 ⟨fun h => h.2.2, fun h => ⟨hD, he, h⟩⟩)
      clear hr he
      generalize g.any (badP d) = q at *
      generalize start d n = R at *
      replace h := hid h
      have c0 := blkc hS.out.k0
      go_enter Try.func29, Try.ntmps29
      go_wp2_with (first
        | (go_at_call 120; (with_reducible refine (had.out _).mono ?_); rintro e w' ⟨rfl, rfl⟩)
        | (go_at_call 121; (with_reducible refine (hsz.out _).mono ?_); rintro e w' ⟨rfl, rfl⟩)
        | (go_at_call 122; (with_reducible refine (hcb.out _ hS.out.o1 (blkc hS.out.k0) (by rw [heap_alloc_size]; omega)).mono ?_); rintro e w2 ⟨rfl, hb⟩; replace hS := hid (hS.out.call hb); clear hb))
      go_ret
      exact ⟨retB hr2.out.symm, hS.out.bel⟩
    · have e1 : ((g.length : Int) == ((start d n : Nat) : Int)) = false := by simp; omega
      have hr2 := hid (show r = false by rw [hr]; exact decide_eq_false fun h => he h.2.1)
      clear hr he
      generalize start d n = R at *
      replace h := hid h
      have c0 := blkc hS.out.k0
      go_enter Try.func29, Try.ntmps29
      go_wp2_with (first
        | (go_at_call 120; (with_reducible refine (had.out _).mono ?_); rintro e w' ⟨rfl, rfl⟩)
        | (go_at_call 121; (with_reducible refine (hsz.out _).mono ?_); rintro e w' ⟨rfl, rfl⟩))
      go_ret
      exact ⟨retB hr2.out.symm, hS.out.bel⟩
  · rw [decide_eq_false hD] at had
    have hr2 := hid (show r = false by rw [hr]; exact decide_eq_false fun h => hD h.1)
    clear hr hD
    replace h := hid h
    have c0 := blkc hS.out.k0
    go_enter Try.func29, Try.ntmps29
    go_wp2_with (first
      | (go_at_call 120; (with_reducible refine (had.out _).mono ?_); rintro e w' ⟨rfl, rfl⟩))
    go_ret
    exact ⟨retB hr2.out.symm, hS.out.bel⟩
/-- Some list is no portrait. -/
def badG (d n : Int) (g : List Int) : Bool := !decide (IsD d n ∧ IsP d.toNat n.toNat g)
set_option maxHeartbeats 1000000 in
theorem pc1_any (b b2 : Nat) (w : World) (d n : Int) (hb : w.cell? ⟨b, 0, none⟩ = some (.int .i64 d)) (hb2 : w.cell? ⟨b2, 0, none⟩ = some (.int .i64 n)) (base : Nat) (v : Value) (g : List Int) (h : Own w base 2 v (ints g)) (hl : g.length < 2000000) :
    Calls Try.prog 207 #[v, .pointer (some ⟨b, 0, none⟩), .pointer (some ⟨b2, 0, none⟩)] w fun e w' => e = .returned (.bool (badG d n g)) ∧ Below w.heap.size w w' := by
  have hi := hid (isPortrait_any w d n base v g h hl (decide (IsD d n ∧ IsP d.toNat n.toNat g)) rfl)
  have hr := hid (show badG d n g = !decide (IsD d n ∧ IsP d.toNat n.toNat g) from rfl)
  rw [hr.out]
  clear h hr
  generalize decide (IsD d n ∧ IsP d.toNat n.toNat g) = r at *
  go_enter Try.func207, Try.ntmps207
  go_wp2_with (first
    | (go_at_call 29; (with_reducible refine (hi.out).mono ?_); rintro e w1 ⟨rfl, hb⟩; have hB := hid hb; clear hb))
  go_ret
  exact ⟨rfl, hB.out⟩
set_option maxHeartbeats 1000000 in
set_option maxRecDepth 100000 in
theorem indexFuncM_pc (b b2 : Nat) (w : World) (base : Nat) (v : Value) (M : List (List Int)) (h : Mat w base v M) (hl : M.length < 2000000) (p : List Int → Bool)
    (hcall : ∀ W, Below w.heap.size w W → ∀ r row, row ∈ M → Own W base 2 r (ints row) → Calls Try.prog 207 #[r, .pointer (some ⟨b, 0, none⟩), .pointer (some ⟨b2, 0, none⟩)] W fun e w' => e = .returned (.bool (p row)) ∧ Below W.heap.size W w') :
    Calls Try.prog 190 #[v, .func (.func 207) #[] #[.pointer (some ⟨b, 0, none⟩), .pointer (some ⟨b2, 0, none⟩)]] w fun e w' => e = .returned (.int .i64 (idxP p M 0)) ∧ Below w.heap.size w w' := by
  obtain ⟨rows, hO, hrl, hrow⟩ := h
  obtain ⟨A1, c1, rfl, _, _⟩ := hO.form
  rw [hrl] at hO ⊢
  have hcell := hid (fun (k : Nat) (x : List Int) (hx : M[k]? = some x) => (show ∃ g r, A1 = some ⟨g, 0, none⟩ ∧ ∀ W, Below w.heap.size w W → W.cell? ⟨g, k, none⟩ = some r ∧ Own W base 2 r (ints x) from by
    have hk := (List.getElem?_eq_some_iff.1 hx).1
    obtain ⟨g1, c2, he, _, hg1⟩ := hO.blk (fun e => by rw [e] at hrl; rw [← hrl] at hk; simp at hk)
    injection he with e1 e2 e3
    subst e1
    obtain ⟨r, hr⟩ : ∃ r, rows[k]? = some r := ⟨_, List.getElem?_eq_getElem (by rw [hrl]; exact hk)⟩
    exact ⟨g1, r, rfl, fun W hW => ⟨(hO.below hW).cellAt k _ hr, (hrow k r x hr hx).below hW⟩⟩))
  replace hcall := hid hcall
  clear hO hrow
  obtain ⟨R, hR⟩ : ∃ R, R = idxP p M 0 := ⟨_, rfl⟩
  rw [← hR]
  replace hR := hid hR
  generalize hn : M.length = n at *
  replace hn := hid hn
  go_enter Try.func190, Try.ntmps190
  go_wp2
  go_loopw [8] (fun i wr => ∃ k : Nat, k ≤ n ∧ i = .int .i64 k ∧ Hid (R = idxP p (M.drop k) k) ∧ Below w.heap.size w wr) (fun i _ => n - (intOf i).toNat)
  case atStart => exact ⟨0, Nat.zero_le _, rfl, hR, Below.refl _ _⟩
  case round =>
    obtain ⟨k, hk, rfl, hA, rB⟩ := hrel
    clear hR
    replace rB := hid rB
    by_cases hlt : k < n
    · obtain ⟨x, hx⟩ : ∃ x, M[k]? = some x := ⟨_, List.getElem?_eq_getElem (by rw [hn.out]; exact hlt)⟩
      obtain ⟨g, r, rfl, hc⟩ := hcell.out k x hx
      have d1 := (hc wr rB.out).1
      have hcl := hid (hcall.out wr rB.out r x (List.mem_of_getElem? hx) (hc wr rB.out).2)
      have hT := hid (fun hp => idxP_drop_t (p := p) hx hp k)
      have hF := hid (fun hp => idxP_drop_f (p := p) hx hp k)
      clear hc hx
      cases hp : p x with
      | true =>
        rw [hp] at hcl
        have hA2 := hid (hA.out.trans (hT.out hp))
        clear hp hT hF
        go_wp2_with (first
          | (go_at_call 207; (with_reducible refine (hcl.out).mono ?_); rintro e w1 ⟨rfl, hb⟩; replace rB := hid (rB.out.trans (hb.mono rB.out.size)); clear hb))
        go_ret
        exact ⟨retI (by rw [hA2.out]), rB.out⟩
      | false =>
        rw [hp] at hcl
        have hA2 := hid (hA.out.trans (hF.out hp))
        clear hp hT hF
        go_wp2_with (first
          | (go_at_call 207; (with_reducible refine (hcl.out).mono ?_); rintro e w1 ⟨rfl, hb⟩; replace rB := hid (rB.out.trans (hb.mono rB.out.size)); clear hb))
        go_roundw
        case rel => exact ⟨k + 1, by omega, by go_num, hA2, rB.out⟩
        case measure => simp [intOf]; omega
    · obtain rfl : k = n := by omega
      have hA2 := hid (hA.out.trans (show _ = (-1 : Int) by rw [List.drop_eq_nil_of_le (by rw [hn.out]; exact Nat.le_refl _)]; rfl))
      go_wp2
      go_ret
      exact ⟨retI (by rw [hA2.out]), rB.out⟩
set_option maxHeartbeats 1000000 in
theorem containsFuncM_pc (b b2 : Nat) (w : World) (base : Nat) (v : Value) (M : List (List Int)) (h : Mat w base v M) (hl : M.length < 2000000) (p : List Int → Bool)
    (hcall : ∀ W, Below w.heap.size w W → ∀ r row, row ∈ M → Own W base 2 r (ints row) → Calls Try.prog 207 #[r, .pointer (some ⟨b, 0, none⟩), .pointer (some ⟨b2, 0, none⟩)] W fun e w' => e = .returned (.bool (p row)) ∧ Below W.heap.size W w') :
    Calls Try.prog 206 #[v, .func (.func 207) #[] #[.pointer (some ⟨b, 0, none⟩), .pointer (some ⟨b2, 0, none⟩)]] w fun e w' => e = .returned (.bool (M.any p)) ∧ Below w.heap.size w w' := by
  have hi := hid (indexFuncM_pc b b2 w base v M h hl p hcall)
  have ha := hid (idxP_any p M 0 (Int.le_refl _))
  clear hcall h hl
  generalize idxP p M 0 = r at *
  generalize M.any p = c at *
  go_enter Try.func206, Try.ntmps206
  go_wp2_with (first
    | (go_at_call 190; (with_reducible refine (hi.out).mono ?_); rintro e w1 ⟨rfl, hb⟩; replace hb := hid hb))
  go_ret
  refine ⟨retB ?_, hb.out⟩
  have h := ha.out
  rw [Bool.eq_iff_iff, ← h]
  simp
set_option maxHeartbeats 2000000 in
set_option maxRecDepth 4000 in
theorem portraitCode_any (w : World) (d n : Int) (base : Nat) (v : Value) (M : List (List Int)) (h : Mat w base v M) (hl : M.length < 2000000) (hlr : ∀ row ∈ M, row.length < 2000000) :
    Calls Try.prog 113 #[.int .i64 d, .int .i64 n, v] w fun e w' => e = .returned (.int .i64 (pcode d n M)) ∧ Below w.heap.size w w' := by
  have hS := ((St.start w).newBlk #[.int .i64 d] 2).newBlk #[.int .i64 n] 2
  rw [heap_alloc_size] at hS
  replace hS := hid hS
  have hmf : ∀ (fn : Fn) (first cap : Array Value) (w : World), (Instr.makeFunc fn first cap).run Try.prog w = .ok (.func fn first cap) w := fun _ _ _ _ => rfl
  have had := hid (fun W => areDepths_any d n (decide (IsD d n)) rfl W)
  have c0 := blkc hS.out.k0
  have c1 := blkc hS.out.k1
  by_cases hD : IsD d n
  · rw [decide_eq_true hD] at had
    have hpc := hid (show pcode d n M = if M.any (badG d n) = true then 1 else 0 by
      unfold pcode
      rw [if_pos hD]
      by_cases hh : ∀ g ∈ M, IsP d.toNat n.toNat g
      · rw [if_pos hh, if_neg]
        rw [List.any_eq_true]
        rintro ⟨x, hx, hb⟩
        unfold badG at hb
        simp [hD, hh x hx] at hb
      · rw [if_neg hh, if_pos]
        rw [List.any_eq_true]
        apply Classical.byContradiction
        intro hn
        refine hh fun g hg => Classical.byContradiction fun hb => hn ⟨g, hg, ?_⟩
        unfold badG
        simp [hb])
    have hc := hid (fun W (hM : Mat W base v M) (h0 : W.cell? ⟨w.heap.size, 0, none⟩ = some (.int .i64 d)) (h1 : W.cell? ⟨w.heap.size + 1, 0, none⟩ = some (.int .i64 n)) (hlt : w.heap.size + 1 < W.heap.size) =>
      containsFuncM_pc w.heap.size (w.heap.size + 1) W base v M hM hl (badG d n) (fun W' hW' r row hr hO => pc1_any _ _ W' d n ((hW'.cell (by dsimp only; omega)).trans h0) ((hW'.cell (by dsimp only; omega)).trans h1) base r row hO (hlr row hr)))
    have hM2 := hid (h.below hS.out.bel)
    replace h := hid h
    clear hD
    rw [hpc.out]
    clear hpc
    generalize M.any (badG d n) = q at *
    cases q with
    | true =>
      go_enter Try.func113, Try.ntmps113
      go_wp2_with (first
        | (go_at_call 120; (with_reducible refine (had.out _).mono ?_); rintro e w' ⟨rfl, rfl⟩)
        | (go_at_call 206; (with_reducible refine (hc.out _ hM2.out (blkc hS.out.k1) (blkc hS.out.k0) (by rw [heap_alloc_size, heap_alloc_size]; omega)).mono ?_); rintro e w2 ⟨rfl, hb⟩; replace hS := hid (hS.out.call hb); clear hb))
      go_ret
      exact ⟨rfl, hS.out.bel⟩
    | false =>
      go_enter Try.func113, Try.ntmps113
      go_wp2_with (first
        | (go_at_call 120; (with_reducible refine (had.out _).mono ?_); rintro e w' ⟨rfl, rfl⟩)
        | (go_at_call 206; (with_reducible refine (hc.out _ hM2.out (blkc hS.out.k1) (blkc hS.out.k0) (by rw [heap_alloc_size, heap_alloc_size]; omega)).mono ?_); rintro e w2 ⟨rfl, hb⟩; replace hS := hid (hS.out.call hb); clear hb))
      go_ret
      exact ⟨rfl, hS.out.bel⟩
  · rw [decide_eq_false hD] at had
    have hpc := hid (show pcode d n M = 2 by unfold pcode; rw [if_neg hD])
    rw [hpc.out]
    replace h := hid h
    clear hD hpc
    go_enter Try.func113, Try.ntmps113
    go_wp2_with (first
      | (go_at_call 120; (with_reducible refine (had.out _).mono ?_); rintro e w' ⟨rfl, rfl⟩))
    go_ret
    exact ⟨rfl, hS.out.bel⟩
theorem place_any (d : Nat) (hd : d = 2 ∨ d = 3) (u : List Nat) (hu : ∀ x ∈ u, x < d) (hn : u.length ≤ 5) (w : World) :
    Calls Try.prog 214 #[.int .i64 d, .string (wstr u)] w fun e w' => e = .returned (.int .i64 (start d u.length + num d u : Nat)) ∧ w = w' := by
  have hb : pw d u.length ≤ 243 := pw5 hd hn
  have hs := hid (fun W => size_any d u.length hd hn W)
  have hnm := hid (fun W => numberOf_any d (by omega) (by omega) u hu (by omega) (by omega) W)
  have hlt := num_lt d u.length u rfl hu
  have hsz := wstr_size u
  have hst : start d u.length ≤ 243 := by
    have := start_pw d (by omega) u.length
    have h2 : start d u.length ≤ start d u.length * (d - 1) := Nat.le_mul_of_pos_right _ (by omega)
    omega
  generalize num d u = N at *
  generalize start d u.length = R at *
  clear hu
  generalize u.length = L at *
  generalize wstr u = ws at *
  go_enter Try.func214, Try.ntmps214
  go_wp2_with (first
    | (go_at_call 121; (with_reducible refine (hs.out _).mono ?_); rintro e w' ⟨rfl, rfl⟩)
    | (go_at_call 211; (with_reducible refine (hnm.out _).mono ?_); rintro e w' ⟨rfl, rfl⟩))
  go_ret
  exact ⟨retI (by simp), rfl⟩
end Go.Proofs.Ytbmkkaecfogmoaa

/- Group words: the reference's l02Numbers, l02Is, l02Code, l01Letters, l01Word, l02Both. -/
namespace Go.Proofs.Ytbmkkaecfogmoaa
open Go.RowKit
set_option linter.unusedVariables false
set_option linter.unusedSimpArgs false
-- @LONG

set_option maxHeartbeats 2000000 in
set_option maxRecDepth 100000 in
theorem l02Numbers_any (w : World) (m : Mach) (l s : Nat) (gd : Good m l s) (base : Nat) (v : Value) (g : List Int) (h : Own w base 2 v (ints g)) (hl : g.length < 2000000) :
    Calls Try.prog 228 #[.agg (mcells m), v] w fun e w' => e = .returned (.bool (!(g.any (badNum s)))) ∧ Below w.heap.size w w' := by
  have hil := ints_length g
  obtain ⟨A, c, rfl, _, _⟩ := h.form
  rw [hil] at h ⊢
  have hcell := hid (fun (k : Nat) (y : Int) (hy : g[k]? = some y) => (show ∃ gA, A = some ⟨gA, 0, none⟩ ∧ ∀ W, Below w.heap.size w W → W.cell? ⟨gA, k, none⟩ = some (.int .i64 y) from by
    obtain ⟨g1, c2, he, _, hg1⟩ := h.blk (fun e => by have h1 := congrArg List.length e; rw [hil] at h1; have h2 := (List.getElem?_eq_some_iff.1 hy).1; rw [List.length_nil] at h1; omega)
    injection he with e1 e2 e3
    subst e1
    exact ⟨g1, rfl, fun W hW => (h.below hW).cellAt k _ (by simp [ints, hy])⟩))
  have hS := hid ((St.start w).newMB m 27)
  have gS := hid gd.S
  have s16 := gd.s16
  obtain ⟨R, hR⟩ : ∃ R, R = g.any (badNum s) := ⟨_, rfl⟩
  rw [← hR]
  replace hR := hid hR
  have e1 : IntKind.i64.wrap (-(s : Int)) = -(s : Int) := IntWalk.i64_in _ (by omega)
  have hdrop := hid (fun (k : Nat) (x : Int) (hx : g[k]? = some x) => (show (g.drop k).any (badNum s) = (badNum s x || (g.drop (k + 1)).any (badNum s)) by
    have hk := (List.getElem?_eq_some_iff.1 hx).1
    rw [List.drop_eq_getElem_cons hk, (List.getElem?_eq_some_iff.1 hx).2, List.any_cons]))
  clear h hil
  replace gd := hid gd
  generalize hn : g.length = n at *
  replace hn := hid hn
  go_enter Try.func228, Try.ntmps228
  go_wp2
  go_loopw [5] (fun i wr => ∃ k : Nat, k ≤ n ∧ i = .int .i64 k ∧ Hid (R = (g.drop k).any (badNum s)) ∧ St w.heap.size w [Asn.mb 27 w.heap.size m] wr) (fun i _ => n - (intOf i).toNat)
  case atStart => exact ⟨0, Nat.zero_le _, rfl, hR, hS.out⟩
  case round =>
    obtain ⟨k, hk, rfl, hA, rS⟩ := hrel
    clear hS hR
    replace rS := hid rS
    by_cases hlt : k < n
    · have dc : decide ((k : Int) < (n : Int)) = true := decide_eq_true (by omega)
      obtain ⟨x, hx⟩ : ∃ x, g[k]? = some x := ⟨_, List.getElem?_eq_getElem (by rw [hn.out]; exact hlt)⟩
      obtain ⟨gA, rfl, hc⟩ := hcell.out k x hx
      have d1 := hc wr rS.out.bel
      have cS := rS.out.m0.cS
      rw [gS.out] at cS
      have k0 : (0 : Int) ≤ (k : Int) := Int.natCast_nonneg _
      have k1 : (k : Int) < (n : Int) := by omega
      have hd := hid (hA.out.trans (hdrop.out k x hx))
      have hin := hid (fun d => l01In_any x (-(s : Int)) s (decide (-(s : Int) ≤ x ∧ x ≤ s)) rfl (wr.drewN d))
      have hbn := hid (show badNum s x = ((x == 0) || !decide (-(s : Int) ≤ x ∧ x ≤ s)) from rfl)
      clear hc hx
      generalize decide (-(s : Int) ≤ x ∧ x ≤ s) = c0 at *
      cases hx0 : x == 0 with
      | true =>
        have hfin := hid (show R = true by rw [hd.out, hbn.out, hx0]; rfl)
        go_upto_region 4 with (fail)
        go_quiet (fail)
        go_wp2
        go_ret
        exact ⟨retB (by rw [hfin.out]; rfl), below_drewN rS.out.bel _⟩
      | false =>
        have hbn2 := hid (show badNum s x = !c0 by rw [hbn.out, hx0]; rfl)
        cases c0 with
        | true =>
          have hA2 := hid (show R = (g.drop (k + 1)).any (badNum s) by rw [hd.out, hbn2.out]; rfl)
          clear hbn hbn2 hd hA
          go_upto_region 4 with (fail)
          go_quiet ((go_at_call 91; exact quiet_same (hin.out _)))
          go_wp2
          go_roundw
          case rel => exact ⟨k + 1, by omega, by go_num, hA2, rS.out.drewN _⟩
          case measure => simp [intOf]; omega
        | false =>
          have hfin := hid (show R = true by rw [hd.out, hbn2.out]; rfl)
          clear hbn hbn2 hd hA
          go_upto_region 4 with (fail)
          go_quiet ((go_at_call 91; exact quiet_same (hin.out _)))
          go_wp2
          go_ret
          exact ⟨retB (by rw [hfin.out]; rfl), below_drewN rS.out.bel _⟩
    · obtain rfl : k = n := by omega
      have dc : decide ((k : Int) < (k : Int)) = false := decide_eq_false (by omega)
      have hfin := hid (show R = false by rw [hA.out, List.drop_eq_nil_of_le (by rw [hn.out]; exact Nat.le_refl _)]; rfl)
      go_wp2
      go_ret
      exact ⟨retB (by rw [hfin.out]; rfl), rS.out.bel⟩
set_option maxHeartbeats 1000000 in
theorem l02Is_any (w : World) (m : Mach) (l s : Nat) (gd : Good m l s) (base : Nat) (v : Value) (g : List Int) (h : Own w base 2 v (ints g)) (hl : g.length < 2000000) (r : Bool) (hr : Tells r (IsGw m g)) :
    Calls Try.prog 151 #[.agg (mcells m), v] w fun e w' => e = .returned (.bool r) ∧ Below w.heap.size w w' := by
  have hil := ints_length g
  have hS := hid ((St.start w).newMB m 27)
  have hnu := hid (fun W (hW : Below w.heap.size w W) => l02Numbers_any W m l s gd base v g (h.below hW) hl)
  have hS2 : m.S.toNat = s := by rw [gd.S]; rfl
  have hgw : IsGw m g ↔ g.length ≤ 40 ∧ ∀ k ∈ g, isNum s k := by unfold IsGw; rw [hS2]; exact ⟨fun h => h.2, fun h => ⟨gd.isM, h⟩⟩
  have hb := badAny_iff s g
  have hr2 := hr.out
  obtain ⟨A, c, rfl, _, _⟩ := h.form
  rw [hil] at *
  clear h hr
  by_cases h40 : g.length ≤ 40
  · have d1 : decide ((40 : Int) < (g.length : Int)) = false := decide_eq_false (by omega)
    have hfin : Hid ((!(g.any (badNum s))) = r) := by
      refine hid ?_
      rw [Bool.eq_iff_iff, hr2, hgw]
      cases hh : g.any (badNum s)
      · rw [hh] at hb
        simp only [Bool.not_false, true_iff]
        exact ⟨h40, Classical.byContradiction fun hn => by have := hb.2 hn; cases this⟩
      · simp only [Bool.not_true, Bool.false_eq_true, false_iff]
        exact fun hn => (hb.1 hh) hn.2
    rw [hfin.out] at hnu
    clear hr2 hgw hb hfin; replace gd := hid gd
    generalize g.length = n at *
    go_enter Try.func151, Try.ntmps151
    go_wp2_with (first
      | ((with_reducible refine gate (N := 8) rfl ?_); refine load_mach rfl _ rfl w.heap.size rfl m hS.out.m0 ?_)
      | (go_at_call 228; (with_reducible refine (hnu.out _ hS.out.bel).mono ?_); rintro e w1 ⟨rfl, hb⟩; replace hS := hid (hS.out.call hb); clear hb))
    go_ret
    exact ⟨rfl, hS.out.bel⟩
  · have d1 : decide ((40 : Int) < (g.length : Int)) = true := decide_eq_true (by omega)
    have hfin : Hid (r = false) := by
      refine hid ?_
      rw [Bool.eq_false_iff, Ne, hr2, hgw]
      exact fun hn => h40 hn.1
    clear hr2 hgw hb; replace gd := hid gd
    generalize g.length = n at *
    go_enter Try.func151, Try.ntmps151
    go_wp2
    go_ret
    exact ⟨retB hfin.out.symm, hS.out.bel⟩
end Go.Proofs.Ytbmkkaecfogmoaa

/- The reference's l02Code, l01Letters, l01Word, l02Both. -/
namespace Go.Proofs.Ytbmkkaecfogmoaa
open Go.RowKit
set_option linter.unusedVariables false
set_option linter.unusedSimpArgs false
-- @LONG

open Classical in
/-- The code of a machine and group words. -/
noncomputable def codG (m : Mach) (M : List (List Int)) : Int := if IsM m ∧ ∀ row ∈ M, IsGw m row then 0 else 1
theorem codG_0 {m : Mach} {M : List (List Int)} (h : IsM m) (hM : ∀ row ∈ M, IsGw m row) : codG m M = 0 := by unfold codG; rw [if_pos ⟨h, hM⟩]
theorem codG_1 {m : Mach} {M : List (List Int)} (h : ¬ (IsM m ∧ ∀ row ∈ M, IsGw m row)) : codG m M = 1 := by unfold codG; rw [if_neg h]
theorem codG_y {m : Mach} {g : List Int} (h : IsGw m g) : codG m [g] = 0 := codG_0 h.1 (by simp; exact h)
theorem codG_n {m : Mach} {g : List Int} (h : ¬ IsGw m g) : codG m [g] = 1 := codG_1 (fun k => h (k.2 g (by simp)))

set_option maxHeartbeats 2000000 in
set_option maxRecDepth 100000 in
theorem l02Code_any (w : World) (m : Mach) (hk : m.Ok) (base : Nat) (v : Value) (M : List (List Int)) (h : Mat w base v M) (hl : M.length < 2000000) (hlr : ∀ row ∈ M, row.length < 2000000) :
    Calls Try.prog 148 #[.agg (mcells m), v] w fun e w' => e = .returned (.int .i64 (codG m M)) ∧ Below w.heap.size w w' := by
  have hS := hid ((St.start w).newMB m 27)
  by_cases hm : IsM m
  · obtain ⟨l, s, gd⟩ := hm.good
    obtain ⟨rows, hO, hrl, hrow⟩ := h
    obtain ⟨A1, c1, rfl, _, _⟩ := hO.form
    rw [hrl] at hO ⊢
    have hcell := hid (fun (k : Nat) (x : List Int) (hx : M[k]? = some x) => (show ∃ g r, A1 = some ⟨g, 0, none⟩ ∧ ∀ W, Below w.heap.size w W → W.cell? ⟨g, k, none⟩ = some r ∧ Own W base 2 r (ints x) from by
      have hk := (List.getElem?_eq_some_iff.1 hx).1
      obtain ⟨g1, c2, he, _, hg1⟩ := hO.blk (fun e => by rw [e] at hrl; rw [← hrl] at hk; simp at hk)
      injection he with e1 e2 e3
      subst e1
      obtain ⟨r, hr⟩ : ∃ r, rows[k]? = some r := ⟨_, List.getElem?_eq_getElem (by rw [hrl]; exact hk)⟩
      exact ⟨g1, r, rfl, fun W hW => ⟨(hO.below hW).cellAt k _ hr, (hrow k r x hr hx).below hW⟩⟩))
    have hi := hid (fun W => l01Is_any W m hk true ⟨fun _ => hm, fun _ => rfl⟩)
    have his := hid (fun W r row (hr : row ∈ M) (hO : Own W base 2 r (ints row)) (c : Bool) (hc : Tells c (IsGw m row)) => l02Is_any W m l s gd base r row hO (hlr row hr) c hc)
    obtain ⟨R, hR⟩ : ∃ R, R = codG m M := ⟨_, rfl⟩
    rw [← hR]
    replace hR := hid hR; replace hm := hid hm; replace gd := hid gd; replace hk := hid hk
    clear hO hrow
    generalize hn : M.length = n at *
    replace hn := hid hn
    go_enter Try.func148, Try.ntmps148
    go_wp2_with (first
      | ((with_reducible refine gate (N := 6) rfl ?_); refine load_mach rfl _ rfl w.heap.size rfl m hS.out.m0 ?_)
      | (go_at_call 80; (with_reducible refine (hi.out _).mono ?_); rintro e w1 ⟨rfl, hb⟩; replace hS := hid (hS.out.call hb); clear hi; clear hb))
    go_loopw [5] (fun i wr => ∃ k : Nat, k ≤ n ∧ i = .int .i64 k ∧ Hid (∀ j row, j < k → M[j]? = some row → IsGw m row) ∧ St w.heap.size w [Asn.mb 27 w.heap.size m] wr) (fun i _ => n - (intOf i).toNat)
    case atStart => exact ⟨0, Nat.zero_le _, rfl, (fun j row hj => absurd hj (by omega)), hS.out⟩
    case round =>
      obtain ⟨k, hk, rfl, hA, rS⟩ := hrel
      clear hS
      replace rS := hid rS
      by_cases hlt : k < n
      · have dc : decide ((k : Int) < (n : Int)) = true := decide_eq_true (by omega)
        obtain ⟨x, hx⟩ : ∃ x, M[k]? = some x := ⟨_, List.getElem?_eq_getElem (by rw [hn.out]; exact hlt)⟩
        obtain ⟨g, r, rfl, hc⟩ := hcell.out k x hx
        have k0 : (0 : Int) ≤ (k : Int) := Int.natCast_nonneg _
        have k1 : (k : Int) < (n : Int) := by omega
        replace hc := hid hc
        go_upto_region 6 with (fail)
        replace rS := hid rS.out.drew
        refine wp_region_heldL (L := [(5, (fun w' : World => MB w' 27 w.heap.size m ∧ w'.cell? ⟨g, k, none⟩ = some r))]) (by kernel_rfl) (HeldL.cons (fun _ => ⟨rS.out.m0, (hc.out _ rS.out.bel).1⟩) HeldL.nil) (fun hHeld => ?_)
        generalize wr.drew = wa at *
        refine wpAnyL_takeP (i := 0) 5 [] (v := (.agg (mcells m))) (fun w' : World => MB w' 27 w.heap.size m ∧ w'.cell? ⟨g, k, none⟩ = some r) rfl (by kernel_rfl) (by kernel_rfl) (by kernel_rfl) (by rfl) (by kernel_rfl) (by simp) (fun _ _ _ h => h) (Or.inl ⟨by rfl, ?_⟩) (by assumption) ?_
        · (intro W hW; exact exec_load _ rfl rfl (load_run hW.1))
        intro hHeld'
        clear hHeld; have hHeld := hHeld'; clear hHeld'
        try simp only [Act.put, List.getElem_toArray, List.getElem_cons_succ, List.getElem_cons_zero, List.setIfInBounds_toArray, List.set_cons_zero, List.set_cons_succ]
        refine wpAnyL_take0 (i := 1) (v := ?_) rfl (by kernel_rfl) (by kernel_rfl) (by kernel_rfl) (by rfl) (fun _ _ _ h => h) (Or.inl ⟨by rfl, ?_⟩) (by assumption) ?_
        rotate_left
        · (intro W _; go_simp; (with_reducible rfl))
        intro hHeld'
        clear hHeld; have hHeld := hHeld'; clear hHeld'
        try simp only [Act.put, List.getElem_toArray, List.getElem_cons_succ, List.getElem_cons_zero, List.setIfInBounds_toArray, List.set_cons_zero, List.set_cons_succ]
        refine wpAnyL_take0 (i := 2) (v := ?_) rfl (by kernel_rfl) (by kernel_rfl) (by kernel_rfl) (by rfl) (fun _ _ _ h => h) (Or.inl ⟨by rfl, ?_⟩) (by assumption) ?_
        rotate_left
        · (intro W _; go_simp; (with_reducible rfl))
        intro hHeld'
        clear hHeld; have hHeld := hHeld'; clear hHeld'
        try simp only [Act.put, List.getElem_toArray, List.getElem_cons_succ, List.getElem_cons_zero, List.setIfInBounds_toArray, List.set_cons_zero, List.set_cons_succ]
        refine wpAnyL_take0 (i := 3) (v := ?_) rfl (by kernel_rfl) (by kernel_rfl) (by kernel_rfl) (by rfl) (fun _ _ _ h => h) (Or.inl ⟨by rfl, ?_⟩) (by assumption) ?_
        rotate_left
        · (intro W _; go_simp; (with_reducible rfl))
        intro hHeld'
        clear hHeld; have hHeld := hHeld'; clear hHeld'
        try simp only [Act.put, List.getElem_toArray, List.getElem_cons_succ, List.getElem_cons_zero, List.setIfInBounds_toArray, List.set_cons_zero, List.set_cons_succ]
        refine wpAnyL_takeP (i := 4) 5 [] (v := ?_) (fun w' : World => MB w' 27 w.heap.size m ∧ w'.cell? ⟨g, k, none⟩ = some r) rfl (by kernel_rfl) (by kernel_rfl) (by kernel_rfl) (by rfl) (by kernel_rfl) (by simp) (fun _ _ _ h => h) (Or.inl ⟨by rfl, ?_⟩) (by assumption) ?_
        rotate_left
        · (intro W hW; (obtain ⟨_, hW⟩ := hW); go_simp; (with_reducible rfl))
        intro hHeld'
        clear hHeld; have hHeld := hHeld'; clear hHeld'
        try simp only [Act.put, List.getElem_toArray, List.getElem_cons_succ, List.getElem_cons_zero, List.setIfInBounds_toArray, List.set_cons_zero, List.set_cons_succ]
        refine wpAnyL_ready (rs := [5]) (by kernel_rfl) (by simp) ?_
        refine AllReadyL.cons rfl (fun K hK => ?_) AllReadyL.nil
        go_simp
        by_cases hgw : IsGw m x
        · have hcl := hid (fun W hO => his.out W r x (List.mem_of_getElem? hx) hO true ⟨fun _ => hgw, fun _ => rfl⟩)
          (with_reducible refine (hcl.out _ (hc.out _ rS.out.bel).2).mono ?_)
          rintro e w2 ⟨rfl, hb⟩
          replace rS := hid (rS.out.call hb)
          clear hb
          have hA2 : Hid (∀ j row, j < k + 1 → M[j]? = some row → IsGw m row) := fun j row hj hr => by
            by_cases e : j = k
            · subst e; rw [hx] at hr; injection hr with hr; subst hr; exact hgw
            · exact hA.out j row (by omega) hr
          clear hx hgw hcl
          go_simp
          refine hK.out _ _ (HeldL.cons (fun h => absurd h (by decide +kernel)) HeldL.nil) (fun hHeld' => ?_)
          clear hK K hHeld; have hHeld := hHeld'; clear hHeld'
          try simp only [Act.put, List.getElem_toArray, List.getElem_cons_succ, List.getElem_cons_zero, List.setIfInBounds_toArray, List.set_cons_zero, List.set_cons_succ]
          refine wpAnyL_take0 (i := 6) (v := ?_) rfl (by kernel_rfl) (by kernel_rfl) (by kernel_rfl) (by rfl) (fun _ _ _ h => h) (Or.inl ⟨by rfl, ?_⟩) (by assumption) ?_
          rotate_left
          · (intro W _; go_simp; (with_reducible rfl))
          intro hHeld'
          clear hHeld; have hHeld := hHeld'; clear hHeld'
          try simp only [Act.put, List.getElem_toArray, List.getElem_cons_succ, List.getElem_cons_zero, List.setIfInBounds_toArray, List.set_cons_zero, List.set_cons_succ]
          refine wpAnyL_done (by kernel_rfl) ?_ _
          go_wp2
          go_roundw
          case rel => exact ⟨k + 1, by omega, by go_num, hA2, rS.out⟩
          case measure => simp [intOf]; omega
        · have hcl := hid (fun W hO => his.out W r x (List.mem_of_getElem? hx) hO false ⟨fun h => (by cases h), fun h => absurd h hgw⟩)
          (with_reducible refine (hcl.out _ (hc.out _ rS.out.bel).2).mono ?_)
          rintro e w2 ⟨rfl, hb⟩
          replace rS := hid (rS.out.call hb)
          clear hb
          have hfin := hid (show R = 1 by rw [hR.out]; exact codG_1 (fun h => hgw (h.2 x (List.mem_of_getElem? hx))))
          clear hx hgw hcl
          go_simp
          refine hK.out _ _ (HeldL.cons (fun h => absurd h (by decide +kernel)) HeldL.nil) (fun hHeld' => ?_)
          clear hK K hHeld; have hHeld := hHeld'; clear hHeld'
          try simp only [Act.put, List.getElem_toArray, List.getElem_cons_succ, List.getElem_cons_zero, List.setIfInBounds_toArray, List.set_cons_zero, List.set_cons_succ]
          refine wpAnyL_take0 (i := 6) (v := ?_) rfl (by kernel_rfl) (by kernel_rfl) (by kernel_rfl) (by rfl) (fun _ _ _ h => h) (Or.inl ⟨by rfl, ?_⟩) (by assumption) ?_
          rotate_left
          · (intro W _; go_simp; (with_reducible rfl))
          intro hHeld'
          clear hHeld; have hHeld := hHeld'; clear hHeld'
          try simp only [Act.put, List.getElem_toArray, List.getElem_cons_succ, List.getElem_cons_zero, List.setIfInBounds_toArray, List.set_cons_zero, List.set_cons_succ]
          refine wpAnyL_done (by kernel_rfl) ?_ _
          go_wp2
          go_ret
          exact ⟨retI (by rw [hfin.out]), rS.out.bel⟩
      · obtain rfl : k = n := by omega
        have dc : decide ((k : Int) < (k : Int)) = false := decide_eq_false (by omega)
        have hfin := hid (show R = 0 by
          rw [hR.out]
          refine codG_0 hm.out fun row hr => ?_
          obtain ⟨j, hj, rfl⟩ := List.getElem_of_mem hr
          exact hA.out j _ (by rw [← hn.out]; exact hj) (List.getElem?_eq_getElem hj))
        go_wp2
        go_ret
        exact ⟨retI (by rw [hfin.out]), rS.out.bel⟩
  · have hi := hid (fun W => l01Is_any W m hk false ⟨fun h => (by cases h), fun h => absurd h hm⟩)
    rw [codG_1 (fun h => hm h.1)]
    replace hk := hid hk; replace h := hid h; clear hm
    go_enter Try.func148, Try.ntmps148
    go_wp2_with (first
      | ((with_reducible refine gate (N := 6) rfl ?_); refine load_mach rfl _ rfl w.heap.size rfl m hS.out.m0 ?_)
      | (go_at_call 80; (with_reducible refine (hi.out _).mono ?_); rintro e w1 ⟨rfl, hb⟩; replace hS := hid (hS.out.call hb); clear hi; clear hb))
    go_ret
    exact ⟨rfl, hS.out.bel⟩
set_option maxHeartbeats 1000000 in
set_option maxRecDepth 100000 in
theorem l01Letters_any (d : Int) (_ : 2 ≤ d) (_ : d ≤ 3) (ws : ByteArray) (hws : ws.size < 1000000000000) (r : Bool) (hr : Tells r (∀ k (h : k < ws.size), 48 ≤ (ws[k]'h).toNat ∧ ((ws[k]'h).toNat : Int) - 48 < d)) (w : World) :
    Calls Try.prog 222 #[.int .i64 d, .string ws] w fun e w' => e = .returned (.bool r) ∧ w = w' := by
  replace hr := hid hr
  go_enter Try.func222, Try.ntmps222
  go_wp2
  go_loop [5] (fun i => ∃ k : Nat, k ≤ ws.size ∧ i = .int .i64 k ∧ Hid (∀ j (h : j < ws.size), j < k → 48 ≤ (ws[j]'h).toNat ∧ ((ws[j]'h).toNat : Int) - 48 < d)) (fun i => ws.size - (intOf i).toNat)
  case atStart => exact ⟨0, Nat.zero_le _, rfl, fun j _ h => absurd h (by omega)⟩
  case round =>
    obtain ⟨k, hk, rfl, hall⟩ := hrel
    by_cases hlt : k < ws.size
    · have hstep : (48 ≤ (ws[k]'hlt).toNat ∧ ((ws[k]'hlt).toNat : Int) - 48 < d) → Hid (∀ j (h : j < ws.size), j < k + 1 → 48 ≤ (ws[j]'h).toNat ∧ ((ws[j]'h).toNat : Int) - 48 < d) := fun hc j hj hjk => by
        by_cases e : j = k
        · subst e; exact hc
        · exact hall.out j hj (by omega)
      have hfail : ¬ (48 ≤ (ws[k]'hlt).toNat ∧ ((ws[k]'hlt).toNat : Int) - 48 < d) → r = false := fun hc => by
        cases r
        · rfl
        · exact absurd ((hr.out.out.1 rfl) k hlt) hc
      have hbl := UInt8.toNat_lt (ws[k]'hlt)
      generalize hb : (ws[k]'hlt).toNat = b at *
      replace hstep := hid hstep
      by_cases h48 : 48 ≤ b
      · obtain ⟨x, rfl⟩ := Nat.exists_eq_add_of_le h48
        have e1 : 48 + (x : Int) - 48 = x := by omega
        by_cases hxd : (x : Int) < d
        · clear hfail
          go_wp2
          go_round
          case rel => exact ⟨k + 1, by omega, by go_num, hstep.out ⟨by omega, by omega⟩⟩
          case measure => simp [intOf]; omega
        · have hf := hfail (fun hc => hxd (by omega))
          subst hf
          have dx : decide ((x : Int) ≥ d) = true := decide_eq_true (by omega)
          clear hfail
          go_wp2
          go_ret
          exact ⟨rfl, rfl⟩
      · have hf := hfail (fun hc => h48 hc.1)
        subst hf
        have dx : decide ((b : Int) < 48) = true := decide_eq_true (by omega)
        clear hfail
        go_wp2
        go_ret
        exact ⟨rfl, rfl⟩
    · obtain rfl : k = ws.size := by omega
      have hrr := hid (hr.out.out.2 fun j hj => hall.out j hj hj)
      go_wp2
      go_ret
      exact ⟨retB hrr.out.symm, rfl⟩

set_option maxHeartbeats 1000000 in
theorem l01Word_any (w : World) (m : Mach) (l s : Nat) (gd : Good m l s) (ws : ByteArray) (hws : ws.size < 1000000000000) (r : Bool) (hr : Tells r (IsWd l ws)) :
    Calls Try.prog 230 #[.agg (mcells m), .string ws] w fun e w' => e = .returned (.bool r) ∧ Below w.heap.size w w' := by
  classical
  have hS := hid ((St.start w).newMB m 27)
  have cL := hS.out.m0.cL
  rw [gd.L] at cL
  have hr2 := hr.out
  by_cases h40 : ws.size ≤ 40
  · have d1 : decide ((ws.size : Int) ≤ 40) = true := decide_eq_true (by omega)
    have hle := hid (fun W => l01Letters_any (l : Int) (by have := gd.l2; omega) (by have := gd.l3; omega) ws hws r (by
      constructor
      · intro h; exact (hr2.1 h).2
      · intro h; exact hr2.2 ⟨h40, h⟩) W)
    replace gd := hid gd; clear hr hr2
    go_enter Try.func230, Try.ntmps230
    go_wp2_with (first
      | (go_at_call 222; (with_reducible refine (hle.out _).mono ?_); rintro e w' ⟨rfl, rfl⟩))
    go_ret
    exact ⟨rfl, hS.out.bel⟩
  · have d1 : decide ((ws.size : Int) ≤ 40) = false := decide_eq_false (by omega)
    have hf : r = false := by rw [Bool.eq_false_iff, Ne, hr2]; exact fun h => h40 h.1
    subst hf
    replace gd := hid gd; clear hr hr2
    go_enter Try.func230, Try.ntmps230
    go_wp2
    go_ret
    exact ⟨rfl, hS.out.bel⟩
open Classical in
/-- The code of a group word and a word. -/
noncomputable def codB (m : Mach) (g : List Int) (ws : ByteArray) : Int := if IsGw m g ∧ IsWd m.L ws then 0 else 1
theorem codB_n {m : Mach} {g : List Int} {ws : ByteArray} (h : ¬ IsGw m g) : codB m g ws = 1 := by unfold codB; rw [if_neg (fun k => h k.1)]
theorem codB_w {m : Mach} {l s : Nat} {g : List Int} {ws : ByteArray} (gd : Good m l s) (h : ¬ IsWd l ws) : codB m g ws = 1 := by unfold codB; rw [gd.L, if_neg (fun k => h k.2)]
theorem codB_0 {m : Mach} {l s : Nat} {g : List Int} {ws : ByteArray} (gd : Good m l s) (h : IsGw m g) (hw : IsWd l ws) : codB m g ws = 0 := by unfold codB; rw [gd.L, if_pos ⟨h, hw⟩]
set_option maxHeartbeats 2000000 in
set_option maxRecDepth 4000 in
theorem l02Both_any (w : World) (m : Mach) (hkm : m.Ok) (b0 : Nat) (v : Value) (g : List Int) (hg : Own w b0 2 v (ints g)) (hl : g.length < 2000000) (ws : ByteArray) (hws : ws.size < 1000000000000) :
    Calls Try.prog 154 #[.agg (mcells m), v, .string ws] w fun e w' => e = .returned (.int .i64 (codB m g ws)) ∧ Below w.heap.size w w' := by
  obtain ⟨A0, cp0, rfl, _, _⟩ := hg.form
  rw [ints_length] at hg ⊢
  have hS := hid ((St.arg w hg).newMB m 27)
  have hown := hid (hS.out.newOwn [(Value.slice A0 g.length cp0)] 29 (by simp))
  simp only [heap_alloc_size, List.length_cons, List.length_nil, Nat.zero_add] at hown
  have hco := hid (fun W b vv (hO : Own W b 29 vv [(Value.slice A0 g.length cp0)]) (hr : Own W b 2 (Value.slice A0 g.length cp0) (ints g)) => l02Code_any W m hkm b vv [g] (mat_one hO hr) (by simp) (by simp; omega))
  rcases gw_cases m g ws with h | ⟨l, s, gd, h, hw⟩ | ⟨l, s, gd, h, hw⟩
  · have hbad : ¬ IsGw m g := by
      rcases h with h | h
      · exact fun k => h k.1
      · exact h
    rw [codB_n hbad]
    rw [codG_n hbad] at hco
    replace hkm := hid hkm; replace hg := hid hg; clear h hbad
    go_enter Try.func154, Try.ntmps154
    go_wp2_with (first
      | ((with_reducible refine gate (N := 7) rfl ?_); refine load_mach rfl _ rfl w.heap.size rfl m hS.out.m0 ?_)
      | (go_at_call 148; (with_reducible refine (hco.out _ _ _ (hown.out.o0.mono (Nat.zero_le _)) hown.out.o2).mono ?_); rintro e w1 ⟨rfl, hb⟩; replace hS := hid (hown.out.call hb); clear hco hown; clear hb))
    go_ret
    exact ⟨rfl, hS.out.bel⟩
  · rw [codB_w gd hw]
    rw [codG_y h] at hco
    have hwd := hid (fun W => l01Word_any W m l s gd ws hws false ⟨fun h => (by cases h), fun h => absurd h hw⟩)
    replace hkm := hid hkm; replace hg := hid hg; replace gd := hid gd; clear h hw
    go_enter Try.func154, Try.ntmps154
    go_wp2_with (first
      | ((with_reducible refine gate (N := 7) rfl ?_); refine load_mach rfl _ rfl w.heap.size rfl m hS.out.m0 ?_)
      | (go_at_call 148; (with_reducible refine (hco.out _ _ _ (hown.out.o0.mono (Nat.zero_le _)) hown.out.o2).mono ?_); rintro e w1 ⟨rfl, hb⟩; replace hS := hid (hown.out.call hb).drop; clear hco hown; clear hb)
      | ((with_reducible refine gate (N := 13) rfl ?_); refine load_mach_g (by rfl) _ rfl w.heap.size rfl m hS.out.m0 ?_)
      | (go_at_call 230; (with_reducible refine (hwd.out _).mono ?_); rintro e w2 ⟨rfl, hb⟩; replace hS := hid (hS.out.call hb); clear hb))
    go_ret
    exact ⟨rfl, hS.out.bel⟩
  · rw [codB_0 gd h hw]
    rw [codG_y h] at hco
    have hwd := hid (fun W => l01Word_any W m l s gd ws hws true ⟨fun _ => hw, fun _ => rfl⟩)
    replace hkm := hid hkm; replace hg := hid hg; replace gd := hid gd; clear h hw
    go_enter Try.func154, Try.ntmps154
    go_wp2_with (first
      | ((with_reducible refine gate (N := 7) rfl ?_); refine load_mach rfl _ rfl w.heap.size rfl m hS.out.m0 ?_)
      | (go_at_call 148; (with_reducible refine (hco.out _ _ _ (hown.out.o0.mono (Nat.zero_le _)) hown.out.o2).mono ?_); rintro e w1 ⟨rfl, hb⟩; replace hS := hid (hown.out.call hb).drop; clear hco hown; clear hb)
      | ((with_reducible refine gate (N := 13) rfl ?_); refine load_mach_g (by rfl) _ rfl w.heap.size rfl m hS.out.m0 ?_)
      | (go_at_call 230; (with_reducible refine (hwd.out _).mono ?_); rintro e w2 ⟨rfl, hb⟩; replace hS := hid (hS.out.call hb); clear hb))
    go_ret
    exact ⟨rfl, hS.out.bel⟩
end Go.Proofs.Ytbmkkaecfogmoaa

/- Machines, compared by ==; and the machine of a state of a table is of bytes, and a machine again. -/
namespace Go.Proofs.Ytbmkkaecfogmoaa
open Go.RowKit
set_option linter.unusedVariables false
set_option linter.unusedSimpArgs false

theorem cells_b48 : Try.prog.cellsOf 25 = 48 := by kernel_rfl
theorem cells_mach : Try.prog.cellsOf 27 = 98 := by kernel_rfl
theorem cells_i64 : Try.prog.cellsOf 2 = 1 := by kernel_rfl
theorem wf_i64s (a : Nat) (h : a < 1000000) : (Lit.int .i64 (a : Int)).wf = true := by
  have h0 : IntKind.i64.min = -9223372036854775808 := by decide
  have h1 : IntKind.i64.max = 9223372036854775807 := by decide
  simp [Lit.wf, IntKind.has, h0, h1]; omega
theorem lits_i64 (d : Nat) (a : Nat) (h : a < 1000000) : Try.prog.keyLits (d + 1) 2 [.int .i64 (a : Int)] = some [.int .i64 (a : Int)] := by
  unfold Program.keyLits
  rw [Try.underlying2]
  simp [wf_i64s a h]
theorem mapM_all {α β : Type} (F : α → Option β) (G : α → β) : ∀ l : List α, (∀ a ∈ l, F a = some (G a)) → l.mapM F = some (l.map G)
  | [], _ => rfl
  | a :: l, h => by
    rw [List.mapM_cons, h a (by simp), mapM_all F G l (fun b hb => h b (by simp [hb]))]
    rfl
def lrow3 (f : Nat → Nat) (i : Nat) : List Lit := [.int .u8 (f (i * 3) : Nat), .int .u8 (f (i * 3 + 1) : Nat), .int .u8 (f (i * 3 + 2) : Nat)]
def lit48 (f : Nat → Nat) : List Lit := ((List.range 16).map (lrow3 f)).flatten
theorem cut3 {α : Type} (g : Nat → α) (i : Nat) (h : i < 16) : (((List.range 48).map g).drop (i * 3)).take 3 = [g (i * 3), g (i * 3 + 1), g (i * 3 + 2)] := by
  apply List.ext_getElem?
  intro n
  rw [List.getElem?_take]
  rcases n with _ | _ | _ | n
  · rw [if_pos (by omega), List.getElem?_drop, List.getElem?_map, List.getElem?_range (by omega)]; rfl
  · rw [if_pos (by omega), List.getElem?_drop, List.getElem?_map, List.getElem?_range (by omega)]; rfl
  · rw [if_pos (by omega), List.getElem?_drop, List.getElem?_map, List.getElem?_range (by omega)]; rfl
  · rw [if_neg (by omega)]; rfl
theorem lits_b48 (d : Nat) (f : Nat → Nat) (h : ∀ i, f i < 256) : Try.prog.keyLits (d + 3) 25 ((List.range 48).map fun i => .int .u8 (f i : Nat)) = some (lit48 f) := by
  unfold Program.keyLits
  rw [Try.underlying25]
  simp only [cells_b48, List.length_map, List.length_range, cells_b3, if_true]
  rw [mapM_all _ (lrow3 f)]
  · rfl
  · intro i hi
    rw [List.mem_range] at hi
    rw [cut3 _ i hi]
    exact lits_b3 d _ _ _ (h _) (h _) (h _)
theorem flat3_inj (f g : Nat → Nat) : ∀ l : List Nat, (l.map (lrow3 f)).flatten = (l.map (lrow3 g)).flatten ↔ ∀ i ∈ l, lrow3 f i = lrow3 g i
  | [] => by simp
  | a :: l => by
    simp only [List.map_cons, List.flatten_cons, List.mem_cons, forall_eq_or_imp]
    rw [← flat3_inj f g l]
    exact ⟨fun h => List.append_inj h rfl, fun h => by rw [h.1, h.2]⟩
theorem lit48_inj (f g : Nat → Nat) (h : lit48 f = lit48 g) : ∀ i, i < 48 → f i = g i := fun i hi => by
  have := (flat3_inj f g _).1 h (i / 3) (List.mem_range.2 (by omega))
  simp only [lrow3, List.cons.injEq, Lit.int.injEq, true_and, and_true, Int.natCast_inj] at this
  obtain ⟨h0, h1, h2⟩ := this
  rcases (show i = i / 3 * 3 ∨ i = i / 3 * 3 + 1 ∨ i = i / 3 * 3 + 2 by omega) with e | e | e
  · rw [e]; exact h0
  · rw [e]; exact h1
  · rw [e]; exact h2
theorem mcells_list (m : Mach) : (mcells m).toList = [.int .i64 m.L] ++ ([.int .i64 m.S] ++ (((List.range 48).map fun i => .int .u8 (m.nx i : Nat)) ++ ((List.range 48).map fun i => .int .u8 (m.ot i : Nat)))) := by
  apply List.ext_getElem?
  intro n
  rw [Array.getElem?_toList]
  by_cases h : n < 98
  · rw [mcells_get m n h]
    rcases n with _ | _ | n
    · rfl
    · rfl
    · rw [List.getElem?_append_right (by simp), List.getElem?_append_right (by simp)]
      simp only [List.length_cons, List.length_nil]
      rw [show n + 1 + 1 - (0 + 1) - (0 + 1) = n by omega]
      by_cases hn : n < 48
      · rw [List.getElem?_append_left (by simpa using hn)]
        simp [mf, hn]; omega
      · rw [List.getElem?_append_right (by simp; omega)]
        simp only [List.length_map, List.length_range]
        rw [List.getElem?_map, List.getElem?_range (by omega)]
        unfold mf
        rw [if_neg (by omega), if_neg (by omega), if_neg (by omega), show n + 1 + 1 - 50 = n - 48 by omega]
        rfl
  · rw [Array.getElem?_eq_none (by rw [size_mcells]; omega), List.getElem?_eq_none (by simp; omega)]
def mlits (a b : Nat) (m : Mach) : List Lit := [.int .i64 (a : Int)] ++ ([.int .i64 (b : Int)] ++ (lit48 m.nx ++ lit48 m.ot))
set_option maxRecDepth 4000 in
theorem lits_mach (d : Nat) (m : Mach) (hk : m.Ok) (a b : Nat) (ha : m.L = a) (hb : m.S = b) (ha' : a < 1000000) (hb' : b < 1000000) : Try.prog.keyLits (d + 4) 27 (mcells m).toList = some (mlits a b m) := by
  have hlen : (mcells m).toList.length = 98 := by rw [Array.length_toList, size_mcells]
  have hc := mcells_list m
  rw [ha, hb] at hc
  have hN : ((List.range 48).map fun i => Value.int .u8 (m.nx i : Nat)).length = 48 := by simp
  have hO : ((List.range 48).map fun i => Value.int .u8 (m.ot i : Nat)).length = 48 := by simp
  have kN := lits_b48 d m.nx (fun i => (hk i).1)
  have kO := lits_b48 d m.ot (fun i => (hk i).2)
  generalize (List.range 48).map (fun i => Value.int .u8 (m.nx i : Nat)) = N at *
  generalize (List.range 48).map (fun i => Value.int .u8 (m.ot i : Nat)) = O at *
  unfold Program.keyLits
  rw [Try.underlying27]
  simp only [hlen, cells_mach, if_true, true_and]
  rw [if_pos (by decide +kernel)]
  rw [hc]
  simp only [List.mapM_cons, List.mapM_nil, cells_i64, cells_b48]
  have e0 : ([Value.int .i64 (a : Int)] ++ ([Value.int .i64 (b : Int)] ++ (N ++ O))).drop 2 = N ++ O := rfl
  have e1 : ([Value.int .i64 (a : Int)] ++ ([Value.int .i64 (b : Int)] ++ (N ++ O))).drop 50 = O := by
    show (N ++ O).drop 48 = O
    rw [List.drop_append_of_le_length (by omega), List.drop_of_length_le (by omega), List.nil_append]
  have e2 : (N ++ O).take 48 = N := by rw [List.take_append_of_le_length (by omega), List.take_of_length_le (by omega)]
  have e3 : O.take 48 = O := List.take_of_length_le (by omega)
  have e4 : (([Value.int .i64 (a : Int)] ++ ([Value.int .i64 (b : Int)] ++ (N ++ O))).drop 0).take 1 = [Value.int .i64 (a : Int)] := rfl
  have e5 : (([Value.int .i64 (a : Int)] ++ ([Value.int .i64 (b : Int)] ++ (N ++ O))).drop 1).take 1 = [Value.int .i64 (b : Int)] := rfl
  rw [e0, e1, e2, e3, e4, e5, lits_i64 _ a ha', lits_i64 _ b hb', kN, kO]
  simp [mlits]
theorem mlits_inj {a b a' b' : Nat} {m k : Mach} (ha : m.L = a) (hb : m.S = b) (ha' : k.L = a') (hb' : k.S = b') : mlits a b m = mlits a' b' k ↔ mcells m = mcells k := by
  constructor
  · intro h
    unfold mlits at h
    have l1 : (lit48 m.nx).length = 48 := rfl
    have l2 : (lit48 k.nx).length = 48 := rfl
    have h1 := List.append_inj h rfl
    have h2 := List.append_inj h1.2 rfl
    have h3 := List.append_inj h2.2 (by rw [l1, l2])
    have i1 := lit48_inj _ _ h3.1
    have i2 := lit48_inj _ _ h3.2
    have e1 : a = a' := by have := h1.1; simp at this; omega
    have e2 : b = b' := by have := h2.1; simp at this; omega
    unfold mcells
    congr 1
    apply List.map_congr_left
    intro i hi
    rw [List.mem_range] at hi
    unfold mf
    rw [ha, hb, ha', hb', e1, e2]
    split
    · rfl
    · split
      · rfl
      · split
        · rw [i1 _ (by omega)]
        · rw [i2 _ (by omega)]
  · intro h
    have g : ∀ i, i < 98 → mf m i = mf k i := fun i hi => by
      have := mcells_get m i hi
      rw [h, mcells_get k i hi] at this
      exact (Option.some.inj this).symm
    have e1 : a = a' := by have := g 0 (by omega); simp [mf, ha, ha'] at this; omega
    have e2 : b = b' := by have := g 1 (by omega); simp [mf, hb, hb'] at this; omega
    have i1 : ∀ i, i < 48 → m.nx i = k.nx i := fun i hi => by
      have := g (i + 2) (by omega)
      unfold mf at this
      rw [if_neg (by omega), if_neg (by omega), if_pos (by omega), if_neg (by omega), if_neg (by omega), if_pos (by omega)] at this
      simp at this
      omega
    have i2 : ∀ i, i < 48 → m.ot i = k.ot i := fun i hi => by
      have := g (i + 50) (by omega)
      unfold mf at this
      rw [if_neg (by omega), if_neg (by omega), if_neg (by omega), if_neg (by omega), if_neg (by omega), if_neg (by omega)] at this
      simp at this
      omega
    unfold mlits lit48
    rw [e1, e2]
    congr 3
    · congr 1
      apply List.map_congr_left
      intro i hi
      rw [List.mem_range] at hi
      unfold lrow3
      rw [i1 _ (by omega), i1 _ (by omega), i1 _ (by omega)]
    · congr 1
      apply List.map_congr_left
      intro i hi
      rw [List.mem_range] at hi
      unfold lrow3
      rw [i2 _ (by omega), i2 _ (by omega), i2 _ (by omega)]
/-- Two machines. -/
theorem eq_mach (w : World) (m k : Mach) (hm : m.Ok) (hk : k.Ok) (a b a' b' : Nat) (ha : m.L = a) (hb : m.S = b) (ha' : k.L = a') (hb' : k.S = b') (la : a < 1000000) (lb : b < 1000000) (la' : a' < 1000000) (lb' : b' < 1000000) (r : Bool) (hr : Tells r (mcells m = mcells k)) :
    (Op.equalIn 10000 27 (.agg (mcells m)) (.agg (mcells k))).run Try.prog w = .ok r w := by
  have hf : ∀ m : Mach, (Value.agg (mcells m)).formed Try.prog 27 = true := fun m => by
    simp [Value.formed, Try.underlying27, cells_mach, size_mcells]
  obtain ⟨q, hq, hi⟩ := run_equalIn_deep (P := Try.prog) 9995 5 27 key_mach w 4 4 _ _ _ _ (hf m) (hf k) (lits_mach 0 m hm a b ha hb la lb) (lits_mach 0 k hk a' b' ha' hb' la' lb')
  have e : q = r := by
    rw [Bool.eq_iff_iff, hi, hr.out, mlits_inj ha hb ha' hb']
  rw [← e]
  exact hq

section
variable {T : Tab}
/-- The machine of a state of a table. -/
theorem fin_lt (hT : T.Ok) {q : Nat} (hq : q < T.n) {s : Nat} (hs : s ∈ fin T (fix T) q) : s < T.n := (bfs_uniq hT (fun q hq => fix_lt q hq) q hq T.n).2 s hs
theorem gth_nx (hT : T.Ok) {q : Nat} (hq : q < T.n) (p : Nat) : (gth T (fix T) (fin T (fix T) q)).nx p ≤ (fin T (fix T) q).length ∧ (p / 3 < (fin T (fix T) q).length → p % 3 < T.L → (gth T (fix T) (fin T (fix T) q)).nx p < (fin T (fix T) q).length) := by
  have hp := fin_pos T (fix T) q
  unfold gth gthP
  dsimp only
  split
  · rename_i h
    have hi : p / 3 < (fin T (fix T) q).length := by omega
    have hs : (fin T (fix T) q).getD (p / 3) 0 ∈ fin T (fix T) q := by
      rw [List.getD_eq_getElem?_getD, List.getElem?_eq_getElem hi]; exact List.getElem_mem hi
    have := mem_idxOf_lt (fin_closed hT (c := fix T) (fun q hq => fix_lt q hq) hq _ hs (p % 3) h.2)
    exact ⟨Nat.le_of_lt this, fun _ _ => this⟩
  · rename_i h
    exact ⟨Nat.zero_le _, fun h1 h2 => absurd ⟨.inl h1, h2⟩ h⟩
theorem gth_ot (hT : T.Ok) {q : Nat} (hq : q < T.n) {N : Nat} (hN : 0 < N) (hot : ∀ q x, q < T.n → x < T.L → T.ot q x < N) (p : Nat) : (gth T (fix T) (fin T (fix T) q)).ot p < N := by
  unfold gth gthP
  dsimp only
  split
  · rename_i h
    refine hot _ _ ?_ h.2
    have hi : p / 3 < (fin T (fix T) q).length := by omega
    rw [List.getD_eq_getElem?_getD, List.getElem?_eq_getElem hi]
    exact fin_lt hT hq (List.getElem_mem hi)
  · exact hN
theorem fromM_ok (hT : T.Ok) {q : Nat} (hq : q < T.n) (hot : ∀ q x, q < T.n → x < T.L → T.ot q x < 256) : (fromM T q).Ok := by
  unfold fromM
  split
  · rename_i h
    intro p
    exact ⟨by have := (gth_nx hT hq p).1; omega, gth_ot hT hq (by omega) hot p⟩
  · exact fun p => ⟨by show 0 < 256; omega, by show 0 < 256; omega⟩
theorem fromM_L (T : Tab) (q : Nat) : ∃ a : Nat, (fromM T q).L = a ∧ a ≤ T.L := by
  unfold fromM; split
  · exact ⟨T.L, rfl, Nat.le_refl _⟩
  · exact ⟨0, rfl, Nat.zero_le _⟩
theorem fromM_S (T : Tab) (q : Nat) : ∃ a : Nat, (fromM T q).S = a ∧ a ≤ 16 := by
  unfold fromM; split
  · rename_i h; exact ⟨_, rfl, h⟩
  · exact ⟨0, rfl, Nat.zero_le _⟩
/-- .. is a machine, where the table's rows are permutations. -/
theorem fromM_good (hT : T.Ok) {q : Nat} (hq : q < T.n) (h2 : 2 ≤ T.L) (h3 : T.L ≤ 3) (hot : ∀ q x, q < T.n → x < T.L → T.ot q x < T.L) (hinj : ∀ q, q < T.n → ∀ y x, y < x → x < T.L → T.ot q y ≠ T.ot q x) (hc : fromC T q = 0) :
    ∃ s, Good (fromM T q) T.L s := by
  have h : (fin T (fix T) q).length ≤ 16 := by
    unfold fromC at hc
    split at hc
    · assumption
    · cases hc
  refine ⟨(fin T (fix T) q).length, ?_⟩
  have hg : fromM T q = gth T (fix T) (fin T (fix T) q) := by unfold fromM; rw [if_pos h]
  rw [hg]
  have hat : ∀ r, r < (fin T (fix T) q).length → (fin T (fix T) q).getD r 0 < T.n := fun r hr => by
    rw [List.getD_eq_getElem?_getD, List.getElem?_eq_getElem hr]
    exact fin_lt hT hq (List.getElem_mem hr)
  refine ⟨rfl, rfl, h2, h3, fin_pos _ _ _, h, ?_, ?_, ?_, ?_⟩
  · intro r x hr hx
    exact (gth_nx hT hq _).2 (by omega) (by omega)
  · intro r x hr hx
    exact gth_ot hT hq (by omega) hot _
  · intro r hr y x hy hx
    unfold gth gthP
    dsimp only
    rw [if_pos (by omega), if_pos (by omega), show (r * 3 + y) / 3 = r by omega, show (r * 3 + x) / 3 = r by omega, show (r * 3 + y) % 3 = y by omega, show (r * 3 + x) % 3 = x by omega]
    exact hinj _ (hat r hr) y x hy hx
  · intro r x hr hx hn
    unfold gth gthP
    dsimp only
    rw [if_neg (by omega), if_neg (by omega)]
    exact ⟨rfl, rfl⟩
theorem tabOf_ot {m : Mach} {l s : Nat} (g : Good m l s) : ∀ q x, q < (tabOf m l s).n → x < (tabOf m l s).L → (tabOf m l s).ot q x < (tabOf m l s).L := fun q x hq hx => g.ot q x hq hx
theorem tabOf_inj {m : Mach} {l s : Nat} (g : Good m l s) : ∀ q, q < (tabOf m l s).n → ∀ y x, y < x → x < (tabOf m l s).L → (tabOf m l s).ot q y ≠ (tabOf m l s).ot q x := fun q hq y x hy hx => g.inj q hq y x hy hx
end
end Go.Proofs.Ytbmkkaecfogmoaa

/- Machines of few letters and states are compared by ==. -/
namespace Go.Proofs.Ytbmkkaecfogmoaa
open Go.RowKit
set_option linter.unusedVariables false
set_option linter.unusedSimpArgs false

def Sm (m : Mach) : Prop := m.Ok ∧ ∃ a b : Nat, m.L = a ∧ m.S = b ∧ a ≤ 3 ∧ b ≤ 16
theorem Sm.same {m : Mach} (h : Sm m) (w : World) : (Op.equalIn 10000 27 (.agg (mcells m)) (.agg (mcells m))).run Try.prog w = .ok true w := by
  obtain ⟨hk, a, b, ha, hb, la, lb⟩ := h
  exact eq_mach w m m hk hk a b a b ha hb ha hb (by omega) (by omega) (by omega) (by omega) true (iff_of_true rfl rfl)
theorem Sm.zero : Sm ⟨0, 0, fun _ => 0, fun _ => 0⟩ := ⟨fun _ => ⟨show 0 < 256 by decide, show 0 < 256 by decide⟩, 0, 0, rfl, rfl, by decide, by decide⟩
theorem Good.sm {m : Mach} {l s : Nat} (g : Good m l s) (h : m.Ok) : Sm m := ⟨h, l, s, g.L, g.S, g.l3, g.s16⟩
end Go.Proofs.Ytbmkkaecfogmoaa
