/- The code of a machine, a word and states. -/
import Derived.Test.YthempofohidlnaaRes
namespace Go.Proofs.Ythempofohidlnaa
open Go.RowKit
set_option linter.unusedVariables false
set_option linter.unusedSimpArgs false

/-- A text is a word for d letters. -/
def IsWd (d : Int) (ws : ByteArray) : Prop := ws.size ≤ 40 ∧ ∀ k (h : k < ws.size), 48 ≤ (ws[k]'h).toNat ∧ ((ws[k]'h).toNat : Int) - 48 < d

theorem wstr_of_bytes (ws : ByteArray) (h : ∀ k (h : k < ws.size), 48 ≤ (ws[k]'h).toNat) : ws = wstr (ws.data.toList.map fun b => b.toNat - 48) := by
  have hs : ws.data.size = ws.size := rfl
  apply ByteArray.ext
  apply Array.ext
  · simp [wstr, strOfNums]
  · intro i h1 h2
    have := h i h1
    have e : (ws[i]'h1) = ws.data[i] := rfl
    rw [e] at this
    simp only [wstr, strOfNums, List.map_map, List.getElem_toArray, List.getElem_map, Function.comp, Array.getElem_toList]
    apply UInt8.toNat_inj.1
    rw [UInt8.toNat_ofNat']
    have := UInt8.toNat_lt (ws.data[i])
    omega

/-- A word's letters. -/
theorem IsWd.letters {d : Int} {ws : ByteArray} (h : IsWd d ws) : ∃ u : List Nat, ws = wstr u ∧ (∀ x ∈ u, (x : Int) < d) ∧ u.length ≤ 40 := by
  refine ⟨_, wstr_of_bytes ws (fun k hk => (h.2 k hk).1), fun x hx => ?_, by simpa using h.1⟩
  obtain ⟨b, hb, rfl⟩ := List.mem_map.1 hx
  obtain ⟨k, hk, rfl⟩ := List.getElem_of_mem hb
  have hk' : k < ws.size := by simpa using hk
  have := h.2 k hk'
  have e : ws.data.toList[k] = ws[k]'hk' := by rw [Array.getElem_toList]; rfl
  rw [e]
  omega
theorem isWd_wstr {d : Int} {u : List Nat} (hu : ∀ x ∈ u, (x : Int) < d) (hd : d ≤ 200) (hl : u.length ≤ 40) : IsWd d (wstr u) := by
  refine ⟨by rw [wstr_size]; exact hl, fun k hk => ?_⟩
  have hk' : k < u.length := by rwa [wstr_size] at hk
  have hm := hu _ (getD_mem u k hk')
  rw [wstr_byte u k hk (fun x hx => by have := hu x hx; omega)]
  omega
theorem isWd_nil (d : Int) : IsWd d { data := #[] } := ⟨by decide, fun k h => absurd h (by simp [ByteArray.size])⟩

open Classical in
/-- The code of a machine, a word and states. -/
noncomputable def codeI (m : Mach) (ws : ByteArray) (qs : List Int) : Int := if IsM m ∧ IsWd m.L ws then if ∀ q ∈ qs, 0 ≤ q ∧ q < m.S then 0 else 2 else 1

set_option maxHeartbeats 1000000 in
set_option maxRecDepth 100000 in
theorem isWord_any (d : Int) (_ : 2 ≤ d) (_ : d ≤ 3) (ws : ByteArray) (hws : ws.size < 1000000000000) (r : Bool) (hr : Tells r (IsWd d ws)) (w : World) :
    Calls Try.prog 53 #[.int .i64 d, .string ws] w fun e w' => e = .returned (.bool r) ∧ w = w' := by
  replace hr := hid hr
  go_enter Try.func53, Try.ntmps53
  go_wp2
  go_loop [8] (fun i => ∃ k : Nat, k ≤ ws.size ∧ i = .int .i64 k ∧ Hid (∀ j (h : j < ws.size), j < k → 48 ≤ (ws[j]'h).toNat ∧ ((ws[j]'h).toNat : Int) - 48 < d)) (fun i => ws.size - (intOf i).toNat)
  case atStart => exact ⟨0, Nat.zero_le _, rfl, fun j _ h => absurd h (by omega)⟩
  case round =>
    obtain ⟨k, hk, rfl, hall⟩ := hrel
    by_cases hlt : k < ws.size
    · have hstep : (48 ≤ (ws[k]'hlt).toNat ∧ ((ws[k]'hlt).toNat : Int) - 48 < d) → Hid (∀ j (h : j < ws.size), j < k + 1 → 48 ≤ (ws[j]'h).toNat ∧ ((ws[j]'h).toNat : Int) - 48 < d) := fun hc j hj hjk => by
        by_cases e : j = k
        · subst e; exact hc
        · exact hall.out j hj (by omega)
      have hfail : ¬ (48 ≤ (ws[k]'hlt).toNat ∧ ((ws[k]'hlt).toNat : Int) - 48 < d) → r = false := fun hc => by
        cases r
        · rfl
        · exact absurd ((hr.out.out.1 rfl).2 k hlt) hc
      have hbl := UInt8.toNat_lt (ws[k]'hlt)
      generalize hb : (ws[k]'hlt).toNat = b at *
      replace hstep := hid hstep
      by_cases h48 : 48 ≤ b
      · obtain ⟨x, rfl⟩ := Nat.exists_eq_add_of_le h48
        have e1 : 48 + (x : Int) - 48 = x := by omega
        by_cases hxd : (x : Int) < d
        · clear hfail
          go_wp2
          go_round
          case rel => exact ⟨k + 1, by omega, by go_num, hstep.out ⟨by omega, by omega⟩⟩
          case measure => simp [intOf]; omega
        · have hf := hfail (fun hc => hxd (by omega))
          subst hf
          have dx : decide ((x : Int) ≥ d) = true := decide_eq_true (by omega)
          clear hfail
          go_wp2
          go_ret
          exact ⟨rfl, rfl⟩
      · have hf := hfail (fun hc => h48 hc.1)
        subst hf
        have dx : decide ((b : Int) < 48) = true := decide_eq_true (by omega)
        clear hfail
        go_wp2
        go_ret
        exact ⟨rfl, rfl⟩
    · obtain rfl : k = ws.size := by omega
      have hrr : r = decide ((ws.size : Int) ≤ 40) := by
        have h1 := hr.out.out
        cases r
        · rw [eq_comm, decide_eq_false_iff_not]
          intro hle
          have := h1.2 ⟨by omega, fun j hj => hall.out j hj hj⟩
          cases this
        · have := (h1.1 rfl).1
          rw [eq_comm, decide_eq_true_iff]
          omega
      replace hrr := hid hrr
      go_wp2
      go_ret
      exact ⟨retB hrr.out.symm, rfl⟩

set_option maxHeartbeats 1000000 in
theorem isState_any (b : Nat) (w : World) (m : Mach) (hm : MB w 34 b m) (l s : Nat) (g : Good m l s) (q : Int) (r : Bool) (hr : r = decide (0 ≤ q ∧ q < s)) :
    Calls Try.prog 116 #[.pointer (some ⟨b, 0, none⟩), .int .i64 q] w fun e w' => e = .returned (.bool r) ∧ w = w' := by
  have cS := hm.cS
  rw [g.S] at cS
  have s16 := g.s16
  have s1 := g.s1
  have hin := hid (fun W => within_any q 0 ((s : Int) - 1) r (by rw [hr]; congr 1; apply propext; omega) W)
  clear hm g hr
  go_enter Try.func116, Try.ntmps116
  go_wp2_with (first
    | (go_at_call 62; (with_reducible refine (hin.out _).mono ?_); rintro e w1 ⟨rfl, rfl⟩))
  go_ret
  exact ⟨rfl, rfl⟩

theorem codeI_2 {m : Mach} {l s : Nat} {ws : ByteArray} {qs : List Int} (g : Good m l s) (hw : IsWd l ws) (hq : ¬ ∀ q ∈ qs, 0 ≤ q ∧ q < (s : Int)) : codeI m ws qs = 2 := by
  unfold codeI; rw [g.L, g.S, if_pos ⟨g.isM, hw⟩, if_neg hq]
theorem codeI_0 {m : Mach} {l s : Nat} {ws : ByteArray} {qs : List Int} (g : Good m l s) (hw : IsWd l ws) (hq : ∀ q ∈ qs, 0 ≤ q ∧ q < (s : Int)) : codeI m ws qs = 0 := by
  unfold codeI; rw [g.L, g.S, if_pos ⟨g.isM, hw⟩, if_pos hq]
theorem codeI_w {m : Mach} {l s : Nat} {ws : ByteArray} {qs : List Int} (g : Good m l s) (hw : ¬ IsWd l ws) : codeI m ws qs = 1 := by
  unfold codeI; rw [g.L, if_neg (fun h => hw h.2)]
theorem codeI_1 {m : Mach} {ws : ByteArray} {qs : List Int} (hm : ¬ IsM m) : codeI m ws qs = 1 := by
  unfold codeI; rw [if_neg (fun h => hm h.1)]

set_option maxHeartbeats 1000000 in
theorem codeOf1_any (b : Nat) (w : World) (m : Mach) (hm : MB w 34 b m) (l s : Nat) (g : Good m l s) (q : Int) (r : Bool) (hr : r = decide (0 ≤ q ∧ q < s)) :
    Calls Try.prog 115 #[.int .i64 q, .pointer (some ⟨b, 0, none⟩)] w fun e w' => e = .returned (.bool (!r)) ∧ w = w' := by
  have hin := hid (isState_any b w m hm l s g q r hr)
  clear hm g hr
  go_enter Try.func115, Try.ntmps115
  go_wp2_with (first
    | (go_at_call 116; (with_reducible refine (hin.out).mono ?_); rintro e w1 ⟨rfl, rfl⟩))
  go_ret
  exact ⟨rfl, rfl⟩

/-- What is found: a place that tells of something that is no state, or -1. -/
def Found (s : Nat) (qs : List Int) (r : Int) : Prop := -1 ≤ r ∧ r < 1000000 ∧ (0 ≤ r ↔ ¬ ∀ q ∈ qs, 0 ≤ q ∧ q < (s : Int))
set_option maxHeartbeats 1000000 in
set_option maxRecDepth 100000 in
theorem indexFunc_states (b : Nat) (w : World) (m : Mach) (hm : MB w 34 b m) (l s : Nat) (g : Good m l s) (base : Nat) (v : Value) (qs : List Int) (h : Own w base 2 v (ints qs)) (hl : qs.length < 1000000) :
    Calls Try.prog 151 #[v, .func (.func 115) #[] #[.pointer (some ⟨b, 0, none⟩)]] w fun e w' => ∃ r : Int, e = .returned (.int .i64 r) ∧ Found s qs r ∧ w = w' := by
  have hil := ints_length qs
  have hone := hid (fun q r hr => codeOf1_any b w m hm l s g q r hr)
  clear hm g
  by_cases hne : qs = []
  · subst hne
    obtain ⟨A1, c1, rfl, _, _⟩ := h.form
    rw [hil]
    clear h
    go_enter Try.func151, Try.ntmps151
    go_wp2
    go_loop [8] (fun i => i = .int .i64 0) (fun _ => 0)
    case atStart => rfl
    case round =>
      obtain rfl := hrel
      go_wp2
      go_ret
      exact ⟨_, rfl, ⟨by omega, by omega, fun h => absurd h (by omega), fun h => absurd (fun q hq => by simp at hq) h⟩, rfl⟩
  · have hne' : ints qs ≠ [] := fun e => hne (by rw [← List.length_eq_zero_iff, ← hil, e]; rfl)
    obtain ⟨g1, c1, rfl, _, hg1⟩ := h.blk hne'
    rw [hil] at h ⊢
    have hget := hid (fun (k : Nat) (x : Int) (hx : qs[k]? = some x) => (show (ints qs)[k]? = some (.int .i64 x) by simp [ints, hx]))
    replace h := hid h
    clear hne hne' hil
    generalize hn : qs.length = n at *
    go_enter Try.func151, Try.ntmps151
    go_wp2
    go_loop [8] (fun i => ∃ k : Nat, k ≤ n ∧ i = .int .i64 k ∧ Hid (∀ j x, j < k → qs[j]? = some x → 0 ≤ x ∧ x < (s : Int))) (fun i => n - (intOf i).toNat)
    case atStart => exact ⟨0, Nat.zero_le _, rfl, fun j x h => absurd h (by omega)⟩
    case round =>
      obtain ⟨k, hk, rfl, hall⟩ := hrel
      by_cases hlt : k < n
      · obtain ⟨x, hx⟩ : ∃ x, qs[k]? = some x := ⟨_, List.getElem?_eq_getElem (by omega)⟩
        have d1 := h.out.cellAt k _ (hget.out k x hx)
        by_cases hv : 0 ≤ x ∧ x < (s : Int)
        · have hc := hid (hone.out x true (decide_eq_true hv).symm)
          have hnext : Hid (∀ j x, j < k + 1 → qs[j]? = some x → 0 ≤ x ∧ x < (s : Int)) := fun j y hj hy => by
            by_cases e : j = k
            · subst e; rw [hx] at hy; injection hy with hy; subst hy; exact hv
            · exact hall.out j y (by omega) hy
          clear hx hv
          go_wp2_with (first
            | (go_at_call 115; (with_reducible refine (hc.out).mono ?_); rintro e w1 ⟨rfl, rfl⟩))
          go_round
          case rel => exact ⟨k + 1, by omega, by go_num, hnext⟩
          case measure => simp [intOf]; omega
        · have hc := hid (hone.out x false (decide_eq_false hv).symm)
          have hbad : Hid (¬ ∀ q ∈ qs, 0 ≤ q ∧ q < (s : Int)) := fun h => hv (h x (List.mem_of_getElem? hx))
          clear hx hv
          go_wp2_with (first
            | (go_at_call 115; (with_reducible refine (hc.out).mono ?_); rintro e w1 ⟨rfl, rfl⟩))
          go_ret
          exact ⟨_, rfl, ⟨by omega, by omega, fun _ => hbad.out, fun _ => by omega⟩, rfl⟩
      · obtain rfl : k = n := by omega
        have hok : Hid (∀ q ∈ qs, 0 ≤ q ∧ q < (s : Int)) := fun q hq => by
          obtain ⟨j, hj, e⟩ := List.getElem_of_mem hq
          exact hall.out j q (by omega) (by rw [← e]; exact List.getElem?_eq_getElem hj)
        go_wp2
        go_ret
        refine ⟨_, rfl, ⟨by omega, by omega, fun h => absurd h (by omega), fun h => ?_⟩, rfl⟩
        exact absurd hok.out h

set_option maxHeartbeats 1000000 in
theorem containsFunc_states (b : Nat) (w : World) (m : Mach) (hm : MB w 34 b m) (l s : Nat) (g : Good m l s) (base : Nat) (v : Value) (qs : List Int) (h : Own w base 2 v (ints qs)) (hl : qs.length < 1000000)
    (c : Bool) (hc : Tells c (∀ q ∈ qs, 0 ≤ q ∧ q < (s : Int))) :
    Calls Try.prog 114 #[v, .func (.func 115) #[] #[.pointer (some ⟨b, 0, none⟩)]] w fun e w' => e = .returned (.bool (!c)) ∧ w = w' := by
  have hi := hid (indexFunc_states b w m hm l s g base v qs h hl)
  clear hm g h hl
  replace hc := hid hc
  go_enter Try.func114, Try.ntmps114
  go_wp2_with (first
    | (go_at_call 151; (with_reducible refine (hi.out).mono ?_); rintro e w1 ⟨r, rfl, hr, rfl⟩; replace hr := hid hr))
  go_ret
  refine ⟨retB ?_, rfl⟩
  have h1 := hr.out.2.2
  have h2 := hc.out.out
  cases c
  · have : 0 ≤ r := h1.2 (fun h => by have := h2.2 h; cases this)
    simp; omega
  · have : ¬ 0 ≤ r := fun h => (h1.1 h) (h2.1 rfl)
    simp; omega

set_option maxHeartbeats 2000000 in
set_option maxRecDepth 100000 in
theorem codeOf_any (w : World) (m : Mach) (hk : m.Ok) (ws : ByteArray) (hws : ws.size < 1000000000000) (base : Nat) (v : Value) (qs : List Int) (h : Own w base 2 v (ints qs)) (hl : qs.length < 1000000) :
    Calls Try.prog 61 #[.agg (mcells m), .string ws, v] w fun e w' => e = .returned (.int .i64 (codeI m ws qs)) ∧ Below w.heap.size w w' := by
  have hM := hid (MB.new w m 34)
  have hO := hid (h.alloc (.cells (mcells m) 34))
  have hB := hid (below_alloc (Below.refl w.heap.size w) (Nat.le_refl _) (.cells (mcells m) 34))
  have hmf : ∀ (fn : Fn) (first cap : Array Value) (w : World), (Instr.makeFunc fn first cap).run Try.prog w = .ok (.func fn first cap) w := fun _ _ _ _ => rfl
  clear h
  by_cases hm : IsM m
  · obtain ⟨l, s, g⟩ := hm.good
    have hi := hid (show Tells true (IsM m) from ⟨fun _ => hm, fun _ => rfl⟩)
    have l2 := g.l2
    have l3 := g.l3
    have gL := hid g.L
    by_cases hw : IsWd l ws
    · have hwd := hid (fun W => isWord_any l (by omega) (by omega) ws hws true ⟨fun _ => hw, fun _ => rfl⟩ W)
      by_cases hq : ∀ q ∈ qs, 0 ≤ q ∧ q < (s : Int)
      · rw [codeI_0 g hw hq]
        have hcf := hid (fun W hM hO => containsFunc_states w.heap.size W m hM l s g base v qs hO hl true ⟨fun _ => hq, fun _ => rfl⟩)
        replace hk := hid hk; replace g := hid g; clear hm hw hq
        go_enter Try.func61, Try.ntmps61
        go_wp2_with (first
          | ((with_reducible refine gate (N := 8) rfl ?_); refine load_mach rfl _ rfl w.heap.size rfl m hM.out ?_)
          | (go_at_call 113; (with_reducible refine (IsMachine_any _ m hk.out true hi.out.out).mono ?_); rintro e w1 ⟨rfl, hb⟩; have hM2 := hid (hM.out.below hb hM.out.lt); have hO2 := hid (hO.out.below hb); have hB2 := hid (hB.out.trans (hb.mono hB.out.size)); have cL := hM2.out.cL; rw [gL.out] at cL; clear hb hM hB hO hi)
          | (go_at_call 53; (with_reducible refine (hwd.out _).mono ?_); rintro e w3 ⟨rfl, rfl⟩)
          | (go_at_call 114; (with_reducible refine (hcf.out _ hM2.out hO2.out).mono ?_); rintro e w4 ⟨rfl, rfl⟩))
        go_ret
        exact ⟨rfl, hB2.out⟩
      · rw [codeI_2 g hw hq]
        have hcf := hid (fun W hM hO => containsFunc_states w.heap.size W m hM l s g base v qs hO hl false ⟨fun h => (by cases h), fun h => absurd h hq⟩)
        replace hk := hid hk; replace g := hid g; clear hm hw hq
        go_enter Try.func61, Try.ntmps61
        go_wp2_with (first
          | ((with_reducible refine gate (N := 8) rfl ?_); refine load_mach rfl _ rfl w.heap.size rfl m hM.out ?_)
          | (go_at_call 113; (with_reducible refine (IsMachine_any _ m hk.out true hi.out.out).mono ?_); rintro e w1 ⟨rfl, hb⟩; have hM2 := hid (hM.out.below hb hM.out.lt); have hO2 := hid (hO.out.below hb); have hB2 := hid (hB.out.trans (hb.mono hB.out.size)); have cL := hM2.out.cL; rw [gL.out] at cL; clear hb hM hB hO hi)
          | (go_at_call 53; (with_reducible refine (hwd.out _).mono ?_); rintro e w3 ⟨rfl, rfl⟩)
          | (go_at_call 114; (with_reducible refine (hcf.out _ hM2.out hO2.out).mono ?_); rintro e w4 ⟨rfl, rfl⟩))
        go_ret
        exact ⟨rfl, hB2.out⟩
    · rw [codeI_w g hw]
      have hwd := hid (fun W => isWord_any l (by omega) (by omega) ws hws false ⟨fun h => (by cases h), fun h => absurd h hw⟩ W)
      replace hk := hid hk; replace g := hid g; clear hm hw
      go_enter Try.func61, Try.ntmps61
      go_wp2_with (first
        | ((with_reducible refine gate (N := 8) rfl ?_); refine load_mach rfl _ rfl w.heap.size rfl m hM.out ?_)
        | (go_at_call 113; (with_reducible refine (IsMachine_any _ m hk.out true hi.out.out).mono ?_); rintro e w1 ⟨rfl, hb⟩; have hM2 := hid (hM.out.below hb hM.out.lt); have hB2 := hid (hB.out.trans (hb.mono hB.out.size)); have cL := hM2.out.cL; rw [gL.out] at cL; clear hb hM hB hO hi)
        | (go_at_call 53; (with_reducible refine (hwd.out _).mono ?_); rintro e w3 ⟨rfl, rfl⟩))
      go_ret
      exact ⟨rfl, hB2.out⟩
  · rw [codeI_1 hm]
    have hi := hid (show Tells false (IsM m) from ⟨fun h => (by cases h), fun h => absurd h hm⟩)
    replace hk := hid hk; clear hm
    go_enter Try.func61, Try.ntmps61
    go_wp2_with (first
      | ((with_reducible refine gate (N := 8) rfl ?_); refine load_mach rfl _ rfl w.heap.size rfl m hM.out ?_)
      | (go_at_call 113; (with_reducible refine (IsMachine_any _ m hk.out false hi.out.out).mono ?_); rintro e w1 ⟨rfl, hb⟩; have hB2 := hid (hB.out.trans (hb.mono hB.out.size)); clear hb hM hB hO hi))
    go_ret
    exact ⟨rfl, hB2.out⟩
end Go.Proofs.Ythempofohidlnaa
