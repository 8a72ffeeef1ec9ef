/- What the proof of FnTop leans on, part 22 of 28. -/
import Derived.Test.YthmcdfjijkecfaaGreatZFnTopU
/- The program's ActOnWord and InverseMachine. -/
namespace Go.Proofs.YthmcdfjijkecfaaGreat
open Go.RowKit
set_option linter.unusedVariables false
set_option linter.unusedSimpArgs false
-- @LONG

theorem lets_len0 (ws : ByteArray) : (lets ws).length = ws.size := by unfold lets; rw [List.length_map, Array.length_toList]; rfl
theorem lets_wstr0 {u : List Nat} (hu : ∀ x ∈ u, x < 200) : lets (wstr u) = u := by
  apply List.ext_getElem (by rw [lets_len0, wstr_size])
  intro i h1 h2
  have hb := wstr_byte u i (by rw [wstr_size]; exact h2) hu
  have h1' : i < ((wstr u).data.toList.map fun b : UInt8 => b.toNat - 48).length := h1
  show ((wstr u).data.toList.map fun b : UInt8 => b.toNat - 48)[i]'h1' = u[i]
  rw [List.getElem_map, Array.getElem_toList]
  have e : ((wstr u).data[i]'(by rw [lets_len0] at h1; exact h1)).toNat = 48 + u.getD i 0 := by
    have : (wstr u)[i]'(by rw [wstr_size]; exact h2) = (wstr u).data[i]'(by rw [lets_len0] at h1; exact h1) := rfl
    rw [← this]; first | exact hb | (have := hb; omega)
  rw [e, List.getD_eq_getElem?_getD, List.getElem?_eq_getElem h2]
  simp
/-- What a state leads a word to, and the code. -/
noncomputable def aowAns (m : Mach) (q : Int) (ws : ByteArray) : ByteArray × Int := if codeI m ws [q] = 0 then (wstr (img m q.toNat (lets ws)), 0) else ({ data := #[] }, codeI m ws [q])
theorem aow_cases (m : Mach) (q : Int) (ws : ByteArray) : (codeI m ws [q] ≠ 0 ∧ aowAns m q ws = ({ data := #[] }, codeI m ws [q])) ∨ (∃ (l s q' : Nat) (u : List Nat), Good m l s ∧ q = q' ∧ q' < s ∧ ws = wstr u ∧ (∀ x ∈ u, x < l) ∧ u.length ≤ 40 ∧ codeI m ws [q] = 0 ∧ aowAns m q ws = (wstr (img m q' u), 0)) := by
  by_cases h : codeI m ws [q] = 0
  · refine .inr ?_
    by_cases hm : IsM m
    · obtain ⟨l, s, g⟩ := hm.good
      by_cases hw : IsWd l ws
      · by_cases hq : ∀ x ∈ [q], 0 ≤ x ∧ x < (s : Int)
        · have h1 := hq q (by simp)
          obtain ⟨q', rfl⟩ := Int.eq_ofNat_of_zero_le h1.1
          obtain ⟨e1, e2, e3⟩ := lets_wstr ws hw
          exact ⟨l, s, q', lets ws, g, rfl, by omega, e1, e2, by omega, h, by unfold aowAns; rw [if_pos h]; rfl⟩
        · rw [codeI_2 g hw hq] at h; cases h
      · rw [codeI_w g hw] at h; cases h
    · rw [codeI_1 hm] at h; cases h
  · exact .inl ⟨h, by unfold aowAns; rw [if_neg h]⟩
theorem aow_good {m : Mach} {l s q : Nat} {u : List Nat} (g : Good m l s) (hq : q < s) (hu : ∀ x ∈ u, x < l) (hl : u.length ≤ 40) : aowAns m (q : Int) (wstr u) = (wstr (img m q u), 0) := by
  have l3 := g.l3
  have hw : IsWd l (wstr u) := isWd_wstr (fun x hx => by have := hu x hx; omega) (by omega) hl
  have h0 : codeI m (wstr u) [(q : Int)] = 0 := codeI_0 g hw (fun x hx => by simp at hx; subst hx; omega)
  have e4 : lets (wstr u) = u := lets_wstr0 (fun x hx => by have := hu x hx; omega)
  unfold aowAns
  rw [if_pos h0, e4]; rfl

set_option maxHeartbeats 2000000 in
set_option maxRecDepth 100000 in
theorem implAow_any (w : World) (m : Mach) (hk : m.Ok) (q : Int) (ws : ByteArray) (hws : ws.size < 1000000000000) :
    Calls Tryz.prog 48 #[.agg (mcells m), .int .i64 q, .string ws] w fun e w' => e = .returned (.tuple #[.string (aowAns m q ws).1, .int .i64 (aowAns m q ws).2]) ∧ Below w.heap.size w w' := by
  have hS := hid ((St.start w).newMB m 27)
  have hcode := hid (fun W base v h => codeOf_any W m hk ws hws base v [q] h (by simp))
  have hown := hid (hS.out.newOwn [Value.int .i64 q] 2 (by simp))
  simp only [heap_alloc_size] at hown
  rcases aow_cases m q ws with ⟨h, hA⟩ | ⟨l, s, q, u, g, rfl, hq, rfl, hu, hl, h, hA⟩
  · rw [hA]
    have d0 : ((codeI m ws [q] : Int) != 0) = true := by simpa using h
    replace hk := hid hk
    clear hA h
    generalize codeI m ws [q] = c at *
    go_enter Tryz.func48, Tryz.ntmps48
    go_wp2_with (first
      | ((with_reducible refine gate (N := 11) rfl ?_); refine load_mach rfl _ rfl w.heap.size rfl m hS.out.m0 ?_)
      | (go_at_call 85; (with_reducible refine (hcode.out _ _ _ hown.out.o0).mono ?_); rintro e w1 ⟨rfl, hb⟩; replace hS := hid (hown.out.call hb).drop; clear hb hcode hown))
    go_ret2
    exact ⟨rfl, hS.out.bel⟩
  · rw [hA]
    rw [h] at hcode
    have hle := hid (fun W hW => lead_any w.heap.size W m hW l s g q hq u hu (by omega))
    clear h hA g
    replace hk := hid hk
    generalize wstr (img m q u) = r at *
    generalize sec m q u = sq at *
    generalize wstr u = ws at *
    go_enter Tryz.func48, Tryz.ntmps48
    go_wp2_with (first
      | ((with_reducible refine gate (N := 11) rfl ?_); refine load_mach rfl _ rfl w.heap.size rfl m hS.out.m0 ?_)
      | (go_at_call 85; (with_reducible refine (hcode.out _ _ _ hown.out.o0).mono ?_); rintro e w1 ⟨rfl, hb⟩; replace hS := hid (hown.out.call hb).drop; clear hb hcode hown)
      | (go_at_call 90; (with_reducible refine (hle.out _ hS.out.m0).mono ?_); rintro e w2 ⟨rfl, hb⟩; replace hS := hid (hS.out.call hb); clear hb))
    go_ret2
    exact ⟨rfl, hS.out.bel⟩

open Classical in
/-- The inverse machine and the code. -/
noncomputable def inmAns (m : Mach) : Mach × Int := if IsM m then (inv m m.L.toNat m.S.toNat, 0) else (⟨0, 0, fun _ => 0, fun _ => 0⟩, 1)
theorem inm_good {m : Mach} {l s : Nat} (g : Good m l s) : inmAns m = (inv m l s, 0) := by
  unfold inmAns; rw [if_pos g.isM, g.L, g.S]; rfl
set_option maxHeartbeats 2000000 in
set_option maxRecDepth 100000 in
theorem implInm_any (w : World) (m : Mach) (hk : m.Ok) :
    Calls Tryz.prog 14 #[.agg (mcells m)] w fun e w' => e = .returned (.tuple #[.agg (mcells (inmAns m).1), .int .i64 (inmAns m).2]) ∧ Below w.heap.size w w' := by
  have hz := zero_mach
  have hS := hid (((St.start w).newMB m 27).newMB ⟨0, 0, fun _ => 0, fun _ => 0⟩ 27)
  rw [heap_alloc_size] at hS
  by_cases hm : IsM m
  · obtain ⟨l, s, g⟩ := hm.good
    rw [inm_good g]
    have him := hid (fun W => IsMachine_any W m hk true (iff_of_true rfl hm))
    have hin := hid (fun W hW => inverse_any w.heap.size W m hW l s g hk)
    replace hk := hid hk
    clear hm g
    generalize inv m l s = fm at *
    generalize mcells ⟨0, 0, fun _ => 0, fun _ => 0⟩ = zs at *
    go_enter Tryz.func14, Tryz.ntmps14
    go_wp2_with (first
      | ((with_reducible refine gate (N := 4) rfl ?_); refine load_mach rfl _ rfl w.heap.size rfl m hS.out.m1 ?_)
      | (go_at_call 97; (with_reducible refine (him.out _).mono ?_); rintro e w1 ⟨rfl, hb⟩; replace hS := hid (hS.out.call hb); clear hb)
      | (go_at_call 98; (with_reducible refine (hin.out _ hS.out.m1).mono ?_); rintro e w1 ⟨rfl, hb⟩; replace hS := hid (hS.out.call hb); clear hb hin)
      | ((with_reducible refine gateOp (op := .store 27 (.tmp 2) (.tmp 8)) rfl ?_); refine store_mach rfl _ _ rfl (w.heap.size + 1) rfl fm rfl 27 _ hS.out.m0 ?_; intro W3 p2 ho hsz hbl; have pB := hid (hbl _ _ (Nat.le_succ _) hS.out.bel); replace p2 := hid p2; clear ho hsz hbl))
    exact ret_mach_i rfl rfl rfl p2.out rfl ⟨rfl, pB.out⟩
  · have hA : inmAns m = (⟨0, 0, fun _ => 0, fun _ => 0⟩, 1) := by unfold inmAns; rw [if_neg hm]
    rw [hA]
    have him := hid (fun W => IsMachine_any W m hk false (iff_of_false (by decide) hm))
    replace hk := hid hk
    clear hm hA
    generalize hzs : mcells ⟨0, 0, fun _ => 0, fun _ => 0⟩ = zs at *
    replace hzs := hid hzs
    go_enter Tryz.func14, Tryz.ntmps14
    go_wp2_with (first
      | ((with_reducible refine gate (N := 4) rfl ?_); refine load_mach rfl _ rfl w.heap.size rfl m hS.out.m1 ?_)
      | (go_at_call 97; (with_reducible refine (him.out _).mono ?_); rintro e w1 ⟨rfl, hb⟩; replace hS := hid (hS.out.call hb); clear hb)
      | ((with_reducible refine gate (N := 7) rfl ?_); refine build_zero rfl rfl ?_)
      | ((with_reducible refine gateOp (op := .store 27 (.tmp 2) (.tmp 7)) rfl ?_); refine store_mach rfl _ _ rfl (w.heap.size + 1) rfl ⟨0, 0, fun _ => 0, fun _ => 0⟩ rfl 27 _ hS.out.m0 ?_; intro W3 p2 ho hsz hbl; have pB := hid (hbl _ _ (Nat.le_succ _) hS.out.bel); replace p2 := hid p2; clear ho hsz hbl))
    exact ret_mach_i rfl rfl rfl p2.out rfl ⟨by rw [hzs.out], pB.out⟩
end Go.Proofs.YthmcdfjijkecfaaGreat
