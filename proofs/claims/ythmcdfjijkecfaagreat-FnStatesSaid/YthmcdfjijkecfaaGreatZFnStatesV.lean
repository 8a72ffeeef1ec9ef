/- What the proof of FnStates leans on, part 22 of 29. -/
import Derived.Test.YthmcdfjijkecfaaGreatZFnStatesU
/- The program's SectionAt and WordOfNumber. -/
namespace Go.Proofs.YthmcdfjijkecfaaGreat
open Go.RowKit
set_option linter.unusedVariables false
set_option linter.unusedSimpArgs false
-- @LONG

/-- The state behind a word, and the code. -/
noncomputable def seaAns (m : Mach) (q : Int) (ws : ByteArray) : Int × Int := if codeI m ws [q] = 0 then (((sec m q.toNat (lets ws) : Nat) : Int), 0) else (0, codeI m ws [q])
theorem sea_cases (m : Mach) (q : Int) (ws : ByteArray) : (codeI m ws [q] ≠ 0 ∧ seaAns m q ws = (0, codeI m ws [q])) ∨ (∃ (l s q' : Nat) (u : List Nat), Good m l s ∧ q = q' ∧ q' < s ∧ ws = wstr u ∧ (∀ x ∈ u, x < l) ∧ u.length ≤ 40 ∧ codeI m ws [q] = 0 ∧ seaAns m q ws = (((sec m q' u : Nat) : Int), 0)) := by
  rcases aow_cases m q ws with ⟨h, _⟩ | ⟨l, s, q', u, g, rfl, hq, rfl, hu, hl, h, _⟩
  · exact .inl ⟨h, by unfold seaAns; rw [if_neg h]⟩
  · exact .inr ⟨l, s, q', u, g, rfl, hq, rfl, hu, hl, h, by unfold seaAns; rw [if_pos h, lets_wstr0 (fun x hx => by have := hu x hx; have := g.l3; omega)]; rfl⟩
set_option maxHeartbeats 2000000 in
set_option maxRecDepth 100000 in
theorem implSeA_any (w : World) (m : Mach) (hk : m.Ok) (q : Int) (ws : ByteArray) (hws : ws.size < 1000000000000) :
    Calls Tryz.prog 49 #[.agg (mcells m), .int .i64 q, .string ws] w fun e w' => e = .returned (.tuple #[.int .i64 (seaAns m q ws).1, .int .i64 (seaAns m q ws).2]) ∧ Below w.heap.size w w' := by
  have hS := hid ((St.start w).newMB m 27)
  have hcode := hid (fun W base v h => codeOf_any W m hk ws hws base v [q] h (by simp))
  have hown := hid (hS.out.newOwn [Value.int .i64 q] 2 (by simp))
  simp only [heap_alloc_size] at hown
  rcases sea_cases m q ws with ⟨h, hA⟩ | ⟨l, s, q, u, g, rfl, hq, rfl, hu, hl, h, hA⟩
  · rw [hA]
    have d0 : ((codeI m ws [q] : Int) != 0) = true := by simpa using h
    replace hk := hid hk
    clear hA h
    generalize codeI m ws [q] = c at *
    go_enter Tryz.func49, Tryz.ntmps49
    go_wp2_with (first
      | ((with_reducible refine gate (N := 11) rfl ?_); refine load_mach rfl _ rfl w.heap.size rfl m hS.out.m0 ?_)
      | (go_at_call 85; (with_reducible refine (hcode.out _ _ _ hown.out.o0).mono ?_); rintro e w1 ⟨rfl, hb⟩; replace hS := hid (hown.out.call hb).drop; clear hb hcode hown))
    go_ret2
    exact ⟨rfl, hS.out.bel⟩
  · rw [hA]
    rw [h] at hcode
    have hle := hid (fun W hW => lead_any w.heap.size W m hW l s g q hq u hu (by omega))
    clear h hA g
    replace hk := hid hk
    generalize wstr (img m q u) = r at *
    generalize sec m q u = sq at *
    generalize wstr u = ws at *
    go_enter Tryz.func49, Tryz.ntmps49
    go_wp2_with (first
      | ((with_reducible refine gate (N := 11) rfl ?_); refine load_mach rfl _ rfl w.heap.size rfl m hS.out.m0 ?_)
      | (go_at_call 85; (with_reducible refine (hcode.out _ _ _ hown.out.o0).mono ?_); rintro e w1 ⟨rfl, hb⟩; replace hS := hid (hown.out.call hb).drop; clear hb hcode hown)
      | (go_at_call 90; (with_reducible refine (hle.out _ hS.out.m0).mono ?_); rintro e w2 ⟨rfl, hb⟩; replace hS := hid (hS.out.call hb); clear hb))
    go_ret2
    exact ⟨rfl, hS.out.bel⟩
set_option maxHeartbeats 2000000 in
set_option maxRecDepth 100000 in
/-- A number of a level is a word. -/
theorem implWon_any (w : World) (d n k : Nat) (hd : d = 2 ∨ d = 3) (hn : n ≤ 5) (hk : k < pw d n) :
    Calls Tryz.prog 64 #[.int .i64 d, .int .i64 n, .int .i64 k] w fun e w' => e = .returned (.tuple #[.string (wstr (wrd d n k)), .int .i64 0]) ∧ Below w.heap.size w w' := by
  have h5 : pw d n ≤ 243 := by
    have h1 := pw_le d (by omega) (n := n) (k := 5) (by omega)
    have h3 : pw d 5 ≤ 243 := by rcases hd with rfl | rfl <;> decide
    omega
  have hal := hid (fun W => areLetters_any (d : Int) true (decide_eq_true (by omega)).symm W)
  have hi1 := hid (fun W => within_any (n : Int) 0 5 true (decide_eq_true (by omega)).symm W)
  have hpw := hid (fun W => power_any d n (by omega) (by omega) (by omega) W)
  have hi2 := hid (fun W => within_any (k : Int) 0 ((pw d n : Nat) - 1) true (decide_eq_true (by omega)).symm W)
  have hwo := hid (fun W => wordOf_any d n k (by omega) (by omega) (by omega) (by omega) W)
  generalize pw d n = N at *
  have ew : wrap64 ((N : Int) - 1) = (N : Int) - 1 := w64 (by omega) (by omega)
  generalize wstr (wrd d n k) = ws at *
  go_enter Tryz.func64, Tryz.ntmps64
  go_wp2_with (first
    | (go_at_call 170; (with_reducible refine (hal.out _).mono ?_); rintro e w1 ⟨rfl, rfl⟩)
    | (go_at_call 86; (first | (with_reducible refine (hi1.out _).mono ?_) | (with_reducible refine (hi2.out _).mono ?_)); rintro e w1 ⟨rfl, rfl⟩)
    | (go_at_call 171; (with_reducible refine (hpw.out _).mono ?_); rintro e w1 ⟨rfl, rfl⟩)
    | (go_at_call 127; (with_reducible refine (hwo.out _).mono ?_); rintro e w2 ⟨rfl, hb⟩))
  go_ret2
  exact ⟨rfl, hb⟩
end Go.Proofs.YthmcdfjijkecfaaGreat
