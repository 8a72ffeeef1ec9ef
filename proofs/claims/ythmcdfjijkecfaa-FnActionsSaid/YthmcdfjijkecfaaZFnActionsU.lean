/- What the proof of FnActions leans on, part 21 of 23. -/
import Derived.Test.YthmcdfjijkecfaaZFnActionsT
/- OrbitOfWord: the program. -/
namespace Go.Proofs.Ythmcdfjijkecfaa
open Go.RowKit
set_option linter.unusedVariables false
set_option linter.unusedSimpArgs false
-- @LONG

set_option maxHeartbeats 4000000 in
set_option maxRecDepth 100000 in
theorem implOrw_any (w : World) (m : Mach) (hk : m.Ok) (q : Int) (ws : ByteArray) (hws : ws.size < 1000000000000) :
    Calls Try.prog 31 #[.agg (mcells m), .int .i64 q, .string ws] w fun e w' => ∃ v, e = .returned (.tuple #[v, .int .i64 (orbAns m q ws).2]) ∧ Own w' w.heap.size 9 v (strs (orbAns m q ws).1) ∧ Below w.heap.size w w' := by
  have hS := hid ((St.start w).newMB m 27)
  have hcode := hid (fun W base v h => codeOf_any W m hk ws hws base v [q] h (by simp))
  have hown := hid (hS.out.newOwn [Value.int .i64 q] 2 (by simp))
  simp only [heap_alloc_size] at hown
  rcases orb_cases m q ws with ⟨h, hA⟩ | ⟨h, h5, hA⟩ | ⟨l, s, q, u, g, rfl, hq, rfl, hu, h5, h, hA⟩
  · rw [hA]
    have d0 : ((codeI m ws [q] : Int) != 0) = true := by simpa using h
    replace hk := hid hk
    clear hA h
    generalize codeI m ws [q] = c at *
    go_enter Try.func31, Try.ntmps31
    go_wp2_with (first
      | ((with_reducible refine gate (N := 12) rfl ?_); refine load_mach rfl _ rfl w.heap.size rfl m hS.out.m0 ?_)
      | (go_at_call 113; (with_reducible refine (hcode.out _ _ _ hown.out.o0).mono ?_); rintro e w1 ⟨rfl, hb⟩; replace hS := hid (hown.out.call hb).drop; clear hb hcode hown))
    go_ret2
    exact ⟨_, rfl, Own.nil _ _ _, hS.out.bel⟩
  · rw [hA]
    rw [h] at hcode
    have d5 : decide ((5 : Int) < (ws.size : Int)) = true := decide_eq_true (by omega)
    replace hk := hid hk
    clear hA h h5
    go_enter Try.func31, Try.ntmps31
    go_wp2_with (first
      | ((with_reducible refine gate (N := 12) rfl ?_); refine load_mach rfl _ rfl w.heap.size rfl m hS.out.m0 ?_)
      | (go_at_call 113; (with_reducible refine (hcode.out _ _ _ hown.out.o0).mono ?_); rintro e w1 ⟨rfl, hb⟩; replace hS := hid (hown.out.call hb).drop; clear hb hcode hown))
    go_ret2
    exact ⟨_, rfl, Own.nil _ _ _, hS.out.bel⟩
  · rw [hA]
    rw [h] at hcode
    have hsz := wstr_size u
    have d5 : decide ((5 : Int) < ((wstr u).size : Int)) = false := decide_eq_false (by omega)
    clear hsz
    have hle := hid (fun k W hW => (by have h := lead_any w.heap.size W m hW l s g q hq (orw m l s q u k) (orw_lt g hq hu k) (by rw [orw_length]; omega); rw [← orw_succ] at h; exact h : Calls Try.prog 114 #[.pointer (some ⟨w.heap.size, 0, none⟩), .int .i64 q, .string (wstr (orw m l s q u k))] W fun e w' => e = .returned (.tuple #[.string (wstr (orw m l s q u (k + 1))), .int .i64 (sec m q (orw m l s q u k) : Nat)]) ∧ Below W.heap.size W w'))
    have hpos := orp_pos (m := m) (l := l) (s := s) (q := q) (u := u)
    have hP := orp_le g hq hu h5
    have hne := hid (fun k h1 h2 => orw_ne (k := k) g hq hu h1 h2)
    have heq := hid (orw_eq g hq hu)
    have hln := hid (fun k => (by rw [strs_length, orbL_length] : (strs (orbL m l s q u k)).length = k))
    have hsn := hid (fun k => (by rw [orbL_snoc, strs_snoc] : strs (orbL m l s q u (k + 1)) = strs (orbL m l s q u k) ++ [.string (wstr (orw m l s q u k))]))
    have hget := hid (fun k j h => orbL_get (m := m) (l := l) (s := s) (q := q) (u := u) k j h)
    have h0 : wstr (orw m l s q u 0) = wstr u := rfl
    clear h hA h5 hu
    replace g := hid g
    replace hk := hid hk
    generalize orp m l s q u = P at *
    obtain ⟨G, hG⟩ : ∃ G : Nat → ByteArray, G = fun k => wstr (orw m l s q u k) := ⟨_, rfl⟩
    have hGe := hid (fun k => (show wstr (orw m l s q u k) = G k by rw [hG]))
    obtain ⟨T, hT⟩ : ∃ T : Nat → Nat, T = fun k => sec m q (orw m l s q u k) := ⟨_, rfl⟩
    have hTe := hid (fun k => (show sec m q (orw m l s q u k) = T k by rw [hT]))
    obtain ⟨O, hO⟩ : ∃ O : Nat → List Value, O = fun k => strs (orbL m l s q u k) := ⟨_, rfl⟩
    have hOe := hid (fun k => (show strs (orbL m l s q u k) = O k by rw [hO]))
    simp only [hGe.out, hTe.out, hOe.out] at hle hne heq hln hsn hget h0 ⊢
    clear hG hGe hT hTe hO hOe
    generalize wstr u = ws at *
    subst h0
    have hO0 := hid (hsn.out 0)
    have hOz := hid (hln.out 0)
    have hO1 := hid (show O 1 = [.string (G 0)] from by have h1 := hO0.out; rw [List.length_eq_zero_iff.1 hOz.out] at h1; exact h1)
    clear hO0 hOz
    go_enter Try.func31, Try.ntmps31
    go_upto_region 6 with (first
      | ((with_reducible refine gate (N := 12) rfl ?_); refine load_mach rfl _ rfl w.heap.size rfl m hS.out.m0 ?_)
      | (go_at_call 113; (with_reducible refine (hcode.out _ _ _ hown.out.o0).mono ?_); rintro e w1 ⟨rfl, hb⟩; replace hS := hid (hown.out.call hb).drop; clear hb hcode hown))
    replace hS := hid (hS.out.newOwn [Value.string (G 0)] 9 (by simp))
    go_wp2
    go_loopw [9, 10, 11] (fun o _ _ wr => ∃ (k g1 cap : Nat), k < P ∧ o = .slice (some ⟨g1, 0, none⟩) (k + 1) cap ∧ St w.heap.size w [Asn.own w.heap.size 9 o (O (k + 1)), Asn.mb 27 w.heap.size m] wr) (fun o _ _ _ => P - (match o with | .slice _ n _ => n | _ => 0))
    case atStart => exact ⟨0, _, _, hpos, rfl, by show St _ _ [Asn.own _ _ _ (O 1), _] _; rw [hO1.out]; exact hS.out⟩
    case round =>
      obtain ⟨k, g1, cap, hkP, rfl, rS⟩ := hrel
      clear hS
      have ck := rS.o0.cellAt k _ (hget.out (k + 1) k (by omega))
      have k0 : (0 : Int) ≤ (k : Int) := Int.natCast_nonneg _
      have k1 : (k : Int) < ((k + 1 : Nat) : Int) := by omega
      have ek : IntKind.i64.wrap (((k + 1 : Nat) : Int) - 1) = (k : Int) := by rw [show ((k + 1 : Nat) : Int) - 1 = (k : Int) by omega]; exact IntWalk.i64_in _ (by omega)
      have hlk := hid (hle.out k)
      have hlen := hid (hln.out (k + 1))
      have hsk := hid (hsn.out (k + 1))
      replace rS := hid rS
      by_cases hlt : k + 1 < P
      · have dn := hne.out (k + 1) (by omega) hlt
        go_wp2_with (first
          | (go_at_call 114; (with_reducible refine (hlk.out _ rS.out.m1).mono ?_); rintro e w2 ⟨rfl, hb⟩; replace rS := hid (rS.out.call hb); clear hb ck)
          | ((with_reducible refine gate (N := 43) rfl ?_); refine St.app 49 9 (.string { data := #[] }) 16 Try.underlying49 info_str rfl (by omega) rfl _ _ rfl _ _ rfl rS.out _ rfl rfl (k + 1) hlen.out (by omega) ?_; intro gn cn w5 rS'; replace rS := hid rS'; clear rS'))
        go_roundw
        case rel => exact ⟨k + 1, _, _, hlt, rfl, by rw [hsk.out]; exact rS.out⟩
        case measure => dsimp only; omega
      · obtain rfl : k + 1 = P := by omega
        have dn := heq.out
        go_wp2_with (first
          | (go_at_call 114; (with_reducible refine (hlk.out _ rS.out.m1).mono ?_); rintro e w2 ⟨rfl, hb⟩; replace rS := hid (rS.out.call hb); clear hb ck))
        go_ret2
        exact ⟨_, rfl, rS.out.o0, rS.out.bel⟩
end Go.Proofs.Ythmcdfjijkecfaa

/- The reference's ActOnWord and SectionAt. -/
namespace Go.Proofs.Ythmcdfjijkecfaa
open Go.RowKit
set_option linter.unusedVariables false
set_option linter.unusedSimpArgs false
-- @LONG

set_option maxHeartbeats 2000000 in
set_option maxRecDepth 100000 in
theorem l01Code_any (w : World) (m : Mach) (hk : m.Ok) (q : Int) (ws : ByteArray) (hws : ws.size < 1000000000000) :
    Calls Try.prog 120 #[.agg (mcells m), .int .i64 q, .string ws] w fun e w' => e = .returned (.int .i64 (codeI m ws [q])) ∧ Below w.heap.size w w' := by
  have hS := hid ((St.start w).newMB m 27)
  by_cases hm : IsM m
  · obtain ⟨l, s, g⟩ := hm.good
    have s1 := g.s1; have s16 := g.s16
    have his := hid (fun W => l01Is_any W m hk true (iff_of_true rfl hm))
    have gS := hid g.S
    by_cases hw : IsWd l ws
    · have hiw := hid (fun W => l01Word_any W m l s g ws hws true (iff_of_true rfl hw))
      have ew : wrap64 ((s : Int) - 1) = (s : Int) - 1 := w64 (by omega) (by omega)
      by_cases hq : 0 ≤ q ∧ q < (s : Int)
      · rw [codeI_0 g hw (fun x hx => by simp at hx; subst hx; exact hq)]
        have hin := hid (fun W => l01In_any q 0 ((s : Int) - 1) true (decide_eq_true (by omega)).symm W)
        clear hm g hw hq
        replace hk := hid hk
        go_enter Try.func120, Try.ntmps120
        go_upto_region 3 with (first
          | ((with_reducible refine gate (N := 8) rfl ?_); refine load_mach rfl _ rfl w.heap.size rfl m hS.out.m0 ?_)
          | ((with_reducible refine gate (N := 12) rfl ?_); refine load_mach_g (by rfl) _ rfl w.heap.size rfl m hS.out.m0 ?_)
          | (go_at_call 106; (with_reducible refine (his.out _).mono ?_); rintro e w1 ⟨rfl, hb⟩; replace hS := hid (hS.out.call hb); clear hb)
          | (go_at_call 221; (with_reducible refine (hiw.out _).mono ?_); rintro e w2 ⟨rfl, hb⟩; replace hS := hid (hS.out.call hb); clear hb))
        have cS := hS.out.m0.cS
        rw [gS.out] at cS
        go_wp2_with (
          (go_at_call 117; (with_reducible refine (hin.out _).mono ?_); rintro e w1 ⟨rfl, rfl⟩))
        go_ret
        exact ⟨rfl, hS.out.bel⟩
      · rw [codeI_2 g hw (fun h => hq (h q (by simp)))]
        have hin := hid (fun W => l01In_any q 0 ((s : Int) - 1) false (decide_eq_false (by omega)).symm W)
        clear hm g hw hq
        replace hk := hid hk
        go_enter Try.func120, Try.ntmps120
        go_upto_region 3 with (first
          | ((with_reducible refine gate (N := 8) rfl ?_); refine load_mach rfl _ rfl w.heap.size rfl m hS.out.m0 ?_)
          | ((with_reducible refine gate (N := 12) rfl ?_); refine load_mach_g (by rfl) _ rfl w.heap.size rfl m hS.out.m0 ?_)
          | (go_at_call 106; (with_reducible refine (his.out _).mono ?_); rintro e w1 ⟨rfl, hb⟩; replace hS := hid (hS.out.call hb); clear hb)
          | (go_at_call 221; (with_reducible refine (hiw.out _).mono ?_); rintro e w2 ⟨rfl, hb⟩; replace hS := hid (hS.out.call hb); clear hb))
        have cS := hS.out.m0.cS
        rw [gS.out] at cS
        go_wp2_with (
          (go_at_call 117; (with_reducible refine (hin.out _).mono ?_); rintro e w1 ⟨rfl, rfl⟩))
        go_ret
        exact ⟨rfl, hS.out.bel⟩
    · rw [codeI_w g hw]
      have hiw := hid (fun W => l01Word_any W m l s g ws hws false (iff_of_false (by decide) hw))
      clear hm g hw
      replace hk := hid hk
      go_enter Try.func120, Try.ntmps120
      go_wp2_with (first
        | ((with_reducible refine gate (N := 8) rfl ?_); refine load_mach rfl _ rfl w.heap.size rfl m hS.out.m0 ?_)
        | ((with_reducible refine gate (N := 12) rfl ?_); refine load_mach_g (by rfl) _ rfl w.heap.size rfl m hS.out.m0 ?_)
        | (go_at_call 106; (with_reducible refine (his.out _).mono ?_); rintro e w1 ⟨rfl, hb⟩; replace hS := hid (hS.out.call hb); clear hb)
        | (go_at_call 221; (with_reducible refine (hiw.out _).mono ?_); rintro e w2 ⟨rfl, hb⟩; replace hS := hid (hS.out.call hb); clear hb))
      go_ret
      exact ⟨rfl, hS.out.bel⟩
  · rw [codeI_1 hm]
    have his := hid (fun W => l01Is_any W m hk false (iff_of_false (by decide) hm))
    clear hm
    replace hk := hid hk
    go_enter Try.func120, Try.ntmps120
    go_wp2_with (first
      | ((with_reducible refine gate (N := 8) rfl ?_); refine load_mach rfl _ rfl w.heap.size rfl m hS.out.m0 ?_)
      | (go_at_call 106; (with_reducible refine (his.out _).mono ?_); rintro e w1 ⟨rfl, hb⟩; replace hS := hid (hS.out.call hb); clear hb))
    go_ret
    exact ⟨rfl, hS.out.bel⟩
set_option maxHeartbeats 2000000 in
set_option maxRecDepth 100000 in
theorem specAow_any (w : World) (m : Mach) (hk : m.Ok) (q : Int) (ws : ByteArray) (hws : ws.size < 1000000000000) :
    Calls Try.prog 22 #[.agg (mcells m), .int .i64 q, .string ws] w fun e w' => e = .returned (.tuple #[.string (aowAns m q ws).1, .int .i64 (aowAns m q ws).2]) ∧ Below w.heap.size w w' := by
  have hS := hid ((St.start w).newMB m 27)
  have hcode := hid (fun W => l01Code_any W m hk q ws hws)
  rcases aow_cases m q ws with ⟨h, hA⟩ | ⟨l, s, q, u, g, rfl, hq, rfl, hu, hl, h, hA⟩
  · rw [hA]
    have d0 : ((codeI m ws [q] : Int) != 0) = true := by simpa using h
    replace hk := hid hk
    clear hA h
    generalize codeI m ws [q] = c at *
    go_enter Try.func22, Try.ntmps22
    go_wp2_with (first
      | ((with_reducible refine gate (N := 11) rfl ?_); refine load_mach rfl _ rfl w.heap.size rfl m hS.out.m0 ?_)
      | (go_at_call 120; (with_reducible refine (hcode.out _).mono ?_); rintro e w1 ⟨rfl, hb⟩; replace hS := hid (hS.out.call hb); clear hb hcode))
    go_ret2
    exact ⟨rfl, hS.out.bel⟩
  · rw [hA]
    rw [h] at hcode
    have hle := hid (fun W => l01Act_any W m l s g q hq u hu (by omega))
    clear h hA g
    replace hk := hid hk
    generalize wstr (img m q u) = r at *
    generalize sec m q u = sq at *
    generalize wstr u = ws at *
    go_enter Try.func22, Try.ntmps22
    go_wp2_with (first
      | ((with_reducible refine gate (N := 11) rfl ?_); refine load_mach rfl _ rfl w.heap.size rfl m hS.out.m0 ?_)
      | (go_at_call 120; (with_reducible refine (hcode.out _).mono ?_); rintro e w1 ⟨rfl, hb⟩; replace hS := hid (hS.out.call hb); clear hb hcode)
      | ((with_reducible refine gate (N := 19) rfl ?_); refine load_mach rfl _ rfl w.heap.size rfl m hS.out.m0 ?_)
      | (go_at_call 121; (with_reducible refine (hle.out _).mono ?_); rintro e w2 ⟨rfl, hb⟩; replace hS := hid (hS.out.call hb); clear hb))
    go_ret2
    exact ⟨rfl, hS.out.bel⟩
set_option maxHeartbeats 2000000 in
set_option maxRecDepth 100000 in
theorem specSeA_any (w : World) (m : Mach) (hk : m.Ok) (q : Int) (ws : ByteArray) (hws : ws.size < 1000000000000) :
    Calls Try.prog 24 #[.agg (mcells m), .int .i64 q, .string ws] w fun e w' => e = .returned (.tuple #[.int .i64 (seaAns m q ws).1, .int .i64 (seaAns m q ws).2]) ∧ Below w.heap.size w w' := by
  have hS := hid ((St.start w).newMB m 27)
  have hcode := hid (fun W => l01Code_any W m hk q ws hws)
  rcases sea_cases m q ws with ⟨h, hA⟩ | ⟨l, s, q, u, g, rfl, hq, rfl, hu, hl, h, hA⟩
  · rw [hA]
    have d0 : ((codeI m ws [q] : Int) != 0) = true := by simpa using h
    replace hk := hid hk
    clear hA h
    generalize codeI m ws [q] = c at *
    go_enter Try.func24, Try.ntmps24
    go_wp2_with (first
      | ((with_reducible refine gate (N := 11) rfl ?_); refine load_mach rfl _ rfl w.heap.size rfl m hS.out.m0 ?_)
      | (go_at_call 120; (with_reducible refine (hcode.out _).mono ?_); rintro e w1 ⟨rfl, hb⟩; replace hS := hid (hS.out.call hb); clear hb hcode))
    go_ret2
    exact ⟨rfl, hS.out.bel⟩
  · rw [hA]
    rw [h] at hcode
    have hle := hid (fun W => l01Act_any W m l s g q hq u hu (by omega))
    clear h hA g
    replace hk := hid hk
    generalize wstr (img m q u) = r at *
    generalize sec m q u = sq at *
    generalize wstr u = ws at *
    go_enter Try.func24, Try.ntmps24
    go_wp2_with (first
      | ((with_reducible refine gate (N := 11) rfl ?_); refine load_mach rfl _ rfl w.heap.size rfl m hS.out.m0 ?_)
      | (go_at_call 120; (with_reducible refine (hcode.out _).mono ?_); rintro e w1 ⟨rfl, hb⟩; replace hS := hid (hS.out.call hb); clear hb hcode)
      | ((with_reducible refine gate (N := 19) rfl ?_); refine load_mach rfl _ rfl w.heap.size rfl m hS.out.m0 ?_)
      | (go_at_call 121; (with_reducible refine (hle.out _).mono ?_); rintro e w2 ⟨rfl, hb⟩; replace hS := hid (hS.out.call hb); clear hb))
    go_ret2
    exact ⟨rfl, hS.out.bel⟩
end Go.Proofs.Ythmcdfjijkecfaa

/- OrbitOfWord: the reference. -/
namespace Go.Proofs.Ythmcdfjijkecfaa
open Go.RowKit
set_option linter.unusedVariables false
set_option linter.unusedSimpArgs false
-- @LONG

set_option maxHeartbeats 4000000 in
set_option maxRecDepth 100000 in
theorem specOrw_any (w : World) (m : Mach) (hk : m.Ok) (q : Int) (ws : ByteArray) (hws : ws.size < 1000000000000) :
    Calls Try.prog 32 #[.agg (mcells m), .int .i64 q, .string ws] w fun e w' => ∃ v, e = .returned (.tuple #[v, .int .i64 (orbAns m q ws).2]) ∧ Own w' w.heap.size 9 v (strs (orbAns m q ws).1) ∧ Below w.heap.size w w' := by
  have hS := hid ((St.start w).newMB m 27)
  have hcode := hid (fun W => l01Code_any W m hk q ws hws)
  rcases orb_cases m q ws with ⟨h, hA⟩ | ⟨h, h5, hA⟩ | ⟨l, s, q, u, g, rfl, hq, rfl, hu, h5, h, hA⟩
  · rw [hA]
    have d0 : ((codeI m ws [q] : Int) != 0) = true := by simpa using h
    replace hk := hid hk
    clear hA h
    generalize codeI m ws [q] = c at *
    go_enter Try.func32, Try.ntmps32
    go_wp2_with (first
      | ((with_reducible refine gate (N := 13) rfl ?_); refine load_mach rfl _ rfl w.heap.size rfl m hS.out.m0 ?_)
      | (go_at_call 120; (with_reducible refine (hcode.out _).mono ?_); rintro e w1 ⟨rfl, hb⟩; replace hS := hid (hS.out.call hb); clear hb hcode))
    go_ret2
    exact ⟨_, rfl, Own.nil _ _ _, hS.out.bel⟩
  · rw [hA]
    rw [h] at hcode
    have d5 : decide ((5 : Int) < (ws.size : Int)) = true := decide_eq_true (by omega)
    replace hk := hid hk
    clear hA h h5
    go_enter Try.func32, Try.ntmps32
    go_wp2_with (first
      | ((with_reducible refine gate (N := 13) rfl ?_); refine load_mach rfl _ rfl w.heap.size rfl m hS.out.m0 ?_)
      | (go_at_call 120; (with_reducible refine (hcode.out _).mono ?_); rintro e w1 ⟨rfl, hb⟩; replace hS := hid (hS.out.call hb); clear hb hcode))
    go_ret2
    exact ⟨_, rfl, Own.nil _ _ _, hS.out.bel⟩
  · rw [hA]
    rw [h] at hcode
    have hsz := wstr_size u
    have d5 : decide ((5 : Int) < ((wstr u).size : Int)) = false := decide_eq_false (by omega)
    clear hsz
    have hle := hid (fun k W => (by have h := l01Act_any W m l s g q hq (orw m l s q u k) (orw_lt g hq hu k) (by rw [orw_length]; omega); rw [← orw_succ] at h; exact h : Calls Try.prog 121 #[.agg (mcells m), .int .i64 q, .string (wstr (orw m l s q u k))] W fun e w' => e = .returned (.tuple #[.string (wstr (orw m l s q u (k + 1))), .int .i64 (sec m q (orw m l s q u k) : Nat)]) ∧ Below W.heap.size W w'))
    have hpos := orp_pos (m := m) (l := l) (s := s) (q := q) (u := u)
    have hP := orp_le g hq hu h5
    have hne := hid (fun k h1 h2 => orw_ne (k := k) g hq hu h1 h2)
    have heq := hid (orw_eq g hq hu)
    have hln := hid (fun k => (by rw [strs_length, orbL_length] : (strs (orbL m l s q u k)).length = k))
    have hsn := hid (fun k => (by rw [orbL_snoc, strs_snoc] : strs (orbL m l s q u (k + 1)) = strs (orbL m l s q u k) ++ [.string (wstr (orw m l s q u k))]))
    have h0 : wstr (orw m l s q u 0) = wstr u := rfl
    clear h hA h5 hu
    replace g := hid g
    replace hk := hid hk
    generalize orp m l s q u = P at *
    obtain ⟨G, hG⟩ : ∃ G : Nat → ByteArray, G = fun k => wstr (orw m l s q u k) := ⟨_, rfl⟩
    have hGe := hid (fun k => (show wstr (orw m l s q u k) = G k by rw [hG]))
    obtain ⟨T, hT⟩ : ∃ T : Nat → Nat, T = fun k => sec m q (orw m l s q u k) := ⟨_, rfl⟩
    have hTe := hid (fun k => (show sec m q (orw m l s q u k) = T k by rw [hT]))
    obtain ⟨O, hO⟩ : ∃ O : Nat → List Value, O = fun k => strs (orbL m l s q u k) := ⟨_, rfl⟩
    have hOe := hid (fun k => (show strs (orbL m l s q u k) = O k by rw [hO]))
    simp only [hGe.out, hTe.out, hOe.out] at hle hne heq hln hsn h0 ⊢
    clear hG hGe hT hTe hO hOe
    generalize wstr u = ws at *
    subst h0
    have hO0 := hid (show O 0 = [] from List.length_eq_zero_iff.1 (hln.out 0))
    go_enter Try.func32, Try.ntmps32
    go_upto_region 6 with (first
      | ((with_reducible refine gate (N := 13) rfl ?_); refine load_mach rfl _ rfl w.heap.size rfl m hS.out.m0 ?_)
      | (go_at_call 120; (with_reducible refine (hcode.out _).mono ?_); rintro e w1 ⟨rfl, hb⟩; replace hS := hid (hS.out.call hb); clear hb hcode))
    replace hS := hid (hS.out.newOwn [] 9 (by simp))
    go_wp2
    go_loopw [9, 10, 11, 12] (fun o nw _ _ wr => ∃ (k : Nat) (A : Option Addr) (cap : Nat), k ≤ P ∧ o = .slice A k cap ∧ nw = .string (G k) ∧ St w.heap.size w [Asn.own w.heap.size 9 o (O k), Asn.mb 27 w.heap.size m] wr) (fun o _ _ _ _ => P - (match o with | .slice _ n _ => n | _ => 0))
    case atStart => exact ⟨0, _, _, Nat.zero_le _, rfl, rfl, by rw [hO0.out]; exact hS.out⟩
    case round =>
      obtain ⟨k, A, cap, hkP, rfl, rfl, rS⟩ := hrel
      clear hS
      have hlk := hid (hle.out k)
      have hlen := hid (hln.out k)
      have hsk := hid (hsn.out k)
      replace rS := hid rS
      by_cases hlt : k < P
      · have dn : ((k : Int) == 0) = false → ((G k).toList == (G 0).toList) = false := fun h => hne.out k (by simp at h; omega) hlt
        by_cases hk0 : k = 0
        · subst hk0
          clear dn
          go_wp2_with (first
            | ((with_reducible refine gate (N := 36) rfl ?_); refine St.app 49 9 (.string { data := #[] }) 16 Try.underlying49 info_str rfl (by omega) rfl _ _ rfl _ _ rfl rS.out _ rfl rfl 0 hlen.out (by omega) ?_; intro gn cn w5 rS'; replace rS := hid rS'; clear rS')
            | ((with_reducible refine gate (N := 38) rfl ?_); refine load_mach rfl _ rfl w.heap.size rfl m rS.out.m1 ?_)
            | (go_at_call 121; (with_reducible refine (hlk.out _).mono ?_); rintro e w2 ⟨rfl, hb⟩; replace rS := hid (rS.out.call hb); clear hb))
          go_roundw
          case rel => exact ⟨0 + 1, _, _, hlt, rfl, rfl, by rw [hsk.out]; exact rS.out⟩
          case measure => dsimp only; omega
        · have d0 : ((k : Int) == 0) = false := by simp; omega
          replace dn := dn d0
          go_wp2_with (first
            | ((with_reducible refine gate (N := 36) rfl ?_); refine St.app 49 9 (.string { data := #[] }) 16 Try.underlying49 info_str rfl (by omega) rfl _ _ rfl _ _ rfl rS.out _ rfl rfl k hlen.out (by omega) ?_; intro gn cn w5 rS'; replace rS := hid rS'; clear rS')
            | ((with_reducible refine gate (N := 38) rfl ?_); refine load_mach rfl _ rfl w.heap.size rfl m rS.out.m1 ?_)
            | (go_at_call 121; (with_reducible refine (hlk.out _).mono ?_); rintro e w2 ⟨rfl, hb⟩; replace rS := hid (rS.out.call hb); clear hb))
          go_roundw
          case rel => exact ⟨k + 1, _, _, hlt, rfl, rfl, by rw [hsk.out]; exact rS.out⟩
          case measure => dsimp only; omega
      · obtain rfl : k = P := by omega
        have d0 : ((k : Int) == 0) = false := by simp; omega
        have dn := heq.out
        go_wp2
        go_ret2
        exact ⟨_, rfl, rS.out.o0, rS.out.bel⟩
end Go.Proofs.Ythmcdfjijkecfaa

/- The program's WordOfNumber, for all arguments. -/
namespace Go.Proofs.Ythmcdfjijkecfaa
open Go.RowKit
set_option linter.unusedVariables false
set_option linter.unusedSimpArgs false
-- @LONG

/-- The word of a number and the code. -/
def wonAns (d n k : Int) : ByteArray × Int := if (2 ≤ d ∧ d ≤ 3) ∧ (0 ≤ n ∧ n ≤ 5) ∧ 0 ≤ k ∧ k < (pw d.toNat n.toNat : Nat) then (wstr (wrd d.toNat n.toNat k.toNat), 0) else ({ data := #[] }, 2)
set_option maxHeartbeats 2000000 in
set_option maxRecDepth 100000 in
theorem implWonX_any (w : World) (d n k : Int) :
    Calls Try.prog 28 #[.int .i64 d, .int .i64 n, .int .i64 k] w fun e w' => e = .returned (.tuple #[.string (wonAns d n k).1, .int .i64 (wonAns d n k).2]) ∧ Below w.heap.size w w' := by
  by_cases hd : 2 ≤ d ∧ d ≤ 3
  · obtain ⟨d, rfl⟩ := Int.eq_ofNat_of_zero_le (show 0 ≤ d by omega)
    have hal := hid (fun W => areLetters_any (d : Int) true (decide_eq_true hd).symm W)
    by_cases hn : 0 ≤ n ∧ n ≤ 5
    · obtain ⟨n, rfl⟩ := Int.eq_ofNat_of_zero_le hn.1
      by_cases hk : 0 ≤ k ∧ k < (pw d n : Nat)
      · obtain ⟨k, rfl⟩ := Int.eq_ofNat_of_zero_le hk.1
        have hA : wonAns (d : Int) (n : Int) (k : Int) = (wstr (wrd d n k), 0) := by
          unfold wonAns
          rw [if_pos ⟨hd, hn, hk⟩]; rfl
        rw [hA]
        exact implWon_any w d n k (by omega) (by omega) (by omega)
      · have hA : wonAns (d : Int) (n : Int) k = ({ data := #[] }, 2) := by
          unfold wonAns
          rw [if_neg (fun h => hk h.2.2)]
        rw [hA]
        have h5 : pw d n ≤ 243 := by
          have h1 := pw_le d (by omega) (n := n) (k := 5) (by omega)
          have h3 : pw d 5 ≤ 243 := by rcases (show d = 2 ∨ d = 3 by omega) with rfl | rfl <;> decide
          omega
        have hi1 := hid (fun W => within_any (n : Int) 0 5 true (decide_eq_true hn).symm W)
        have hpw := hid (fun W => power_any d n (by omega) (by omega) (by omega) W)
        have hi2 := hid (fun W => within_any k 0 ((pw d n : Nat) - 1) false (decide_eq_false (by omega)).symm W)
        clear hA hk hd hn
        generalize pw d n = N at *
        have ew : wrap64 ((N : Int) - 1) = (N : Int) - 1 := w64 (by omega) (by omega)
        go_enter Try.func28, Try.ntmps28
        go_wp2_with (first
          | (go_at_call 127; (with_reducible refine (hal.out _).mono ?_); rintro e w1 ⟨rfl, rfl⟩)
          | (go_at_call 124; (first | (with_reducible refine (hi1.out _).mono ?_) | (with_reducible refine (hi2.out _).mono ?_)); rintro e w1 ⟨rfl, rfl⟩)
          | (go_at_call 128; (with_reducible refine (hpw.out _).mono ?_); rintro e w1 ⟨rfl, rfl⟩))
        go_ret2
        exact ⟨rfl, Below.refl _ _⟩
    · have hA : wonAns (d : Int) n k = ({ data := #[] }, 2) := by
        unfold wonAns
        rw [if_neg (fun h => hn h.2.1)]
      rw [hA]
      have hi1 := hid (fun W => within_any n 0 5 false (decide_eq_false hn).symm W)
      clear hA hn hd
      go_enter Try.func28, Try.ntmps28
      go_wp2_with (first
        | (go_at_call 127; (with_reducible refine (hal.out _).mono ?_); rintro e w1 ⟨rfl, rfl⟩)
        | (go_at_call 124; (with_reducible refine (hi1.out _).mono ?_); rintro e w1 ⟨rfl, rfl⟩))
      go_ret2
      exact ⟨rfl, Below.refl _ _⟩
  · have hA : wonAns d n k = ({ data := #[] }, 2) := by
      unfold wonAns
      rw [if_neg (fun h => hd h.1)]
    rw [hA]
    have hal := hid (fun W => areLetters_any d false (decide_eq_false hd).symm W)
    clear hA hd
    go_enter Try.func28, Try.ntmps28
    go_wp2_with (
      (go_at_call 127; (with_reducible refine (hal.out _).mono ?_); rintro e w1 ⟨rfl, rfl⟩))
    go_ret2
    exact ⟨rfl, Below.refl _ _⟩
end Go.Proofs.Ythmcdfjijkecfaa

/- The reference's WordOfNumber, for all arguments. -/
namespace Go.Proofs.Ythmcdfjijkecfaa
open Go.RowKit
set_option linter.unusedVariables false
set_option linter.unusedSimpArgs false
-- @LONG

set_option maxHeartbeats 2000000 in
set_option maxRecDepth 100000 in
/-- A number of a level is a word. -/
theorem specWon_any (w : World) (d n k : Nat) (hd : d = 2 ∨ d = 3) (hn : n ≤ 5) (hk : k < pw d n) :
    Calls Try.prog 35 #[.int .i64 d, .int .i64 n, .int .i64 k] w fun e w' => e = .returned (.tuple #[.string (wstr (wrd d n k)), .int .i64 0]) ∧ Below w.heap.size w w' := by
  have h5 : pw d n ≤ 243 := by
    have h1 := pw_le d (by omega) (n := n) (k := 5) (by omega)
    have h3 : pw d 5 ≤ 243 := by rcases hd with rfl | rfl <;> decide
    omega
  have hal := hid (fun W => l01In_any (d : Int) 2 3 true (decide_eq_true (by omega)).symm W)
  have hi1 := hid (fun W => l01In_any (n : Int) 0 5 true (decide_eq_true (by omega)).symm W)
  have hpw := hid (fun W => l01Power_any d n (by omega) (by omega) (by omega) W)
  have hi2 := hid (fun W => l01In_any (k : Int) 0 ((pw d n : Nat) - 1) true (decide_eq_true (by omega)).symm W)
  have hwo := hid (fun W => l01WordOf_any d (by omega) (by omega) n k (by omega) (by omega) W)
  generalize pw d n = N at *
  have ew : wrap64 ((N : Int) - 1) = (N : Int) - 1 := w64 (by omega) (by omega)
  generalize wstr (wrd d n k) = ws at *
  go_enter Try.func35, Try.ntmps35
  go_wp2_with (first
    | (go_at_call 117; (first | (with_reducible refine (hal.out _).mono ?_) | (with_reducible refine (hi1.out _).mono ?_) | (with_reducible refine (hi2.out _).mono ?_)); rintro e w1 ⟨rfl, rfl⟩)
    | (go_at_call 134; (with_reducible refine (hpw.out _).mono ?_); rintro e w1 ⟨rfl, rfl⟩)
    | (go_at_call 135; (with_reducible refine (hwo.out _).mono ?_); rintro e w2 ⟨rfl, hb⟩))
  go_ret2
  exact ⟨rfl, hb⟩
set_option maxHeartbeats 2000000 in
set_option maxRecDepth 100000 in
theorem specWonX_any (w : World) (d n k : Int) :
    Calls Try.prog 35 #[.int .i64 d, .int .i64 n, .int .i64 k] w fun e w' => e = .returned (.tuple #[.string (wonAns d n k).1, .int .i64 (wonAns d n k).2]) ∧ Below w.heap.size w w' := by
  by_cases hd : 2 ≤ d ∧ d ≤ 3
  · obtain ⟨d, rfl⟩ := Int.eq_ofNat_of_zero_le (show 0 ≤ d by omega)
    have hal := hid (fun W => l01In_any (d : Int) 2 3 true (decide_eq_true hd).symm W)
    by_cases hn : 0 ≤ n ∧ n ≤ 5
    · obtain ⟨n, rfl⟩ := Int.eq_ofNat_of_zero_le hn.1
      by_cases hk : 0 ≤ k ∧ k < (pw d n : Nat)
      · obtain ⟨k, rfl⟩ := Int.eq_ofNat_of_zero_le hk.1
        have hA : wonAns (d : Int) (n : Int) (k : Int) = (wstr (wrd d n k), 0) := by
          unfold wonAns
          rw [if_pos ⟨hd, hn, hk⟩]; rfl
        rw [hA]
        exact specWon_any w d n k (by omega) (by omega) (by omega)
      · have hA : wonAns (d : Int) (n : Int) k = ({ data := #[] }, 2) := by
          unfold wonAns
          rw [if_neg (fun h => hk h.2.2)]
        rw [hA]
        have h5 : pw d n ≤ 243 := by
          have h1 := pw_le d (by omega) (n := n) (k := 5) (by omega)
          have h3 : pw d 5 ≤ 243 := by rcases (show d = 2 ∨ d = 3 by omega) with rfl | rfl <;> decide
          omega
        have hi1 := hid (fun W => l01In_any (n : Int) 0 5 true (decide_eq_true hn).symm W)
        have hpw := hid (fun W => l01Power_any d n (by omega) (by omega) (by omega) W)
        have hi2 := hid (fun W => l01In_any k 0 ((pw d n : Nat) - 1) false (decide_eq_false (by omega)).symm W)
        clear hA hk hd hn
        generalize pw d n = N at *
        have ew : wrap64 ((N : Int) - 1) = (N : Int) - 1 := w64 (by omega) (by omega)
        go_enter Try.func35, Try.ntmps35
        go_wp2_with (first
          | (go_at_call 117; (first | (with_reducible refine (hal.out _).mono ?_) | (with_reducible refine (hi1.out _).mono ?_) | (with_reducible refine (hi2.out _).mono ?_)); rintro e w1 ⟨rfl, rfl⟩)
          | (go_at_call 134; (with_reducible refine (hpw.out _).mono ?_); rintro e w1 ⟨rfl, rfl⟩))
        go_ret2
        exact ⟨rfl, Below.refl _ _⟩
    · have hA : wonAns (d : Int) n k = ({ data := #[] }, 2) := by
        unfold wonAns
        rw [if_neg (fun h => hn h.2.1)]
      rw [hA]
      have hi1 := hid (fun W => l01In_any n 0 5 false (decide_eq_false hn).symm W)
      clear hA hn hd
      go_enter Try.func35, Try.ntmps35
      go_wp2_with (first
        | (go_at_call 117; (first | (with_reducible refine (hal.out _).mono ?_) | (with_reducible refine (hi1.out _).mono ?_)); rintro e w1 ⟨rfl, rfl⟩))
      go_ret2
      exact ⟨rfl, Below.refl _ _⟩
  · have hA : wonAns d n k = ({ data := #[] }, 2) := by
      unfold wonAns
      rw [if_neg (fun h => hd h.1)]
    rw [hA]
    have hal := hid (fun W => l01In_any d 2 3 false (decide_eq_false hd).symm W)
    clear hA hd
    go_enter Try.func35, Try.ntmps35
    go_wp2_with (
      (go_at_call 117; (first | (with_reducible refine (hal.out _).mono ?_)); rintro e w1 ⟨rfl, rfl⟩))
    go_ret2
    exact ⟨rfl, Below.refl _ _⟩
end Go.Proofs.Ythmcdfjijkecfaa

/- The program's NumberOfWord, for all arguments. -/
namespace Go.Proofs.Ythmcdfjijkecfaa
open Go.RowKit
set_option linter.unusedVariables false
set_option linter.unusedSimpArgs false
-- @LONG

open Classical in
/-- The number of a word and the code. -/
noncomputable def nowAns (d : Int) (ws : ByteArray) : Int × Int := if 2 ≤ d ∧ d ≤ 3 then if IsWd d ws then if ws.size ≤ 5 then (((num d.toNat (lets ws) : Nat) : Int), 0) else (0, 3) else (0, 1) else (0, 2)
set_option maxHeartbeats 2000000 in
set_option maxRecDepth 100000 in
theorem implNowX_any (w : World) (d : Int) (ws : ByteArray) (hws : ws.size < 1000000000000) :
    Calls Try.prog 29 #[.int .i64 d, .string ws] w fun e w' => e = .returned (.tuple #[.int .i64 (nowAns d ws).1, .int .i64 (nowAns d ws).2]) ∧ Below w.heap.size w w' := by
  by_cases hd : 2 ≤ d ∧ d ≤ 3
  · obtain ⟨d, rfl⟩ := Int.eq_ofNat_of_zero_le (show 0 ≤ d by omega)
    have hal := hid (fun W => areLetters_any (d : Int) true (decide_eq_true hd).symm W)
    by_cases hw : IsWd d ws
    · have hiw := hid (fun W => isWord_any (d : Int) hd.1 hd.2 ws hws true (iff_of_true rfl hw) W)
      obtain ⟨e1, e2, e3⟩ := lets_wstr ws hw
      by_cases h5 : ws.size ≤ 5
      · have hA : nowAns (d : Int) ws = (((num d (lets ws) : Nat) : Int), 0) := by unfold nowAns; rw [if_pos hd, if_pos hw, if_pos h5]; rfl
        rw [hA]
        have hsz := wstr_size (lets ws)
        rw [← e1] at hsz
        have h := implNow_any w d (lets ws) (by omega) e2 (by omega)
        rw [← e1] at h
        exact h
      · have hA : nowAns (d : Int) ws = (0, 3) := by unfold nowAns; rw [if_pos hd, if_pos hw, if_neg h5]
        rw [hA]
        have dl : decide ((5 : Int) < (ws.size : Int)) = true := decide_eq_true (by omega)
        clear hA hw e1 e2 e3 hd
        go_enter Try.func29, Try.ntmps29
        go_wp2_with (first
          | (go_at_call 127; (with_reducible refine (hal.out _).mono ?_); rintro e w1 ⟨rfl, rfl⟩)
          | (go_at_call 130; (with_reducible refine (hiw.out _).mono ?_); rintro e w1 ⟨rfl, rfl⟩))
        go_ret2
        exact ⟨rfl, Below.refl _ _⟩
    · have hiw := hid (fun W => isWord_any (d : Int) hd.1 hd.2 ws hws false (iff_of_false (by decide) hw) W)
      have hA : nowAns (d : Int) ws = (0, 1) := by unfold nowAns; rw [if_pos hd, if_neg hw]
      rw [hA]
      clear hA hw hd
      go_enter Try.func29, Try.ntmps29
      go_wp2_with (first
        | (go_at_call 127; (with_reducible refine (hal.out _).mono ?_); rintro e w1 ⟨rfl, rfl⟩)
        | (go_at_call 130; (with_reducible refine (hiw.out _).mono ?_); rintro e w1 ⟨rfl, rfl⟩))
      go_ret2
      exact ⟨rfl, Below.refl _ _⟩
  · have hA : nowAns d ws = (0, 2) := by unfold nowAns; rw [if_neg hd]
    rw [hA]
    have hal := hid (fun W => areLetters_any d false (decide_eq_false hd).symm W)
    clear hA hd
    go_enter Try.func29, Try.ntmps29
    go_wp2_with (
      (go_at_call 127; (with_reducible refine (hal.out _).mono ?_); rintro e w1 ⟨rfl, rfl⟩))
    go_ret2
    exact ⟨rfl, Below.refl _ _⟩
end Go.Proofs.Ythmcdfjijkecfaa

/- The reference's NumberOfWord, for all arguments. -/
namespace Go.Proofs.Ythmcdfjijkecfaa
open Go.RowKit
set_option linter.unusedVariables false
set_option linter.unusedSimpArgs false
-- @LONG

set_option maxHeartbeats 2000000 in
set_option maxRecDepth 100000 in
theorem specNowX_any (w : World) (d : Int) (ws : ByteArray) (hws : ws.size < 1000000000000) :
    Calls Try.prog 37 #[.int .i64 d, .string ws] w fun e w' => e = .returned (.tuple #[.int .i64 (nowAns d ws).1, .int .i64 (nowAns d ws).2]) ∧ Below w.heap.size w w' := by
  classical
  by_cases hd : 2 ≤ d ∧ d ≤ 3
  · obtain ⟨d, rfl⟩ := Int.eq_ofNat_of_zero_le (show 0 ≤ d by omega)
    have hal := hid (fun W => l01In_any (d : Int) 2 3 true (decide_eq_true hd).symm W)
    by_cases h40 : ws.size ≤ 40
    · have d40 : decide ((40 : Int) < (ws.size : Int)) = false := decide_eq_false (by omega)
      by_cases hw : IsWd d ws
      · have hiw := hid (fun W => l01Letters_any (d : Int) hd.1 hd.2 ws hws true (iff_of_true rfl hw.2) W)
        obtain ⟨e1, e2, e3⟩ := lets_wstr ws hw
        by_cases h5 : ws.size ≤ 5
        · have hA : nowAns (d : Int) ws = (((num d (lets ws) : Nat) : Int), 0) := by unfold nowAns; rw [if_pos hd, if_pos hw, if_pos h5]; rfl
          rw [hA]
          have hsz := wstr_size (lets ws)
          rw [← e1] at hsz
          have hp5 : pw d (lets ws).length ≤ 243 := by
            have h1 := pw_le d (by omega) (n := (lets ws).length) (k := 5) (by omega)
            have h3 : pw d 5 ≤ 243 := by rcases (show d = 2 ∨ d = 3 by omega) with rfl | rfl <;> decide
            omega
          have hno := hid (fun W => (by have h := l01NumberOf_any d (by omega) (by omega) (lets ws) e2 (by omega) (by omega) W; rw [← e1] at h; exact h : Calls Try.prog 137 #[.int .i64 d, .string ws] W fun e w' => e = .returned (.int .i64 (num d (lets ws) : Nat)) ∧ W = w'))
          have dl : decide ((5 : Int) < (ws.size : Int)) = false := decide_eq_false (by omega)
          clear hA hw e1 e2 e3 hd hsz hp5
          generalize num d (lets ws) = N at *
          go_enter Try.func37, Try.ntmps37
          go_wp2_with (first
            | (go_at_call 117; (with_reducible refine (hal.out _).mono ?_); rintro e w1 ⟨rfl, rfl⟩)
            | (go_at_call 136; (with_reducible refine (hiw.out _).mono ?_); rintro e w1 ⟨rfl, rfl⟩)
            | (go_at_call 137; (with_reducible refine (hno.out _).mono ?_); rintro e w1 ⟨rfl, rfl⟩))
          go_ret2
          exact ⟨rfl, Below.refl _ _⟩
        · have hA : nowAns (d : Int) ws = (0, 3) := by unfold nowAns; rw [if_pos hd, if_pos hw, if_neg h5]
          rw [hA]
          have dl : decide ((5 : Int) < (ws.size : Int)) = true := decide_eq_true (by omega)
          clear hA hw e1 e2 e3 hd
          go_enter Try.func37, Try.ntmps37
          go_wp2_with (first
            | (go_at_call 117; (with_reducible refine (hal.out _).mono ?_); rintro e w1 ⟨rfl, rfl⟩)
            | (go_at_call 136; (with_reducible refine (hiw.out _).mono ?_); rintro e w1 ⟨rfl, rfl⟩))
          go_ret2
          exact ⟨rfl, Below.refl _ _⟩
      · have hiw := hid (fun W => l01Letters_any (d : Int) hd.1 hd.2 ws hws false (iff_of_false (by decide) (fun h => hw ⟨h40, h⟩)) W)
        have hA : nowAns (d : Int) ws = (0, 1) := by unfold nowAns; rw [if_pos hd, if_neg hw]
        rw [hA]
        clear hA hw hd
        go_enter Try.func37, Try.ntmps37
        go_wp2_with (first
          | (go_at_call 117; (with_reducible refine (hal.out _).mono ?_); rintro e w1 ⟨rfl, rfl⟩)
          | (go_at_call 136; (with_reducible refine (hiw.out _).mono ?_); rintro e w1 ⟨rfl, rfl⟩))
        go_ret2
        exact ⟨rfl, Below.refl _ _⟩
    · have d40 : decide ((40 : Int) < (ws.size : Int)) = true := decide_eq_true (by omega)
      have hA : nowAns (d : Int) ws = (0, 1) := by unfold nowAns; rw [if_pos hd, if_neg (fun h => h40 h.1)]
      rw [hA]
      clear hA hd
      go_enter Try.func37, Try.ntmps37
      go_wp2_with (
        (go_at_call 117; (with_reducible refine (hal.out _).mono ?_); rintro e w1 ⟨rfl, rfl⟩))
      go_ret2
      exact ⟨rfl, Below.refl _ _⟩
  · have hA : nowAns d ws = (0, 2) := by unfold nowAns; rw [if_neg hd]
    rw [hA]
    have hal := hid (fun W => l01In_any d 2 3 false (decide_eq_false hd).symm W)
    clear hA hd
    go_enter Try.func37, Try.ntmps37
    go_wp2_with (
      (go_at_call 117; (with_reducible refine (hal.out _).mono ?_); rintro e w1 ⟨rfl, rfl⟩))
    go_ret2
    exact ⟨rfl, Below.refl _ _⟩
end Go.Proofs.Ythmcdfjijkecfaa

/- A machine drawn: a known one or any, seldom spoilt. -/
namespace Go.Proofs.Ythmcdfjijkecfaa
open Go.RowKit
set_option linter.unusedVariables false
set_option linter.unusedSimpArgs false
-- @LONG

/-- The texts of the known machines. -/
def tx8 : List ByteArray := [{ data := #[50, 58, 48, 97, 49, 97, 44, 49, 97, 48, 98] }, { data := #[50, 58, 48, 97, 49, 97, 44, 49, 97, 48, 97, 44, 48, 98, 49, 100, 44, 48, 98, 49, 101, 44, 48, 97, 49, 99] }, { data := #[50, 58, 48, 97, 49, 97, 44, 48, 97, 49, 99, 44, 49, 97, 48, 98] }, { data := #[50, 58, 48, 97, 49, 98, 44, 49, 97, 48, 98] }, { data := #[51, 58, 48, 97, 49, 97, 50, 97, 44, 49, 97, 48, 97, 50, 98, 44, 50, 97, 49, 99, 48, 97, 44, 48, 100, 50, 97, 49, 97] }, { data := #[51, 58, 48, 97, 49, 97, 50, 97, 44, 49, 97, 50, 97, 48, 97, 44, 48, 98, 49, 99, 50, 100, 44, 50, 97, 48, 97, 49, 97] }, { data := #[50, 58, 49, 98, 48, 99, 44, 48, 99, 49, 99, 44, 49, 97, 48, 98] }, { data := #[50, 58, 48, 98, 49, 97, 44, 49, 98, 48, 97] }]
def tx7 : List ByteArray := [{ data := #[50, 58, 48, 97, 49, 97, 44, 49, 97, 48, 98] }, { data := #[50, 58, 48, 97, 49, 97, 44, 48, 97, 49, 99, 44, 49, 97, 48, 98] }, { data := #[50, 58, 48, 97, 49, 97, 44, 49, 97, 48, 97, 44, 48, 98, 49, 100, 44, 48, 98, 49, 101, 44, 48, 97, 49, 99] }, { data := #[50, 58, 48, 98, 49, 97, 44, 49, 98, 48, 97] }, { data := #[51, 58, 48, 97, 49, 97, 50, 97, 44, 49, 97, 48, 97, 50, 98] }, { data := #[50, 58, 48, 97, 49, 98, 44, 49, 97, 48, 98] }, { data := #[51, 58, 48, 97, 49, 97, 50, 97, 44, 49, 97, 50, 97, 48, 98] }]
theorem tx8_S : ∀ t ∈ tx8, (rdS t).length ≤ 8 ∧ t.size ≤ 1000 := by decide +kernel
theorem tx7_S : ∀ t ∈ tx7, (rdS t).length ≤ 8 ∧ t.size ≤ 1000 := by decide +kernel
theorem rdAns_S {t : ByteArray} (h : (rdS t).length ≤ 8) : 0 ≤ (rdAns t).1.S ∧ (rdAns t).1.S ≤ 8 := by
  unfold rdAns
  split
  · have e : (rdM (bt t 0 - 48) (rdS t)).S = (((rdS t).length : Nat) : Int) := rfl
    show 0 ≤ (rdM (bt t 0 - 48) (rdS t)).S ∧ (rdM (bt t 0 - 48) (rdS t)).S ≤ 8
    rw [e]; omega
  · exact ⟨by decide, by decide⟩
/-- A machine with few states. -/
def Few8 (m : Mach) : Prop := m.Ok ∧ 0 ≤ m.S ∧ m.S ≤ 8
/-- .. where it is one. -/
def Low8 (m : Mach) : Prop := m.Ok ∧ (IsM m → m.S ≤ 8)
theorem MLS.few {m : Mach} {L : Int} {S : Nat} (h : MLS m L S) (hS : S ≤ 8) : Few8 m := ⟨h.1, by rw [h.2.2]; omega⟩
theorem Few8.low {m : Mach} (h : Few8 m) : Low8 m := ⟨h.1, fun _ => h.2.2⟩
section
variable {w0 w : World} {S : Nat} {v : Value} {l : List Nat} {L : List Asn}
theorem pick_two {r : Int} (h : r ∈ [2, 2, (3 : Int)]) : ∃ d : Nat, r = d ∧ (d = 2 ∨ d = 3) := by
  simp only [List.mem_cons, List.not_mem_nil, or_false] at h
  rcases h with rfl | rfl | rfl
  · exact ⟨2, rfl, .inl rfl⟩
  · exact ⟨2, rfl, .inl rfl⟩
  · exact ⟨3, rfl, .inr rfl⟩
theorem pick_six {r : Int} {k : Nat} (hk : k < 8) (h : r ∈ [1, 2, 3, 4, 5, 1 + (k : Int)]) : ∃ n : Nat, r = n ∧ n ≤ 8 := by
  simp only [List.mem_cons, List.not_mem_nil, or_false] at h
  rcases h with rfl | rfl | rfl | rfl | rfl | rfl
  · exact ⟨1, rfl, by omega⟩
  · exact ⟨2, rfl, by omega⟩
  · exact ⟨3, rfl, by omega⟩
  · exact ⟨4, rfl, by omega⟩
  · exact ⟨5, rfl, by omega⟩
  · exact ⟨1 + k, by omega, by omega⟩
set_option maxHeartbeats 4000000 in
set_option maxRecDepth 100000 in
theorem Dg.draw (D : Dg w0 S v l) (hS : St w0.heap.size w0 (Asn.src S v l.length :: L) w) :
    Calls Try.prog 206 #[.pointer (some ⟨S, 0, none⟩)] w fun e w' => ∃ m : Mach, e = .returned (.agg (mcells m)) ∧ Hid (Few8 m) ∧ St w0.heap.size w0 (Asn.src S v l.length :: L) w' := by
  have hN := hid (fun W L n (h0 : n ≤ 1000000000) hW => D.next (w := W) (L := L) n h0 hW)
  have hP := hid (fun W L b2 v2 M hM hMl hW => D.pick (w := W) (L := L) (b2 := b2) (v2 := v2) M hM hMl hW)
  have hA := hid (fun W L d n hd hn hW => D.any (w := W) (L := L) d n hd hn hW)
  have hrd := hid (fun W t (ht : t.size ≤ 1000) => l01Read_any W t (by omega))
  have hro := hid (fun t (ht : (rdS t).length ≤ 8) => (show Few8 (rdAns t).1 from ⟨rdAns_ok t, rdAns_S ht⟩))
  have hz := zeroM_run
  have hz2 := hid (fun L W (h : St w0.heap.size w0 (Asn.src S v l.length :: L) W) => (h.newMB zeroM 27).f1)
  have hle := hid hS.le
  have hS := hid (((hz2.out _ _ hS).newOwn [.string { data := #[50, 58, 48, 97, 49, 97, 44, 49, 97, 48, 98] }, .string { data := #[50, 58, 48, 97, 49, 97, 44, 49, 97, 48, 97, 44, 48, 98, 49, 100, 44, 48, 98, 49, 101, 44, 48, 97, 49, 99] }, .string { data := #[50, 58, 48, 97, 49, 97, 44, 48, 97, 49, 99, 44, 49, 97, 48, 98] }, .string { data := #[50, 58, 48, 97, 49, 98, 44, 49, 97, 48, 98] }, .string { data := #[51, 58, 48, 97, 49, 97, 50, 97, 44, 49, 97, 48, 97, 50, 98, 44, 50, 97, 49, 99, 48, 97, 44, 48, 100, 50, 97, 49, 97] }, .string { data := #[51, 58, 48, 97, 49, 97, 50, 97, 44, 49, 97, 50, 97, 48, 97, 44, 48, 98, 49, 99, 50, 100, 44, 50, 97, 48, 97, 49, 97] }, .string { data := #[50, 58, 49, 98, 48, 99, 44, 48, 99, 49, 99, 44, 49, 97, 48, 98] }, .string { data := #[50, 58, 48, 98, 49, 97, 44, 49, 98, 48, 97] }] 9 (by simp)).f1)
  have htx := hid (fun W L r (hr : r < 8) (hW : St w0.heap.size w0 (Asn.src S v l.length :: Asn.own w0.heap.size 9 (.slice (some ⟨w.heap.size + 1, 0, none⟩) 8 8) [.string { data := #[50, 58, 48, 97, 49, 97, 44, 49, 97, 48, 98] }, .string { data := #[50, 58, 48, 97, 49, 97, 44, 49, 97, 48, 97, 44, 48, 98, 49, 100, 44, 48, 98, 49, 101, 44, 48, 97, 49, 99] }, .string { data := #[50, 58, 48, 97, 49, 97, 44, 48, 97, 49, 99, 44, 49, 97, 48, 98] }, .string { data := #[50, 58, 48, 97, 49, 98, 44, 49, 97, 48, 98] }, .string { data := #[51, 58, 48, 97, 49, 97, 50, 97, 44, 49, 97, 48, 97, 50, 98, 44, 50, 97, 49, 99, 48, 97, 44, 48, 100, 50, 97, 49, 97] }, .string { data := #[51, 58, 48, 97, 49, 97, 50, 97, 44, 49, 97, 50, 97, 48, 97, 44, 48, 98, 49, 99, 50, 100, 44, 50, 97, 48, 97, 49, 97] }, .string { data := #[50, 58, 49, 98, 48, 99, 44, 48, 99, 49, 99, 44, 49, 97, 48, 98] }, .string { data := #[50, 58, 48, 98, 49, 97, 44, 49, 98, 48, 97] }] :: L) W) => (show ∃ t, W.cell? ⟨w.heap.size + 1, r, none⟩ = some (.string t) ∧ Hid ((rdS t).length ≤ 8) ∧ t.size ≤ 1000 from by
    have hr' : r < tx8.length := hr
    have hm := tx8_S tx8[r] (List.getElem_mem hr')
    exact ⟨tx8[r], hW.o1.cellAt r _ (by rw [show ([.string { data := #[50, 58, 48, 97, 49, 97, 44, 49, 97, 48, 98] }, .string { data := #[50, 58, 48, 97, 49, 97, 44, 49, 97, 48, 97, 44, 48, 98, 49, 100, 44, 48, 98, 49, 101, 44, 48, 97, 49, 99] }, .string { data := #[50, 58, 48, 97, 49, 97, 44, 48, 97, 49, 99, 44, 49, 97, 48, 98] }, .string { data := #[50, 58, 48, 97, 49, 98, 44, 49, 97, 48, 98] }, .string { data := #[51, 58, 48, 97, 49, 97, 50, 97, 44, 49, 97, 48, 97, 50, 98, 44, 50, 97, 49, 99, 48, 97, 44, 48, 100, 50, 97, 49, 97] }, .string { data := #[51, 58, 48, 97, 49, 97, 50, 97, 44, 49, 97, 50, 97, 48, 97, 44, 48, 98, 49, 99, 50, 100, 44, 50, 97, 48, 97, 49, 97] }, .string { data := #[50, 58, 49, 98, 48, 99, 44, 48, 99, 49, 99, 44, 49, 97, 48, 98] }, .string { data := #[50, 58, 48, 98, 49, 97, 44, 49, 98, 48, 97] }] : List Value) = strs tx8 from rfl]; simp [strs, List.getElem?_eq_getElem hr']), hid hm.1, hm.2⟩))
  simp only [heap_alloc_size] at hS
  clear D
  go_enter Try.func206, Try.ntmps206
  go_upto_region 2 with (fail)
  generalize World.alloc (World.alloc w _) _ = wA at *
  simp only [List.length_cons, List.length_nil, Nat.reduceAdd] at hS
  generalize ([.string { data := #[50, 58, 48, 97, 49, 97, 44, 49, 97, 48, 98] }, .string { data := #[50, 58, 48, 97, 49, 97, 44, 49, 97, 48, 97, 44, 48, 98, 49, 100, 44, 48, 98, 49, 101, 44, 48, 97, 49, 99] }, .string { data := #[50, 58, 48, 97, 49, 97, 44, 48, 97, 49, 99, 44, 49, 97, 48, 98] }, .string { data := #[50, 58, 48, 97, 49, 98, 44, 49, 97, 48, 98] }, .string { data := #[51, 58, 48, 97, 49, 97, 50, 97, 44, 49, 97, 48, 97, 50, 98, 44, 50, 97, 49, 99, 48, 97, 44, 48, 100, 50, 97, 49, 97] }, .string { data := #[51, 58, 48, 97, 49, 97, 50, 97, 44, 49, 97, 50, 97, 48, 97, 44, 48, 98, 49, 99, 50, 100, 44, 50, 97, 48, 97, 49, 97] }, .string { data := #[50, 58, 49, 98, 48, 99, 44, 48, 99, 49, 99, 44, 49, 97, 48, 98] }, .string { data := #[50, 58, 48, 98, 49, 97, 44, 49, 98, 48, 97] }] : List Value) = cs at *
  generalize w.heap.size + 1 = gT at *
  have mk1 : True := trivial
  go_wp2_with (first
    | (go_at_call 133; clear mk1; (with_reducible refine (hN.out _ _ _ (by omega) hS.out).mono ?_); rintro e w1 ⟨r1, rfl, _, hS'⟩; replace hS := hid hS'; clear hS')
    | (go_at_call 133; (with_reducible refine (hN.out _ _ _ (by omega) hS.out).mono ?_); rintro e w2 ⟨r, rfl, hr, hS'⟩; (have hr8 : r < 8 := by omega); (have hr9 : (r : Int) < 8 := by omega); (have r0 : (0 : Int) ≤ (r : Int) := Int.natCast_nonneg _); (have e1 : wrap64 (1 + (r : Int)) = 1 + (r : Int) := w64 (by omega) (by omega)); (refine Exists.elim (htx.out w2 _ r hr8 hS') ?_); rintro t ⟨ct, ht, hts⟩; replace hS := hid hS'; clear hS' hr)
    | (go_at_call 133; (with_reducible refine (hN.out _ _ _ (by omega) hS.out).mono ?_); rintro e w2 ⟨r, rfl, hr, hS'⟩; (have hr8 : r < 8 := by omega); (have hr9 : (r : Int) < 8 := by omega); (have r0 : (0 : Int) ≤ (r : Int) := Int.natCast_nonneg _); (have e1 : wrap64 (1 + (r : Int)) = 1 + (r : Int) := w64 (by omega) (by omega)); replace hS := hid hS'; clear hS' hr)
    | (go_at_call 188; (with_reducible refine (hrd.out _ t hts).mono ?_); rintro e w3 ⟨rfl, hb⟩; (have hle3 := hid (hS.out.call hb).le); replace hS := hid (hz2.out _ _ (hS.out.call hb)); (have hF := hid (hro.out t ht.out)); clear ct hb; generalize (rdAns t).1 = M at *; generalize (rdAns t).2 = ok at *)
    | ((with_reducible refine gateOp (op := .store 27 (.tmp 4) (.tmp 19)) rfl ?_); refine store_mach rfl _ _ rfl w3.heap.size rfl M rfl 27 _ hS.out.f1.m0 ?_; intro w4 p3 ho hsz hbl; replace hS := hid (hS.out.f1.setM hle3.out p3 ho hbl); clear p3 ho hsz hbl)
    | ((with_reducible refine gate (N := 22) rfl ?_); refine load_mach rfl _ rfl w3.heap.size rfl M hS.out.m0 ?_)
    | ((with_reducible refine gateOp (op := .store 27 (.tmp 2) (.tmp 22)) rfl ?_); refine store_mach rfl _ _ rfl w.heap.size rfl M rfl 27 _ hS.out.f3.m0 ?_; intro w5 p3 ho hsz hbl; replace hS := hid (hS.out.f3.setM hle.out p3 ho hbl); clear p3 ho hsz hbl)
    | (go_at_call 122; (first | have hS2 := hS.out.list [.int .i64 2, .int .i64 2, .int .i64 3] (by simp) | have hS2 := hS.out.f1.list [.int .i64 2, .int .i64 2, .int .i64 3] (by simp)); (with_reducible refine (hP.out _ _ _ _ [2, 2, 3] (by simp) (by simp) hS2).mono ?_); rintro e w6 ⟨d', rfl, hd', hS'⟩; obtain ⟨d, rfl, hd⟩ := pick_two hd'; replace hS := hid hS'; clear hS' hS2 hd')
    | (go_at_call 122; (have hS2 := hS.out.list [.int .i64 1, .int .i64 2, .int .i64 3, .int .i64 4, .int .i64 5, .int .i64 (1 + (r : Int))] (by simp)); (with_reducible refine (hP.out _ _ _ _ [1, 2, 3, 4, 5, 1 + (r : Int)] (by simp) (by simp) hS2).mono ?_); rintro e w7 ⟨n', rfl, hn', hS'⟩; obtain ⟨n, rfl, hn⟩ := pick_six hr8 hn'; replace hS := hid hS'; clear hS' hS2 hn')
    | (go_at_call 183; (with_reducible refine (hA.out _ _ _ _ hd (by omega) hS.out).mono ?_); rintro e w8 ⟨M, rfl, hM, hS'⟩; (have hF := hid (hM.out.few hn)); replace hS := hid hS'; clear hS')
    | ((with_reducible refine gateOp (op := .store 27 (.tmp 2) (.tmp 33)) rfl ?_); refine store_mach rfl _ _ rfl w.heap.size rfl M rfl 27 _ hS.out.f2.m0 ?_; intro w9 p3 ho hsz hbl; replace hS := hid (hS.out.f2.setM hle.out p3 ho hbl); clear p3 ho hsz hbl)
    | ((with_reducible refine gateOp (op := .store 27 (.tmp 2) (.tmp 33)) rfl ?_); refine store_mach rfl _ _ rfl w.heap.size rfl M rfl 27 _ hS.out.f3.m0 ?_; intro w9 p3 ho hsz hbl; replace hS := hid (hS.out.f3.setM hle.out p3 ho hbl); clear p3 ho hsz hbl))
  all_goals first
    | exact ret_mach rfl rfl hS.out.m0 rfl ⟨M, rfl, hF, hS.out.drop.drop.f1.drop⟩
    | exact ret_mach rfl rfl hS.out.m0 rfl ⟨M, rfl, hF, hS.out.drop.f1.drop⟩
    | exact ret_mach rfl rfl hS.out.m0 rfl ⟨M, rfl, hF, hS.out.drop.f1.drop.f1.drop⟩
theorem MB.setL {w : World} {t b : Nat} {m : Mach} (h : MB w t b m) (x : Int) : MB (w.setCell ⟨b, 0, none⟩ (.int .i64 x)) t b { m with L := x } := by
  refine World.rowIs.congr (World.rowIs.set h 0 _) (fun i hi => ?_)
  unfold mf
  by_cases e : i = 0
  · rw [if_pos e, if_pos e]
  · rw [if_neg e, if_neg e, if_neg e]
theorem MB.setS {w : World} {t b : Nat} {m : Mach} (h : MB w t b m) (x : Int) : MB (w.setCell ⟨b, 1, none⟩ (.int .i64 x)) t b { m with S := x } := by
  refine World.rowIs.congr (World.rowIs.set h 1 _) (fun i hi => ?_)
  unfold mf
  by_cases e : i = 1
  · rw [if_pos e, if_neg (by omega), if_pos e]
  · rw [if_neg e]
    by_cases e0 : i = 0
    · rw [if_pos e0, if_pos e0]
    · rw [if_neg e0, if_neg e, if_neg e0, if_neg e]
theorem St.setL {base t bn : Nat} {w0 w : World} {L : List Asn} {m : Mach} (h : St base w0 (Asn.mb t bn m :: L) w) (hb : base ≤ bn) (x : Int) : St base w0 (Asn.mb t bn { m with L := x } :: L) (w.setCell ⟨bn, 0, none⟩ (.int .i64 x)) :=
  h.turn (a' := Asn.mb t bn _) (MB.setL h.star.1 x) (fun k hk => .inl hk) (fun k hk => (show k = bn from hk) ▸ hb) ((Below.refl _ _).setCell hb _) fun k _ hk => heap_setCell_other w ⟨bn, _, none⟩ k _ hk
theorem St.setS {base t bn : Nat} {w0 w : World} {L : List Asn} {m : Mach} (h : St base w0 (Asn.mb t bn m :: L) w) (hb : base ≤ bn) (x : Int) : St base w0 (Asn.mb t bn { m with S := x } :: L) (w.setCell ⟨bn, 1, none⟩ (.int .i64 x)) :=
  h.turn (a' := Asn.mb t bn _) (MB.setS h.star.1 x) (fun k hk => .inl hk) (fun k hk => (show k = bn from hk) ▸ hb) ((Below.refl _ _).setCell hb _) fun k _ hk => heap_setCell_other w ⟨bn, _, none⟩ k _ hk
theorem IsM.few {m : Mach} (h : IsM m) : 1 ≤ m.S ∧ m.S ≤ 16 := by
  obtain ⟨l, s, g⟩ := h.good
  have := g.S; have := g.s1; have := g.s16
  omega
theorem Few8.setL {m : Mach} (h : Few8 m) (x : Int) : Low8 { m with L := x } := ⟨h.1, fun _ => h.2.2⟩
theorem Few8.setS {m : Mach} (h : Few8 m) {x : Int} (hx : x ∈ [0, 17, -1, wrap64 (m.S - 1)]) : Low8 { m with S := x } := by
  refine ⟨h.1, fun hm => ?_⟩
  have h2 := hm.few
  have h3 : 1 ≤ x ∧ x ≤ 16 := h2
  show x ≤ 8
  have h4 := h.2.1; have h5 := h.2.2
  rw [w64 (by omega) (by omega)] at hx
  simp only [List.mem_cons, List.not_mem_nil, or_false] at hx
  rcases hx with rfl | rfl | rfl | rfl <;> omega
theorem Few8.setN {m : Mach} (h : Few8 m) (i v : Nat) (hv : v < 256) : Low8 { m with nx := upd m.nx i v } := ⟨(MLS.nx (L := m.L) (S := m.S) ⟨h.1, rfl, rfl⟩ i v hv).1, fun _ => h.2.2⟩
theorem Few8.setO {m : Mach} (h : Few8 m) (i v : Nat) (hv : v < 256) : Low8 { m with ot := upd m.ot i v } := ⟨(MLS.ot (L := m.L) (S := m.S) ⟨h.1, rfl, rfl⟩ i v hv).1, fun _ => h.2.2⟩
set_option maxHeartbeats 4000000 in
set_option maxRecDepth 100000 in
theorem Dg.bad (D : Dg w0 S v l) (m : Mach) (hm : Few8 m) (hS : St w0.heap.size w0 (Asn.src S v l.length :: L) w) :
    Calls Try.prog 184 #[.pointer (some ⟨S, 0, none⟩), .agg (mcells m)] w fun e w' => ∃ m : Mach, e = .returned (.agg (mcells m)) ∧ Hid (Low8 m) ∧ St w0.heap.size w0 (Asn.src S v l.length :: L) w' := by
  have hN := hid (fun W L n (h0 : n ≤ 1000000000) hW => D.next (w := W) (L := L) n h0 hW)
  have hP := hid (fun W L b2 v2 M hM hMl hW => D.pick (w := W) (L := L) (b2 := b2) (v2 := v2) M hM hMl hW)
  have hz := zeroM_run
  have hle := hid hS.le
  have hS := hid (((hS.newMB m 27).f1.newMB zeroM 27).f1)
  have hle2 := hid (show w0.heap.size ≤ w.heap.size + 1 from Nat.le_succ_of_le hle.out)
  simp only [heap_alloc_size] at hS
  replace hm := hid hm
  clear D
  go_enter Try.func184, Try.ntmps184
  go_upto_region 2 with (first
    | (go_at_call 133; (with_reducible refine (hN.out _ _ _ (by omega) hS.out).mono ?_); rintro e w1 ⟨k, rfl, _, hS'⟩; replace hS := hid hS'; clear hS'))
  generalize w.heap.size + 1 = b4 at *
  have cL := hS.out.m2.cL
  have cS := hS.out.m2.cS
  have fL : w1.frozen? ⟨w.heap.size, 0, none⟩ = false := World.rowIs.frozen hS.out.m2 _
  have fS : w1.frozen? ⟨w.heap.size, 1, none⟩ = false := World.rowIs.frozen hS.out.m2 _
  by_cases k0 : k = 0
  · subst k0
    go_upto_region 10 with (first
      | (go_at_call 122; (have hS2 := hS.out.list [.int .i64 0, .int .i64 1, .int .i64 4, .int .i64 (-1), .int .i64 (wrap64 (5 - m.L))] (by simp)); (with_reducible refine (hP.out _ _ _ _ [0, 1, 4, -1, wrap64 (5 - m.L)] (by simp) (by simp) hS2).mono ?_); rintro e w6 ⟨x, rfl, _, hS'⟩; replace hS := hid hS'; clear hS' hS2 cL cS fL fS; (obtain ⟨vl, cL⟩ : ∃ u, w6.cell? ⟨w.heap.size, 0, none⟩ = some u := ⟨_, hS.out.m2.cL⟩); (have fL : w6.frozen? ⟨w.heap.size, 0, none⟩ = false := World.rowIs.frozen hS.out.m2 _)))
    replace hS := hid (hS.out.f2.setL hle.out x)
    have hF := hid (hm.out.setL x)
    generalize World.setCell w6 _ _ = wz at *
    generalize hMM : Mach.mk _ _ _ _ = M at hS hF
    clear hMM
    go_wp2_with (first
      | ((with_reducible refine gate (N := 49) rfl ?_); refine load_mach rfl _ rfl w.heap.size rfl M hS.out.m0 ?_)
      | ((with_reducible refine gateOp (op := .store 27 (.tmp 4) (.tmp 49)) rfl ?_); refine store_mach rfl _ _ rfl b4 rfl M rfl 27 _ hS.out.f2.m0 ?_; intro w9 p3 ho hsz hbl; replace hS := hid (hS.out.f2.setM hle2.out p3 ho hbl); clear p3 ho hsz hbl))
    exact ret_mach rfl rfl hS.out.m0 rfl ⟨M, rfl, hF, hS.out.drop.drop⟩
  · have d0 : ((k : Int) == 0) = false := by simp; omega
    by_cases k1 : k = 1
    · subst k1
      go_upto_region 10 with (first
        | (go_at_call 122; (have hS2 := hS.out.list [.int .i64 0, .int .i64 17, .int .i64 (-1), .int .i64 (wrap64 (m.S - 1))] (by simp)); (with_reducible refine (hP.out _ _ _ _ [0, 17, -1, wrap64 (m.S - 1)] (by simp) (by simp) hS2).mono ?_); rintro e w6 ⟨x, rfl, hx, hS'⟩; replace hS := hid hS'; replace hx := hid hx; clear hS' hS2 cL cS fL fS; (obtain ⟨vl, cL⟩ : ∃ u, w6.cell? ⟨w.heap.size, 1, none⟩ = some u := ⟨_, hS.out.m2.cS⟩); (have fL : w6.frozen? ⟨w.heap.size, 1, none⟩ = false := World.rowIs.frozen hS.out.m2 _)))
      replace hS := hid (hS.out.f2.setS hle.out x)
      have hF := hid (hm.out.setS hx.out)
      generalize World.setCell w6 _ _ = wz at *
      generalize hMM : Mach.mk _ _ _ _ = M at hS hF
      clear hMM
      go_wp2_with (first
        | ((with_reducible refine gate (N := 49) rfl ?_); refine load_mach rfl _ rfl w.heap.size rfl M hS.out.m0 ?_)
        | ((with_reducible refine gateOp (op := .store 27 (.tmp 4) (.tmp 49)) rfl ?_); refine store_mach rfl _ _ rfl b4 rfl M rfl 27 _ hS.out.f2.m0 ?_; intro w9 p3 ho hsz hbl; replace hS := hid (hS.out.f2.setM hle2.out p3 ho hbl); clear p3 ho hsz hbl))
      exact ret_mach rfl rfl hS.out.m0 rfl ⟨M, rfl, hF, hS.out.drop.drop⟩
    · have d1 : ((k : Int) == 1) = false := by simp; omega
      by_cases k2 : k = 2
      · subst k2
        go_upto_region 7 with (fail)
        have mk1 : True := trivial
        have mk2 : True := trivial
        clear cL cS fL fS
        go_region_with (first
          | (go_at_call 133; clear mk1; (with_reducible refine (hN.out _ _ _ (by omega) hS.out.drew).mono ?_); rintro e w5 ⟨r, rfl, hr, hS'⟩; (have r0 : (0 : Int) ≤ (r : Int) := Int.natCast_nonneg _); (have r1 : (r : Int) < 16 := by omega); replace hS := hid hS'; clear hS')
          | (go_at_call 133; clear mk2; (with_reducible refine (hN.out _ _ _ (by omega) hS.out).mono ?_); rintro e w6 ⟨x, rfl, hx, hS'⟩; (have x0 : (0 : Int) ≤ (x : Int) := Int.natCast_nonneg _); (have x1 : (x : Int) < 3 := by omega); replace hS := hid hS'; clear hS')
          | (go_at_call 133; (with_reducible refine (hN.out _ _ _ (by omega) hS.out).mono ?_); rintro e w7 ⟨y, rfl, hy, hS'⟩; replace hS := hid hS'; clear hS'; (have y1 : y < 256 := by omega); (have e1 : IntKind.u8.wrap (y : Int) = y := u8_of y y1); (have hrx := hid (show r < 16 ∧ x < 3 by omega)); (obtain ⟨vn, cn⟩ : ∃ u, w7.cell? ⟨w.heap.size, 2 + r * 3 + x, none⟩ = some u := ⟨_, hS.out.m2.cnx r x hrx.out.1 hrx.out.2⟩); (have fn : w7.frozen? ⟨w.heap.size, 2 + r * 3 + x, none⟩ = false := World.rowIs.frozen hS.out.m2 _)))
        replace hS := hid (hS.out.f2.setNx hle.out r x y hrx.out.1 hrx.out.2)
        have hF := hid (hm.out.setN (r * 3 + x) y y1)
        generalize World.setCell w7 _ _ = wz at *
        generalize hMM : Mach.mk _ _ _ _ = M at hS hF
        clear hMM
        go_wp2_with (first
          | ((with_reducible refine gate (N := 49) rfl ?_); refine load_mach rfl _ rfl w.heap.size rfl M hS.out.m0 ?_)
          | ((with_reducible refine gateOp (op := .store 27 (.tmp 4) (.tmp 49)) rfl ?_); refine store_mach rfl _ _ rfl b4 rfl M rfl 27 _ hS.out.f2.m0 ?_; intro w9 p3 ho hsz hbl; replace hS := hid (hS.out.f2.setM hle2.out p3 ho hbl); clear p3 ho hsz hbl))
        exact ret_mach rfl rfl hS.out.m0 rfl ⟨M, rfl, hF, hS.out.drop.drop⟩
      · have d2 : ((k : Int) == 2) = false := by simp; omega
        by_cases k3 : k = 3
        · subst k3
          go_upto_region 9 with (fail)
          have mk1 : True := trivial
          have mk2 : True := trivial
          clear cL cS fL fS
          go_region_with (first
            | (go_at_call 133; clear mk1; (with_reducible refine (hN.out _ _ _ (by omega) hS.out.drew).mono ?_); rintro e w5 ⟨r, rfl, hr, hS'⟩; (have r0 : (0 : Int) ≤ (r : Int) := Int.natCast_nonneg _); (have r1 : (r : Int) < 16 := by omega); replace hS := hid hS'; clear hS')
            | (go_at_call 133; clear mk2; (with_reducible refine (hN.out _ _ _ (by omega) hS.out).mono ?_); rintro e w6 ⟨x, rfl, hx, hS'⟩; (have x0 : (0 : Int) ≤ (x : Int) := Int.natCast_nonneg _); (have x1 : (x : Int) < 3 := by omega); replace hS := hid hS'; clear hS')
            | (go_at_call 133; (with_reducible refine (hN.out _ _ _ (by omega) hS.out).mono ?_); rintro e w7 ⟨y, rfl, hy, hS'⟩; replace hS := hid hS'; clear hS'; (have y1 : y < 256 := by omega); (have e1 : IntKind.u8.wrap (y : Int) = y := u8_of y y1); (have hrx := hid (show r < 16 ∧ x < 3 by omega)); (obtain ⟨vn, cn⟩ : ∃ u, w7.cell? ⟨w.heap.size, 50 + r * 3 + x, none⟩ = some u := ⟨_, hS.out.m2.cot r x hrx.out.1 hrx.out.2⟩); (have fn : w7.frozen? ⟨w.heap.size, 50 + r * 3 + x, none⟩ = false := World.rowIs.frozen hS.out.m2 _)))
          replace hS := hid (hS.out.f2.setOt hle.out r x y hrx.out.1 hrx.out.2)
          have hF := hid (hm.out.setO (r * 3 + x) y y1)
          generalize World.setCell w7 _ _ = wz at *
          generalize hMM : Mach.mk _ _ _ _ = M at hS hF
          clear hMM
          go_wp2_with (first
            | ((with_reducible refine gate (N := 49) rfl ?_); refine load_mach rfl _ rfl w.heap.size rfl M hS.out.m0 ?_)
            | ((with_reducible refine gateOp (op := .store 27 (.tmp 4) (.tmp 49)) rfl ?_); refine store_mach rfl _ _ rfl b4 rfl M rfl 27 _ hS.out.f2.m0 ?_; intro w9 p3 ho hsz hbl; replace hS := hid (hS.out.f2.setM hle2.out p3 ho hbl); clear p3 ho hsz hbl))
          exact ret_mach rfl rfl hS.out.m0 rfl ⟨M, rfl, hF, hS.out.drop.drop⟩
        · have d3 : ((k : Int) == 3) = false := by simp; omega
          replace hS := hid hS.out.f2
          have hF := hid hm.out.low
          clear cL cS fL fS
          go_wp2_with (first
            | ((with_reducible refine gate (N := 49) rfl ?_); refine load_mach rfl _ rfl w.heap.size rfl m hS.out.m0 ?_)
            | ((with_reducible refine gateOp (op := .store 27 (.tmp 4) (.tmp 49)) rfl ?_); refine store_mach rfl _ _ rfl b4 rfl m rfl 27 _ hS.out.f2.m0 ?_; intro w9 p3 ho hsz hbl; replace hS := hid (hS.out.f2.setM hle2.out p3 ho hbl); clear p3 ho hsz hbl))
          exact ret_mach rfl rfl hS.out.m0 rfl ⟨m, rfl, hF, hS.out.drop.drop⟩
set_option maxHeartbeats 4000000 in
set_option maxRecDepth 100000 in
theorem Dg.spoil (D : Dg w0 S v l) (hS : St w0.heap.size w0 (Asn.src S v l.length :: L) w) :
    Calls Try.prog 103 #[.pointer (some ⟨S, 0, none⟩)] w fun e w' => ∃ m : Mach, e = .returned (.agg (mcells m)) ∧ Hid (Low8 m) ∧ St w0.heap.size w0 (Asn.src S v l.length :: L) w' := by
  have hR := hid (fun W L hW => D.draw (w := W) (L := L) hW)
  have hB := hid (fun W L m hm hW => D.bad (w := W) (L := L) m hm hW)
  have hz := zeroM_run
  have hle := hid hS.le
  have hS := hid ((hS.newMB zeroM 27).f1)
  clear D
  go_enter Try.func103, Try.ntmps103
  go_wp2_with (first
    | (go_at_call 206; (with_reducible refine (hR.out _ _ hS.out).mono ?_); rintro e w1 ⟨m0, rfl, hm, hS'⟩; replace hS := hid hS'; clear hS')
    | (go_at_call 184; (with_reducible refine (hB.out _ _ m0 hm.out hS.out).mono ?_); rintro e w2 ⟨M, rfl, hF, hS'⟩; replace hS := hid hS'; clear hS')
    | ((with_reducible refine gateOp (op := .store 27 (.tmp 2) (.tmp 6)) rfl ?_); refine store_mach rfl _ _ rfl w.heap.size rfl M rfl 27 _ hS.out.f1.m0 ?_; intro w9 p3 ho hsz hbl; replace hS := hid (hS.out.f1.setM hle.out p3 ho hbl); clear p3 ho hsz hbl))
  exact ret_mach rfl rfl hS.out.m0 rfl ⟨M, rfl, hF, hS.out.drop⟩
end
end Go.Proofs.Ythmcdfjijkecfaa

/- Draws of machines and levels. -/
namespace Go.Proofs.Ythmcdfjijkecfaa
open Go.RowKit
set_option linter.unusedVariables false
set_option linter.unusedSimpArgs false
-- @LONG

theorem Low8.ok {m : Mach} (h : Low8 m) : m.Ok := h.1
theorem ret_mvv {fn : Func} {R : Ending → World → Prop} {a : Act} {w : World} {p q r : Nat} (h : fn.results = #[.cell p 27, .tmp q, .tmp r]) {g t : Nat} {m : Mach} {v u : Value}
    (hp : a.tmps.getD p undef = .pointer (some ⟨g, 0, none⟩)) (hq : a.tmps.getD q undef = v) (hr : a.tmps.getD r undef = u) (hm : MB w t g m) (hdf : a.defers = []) (hR : R (.returned (.tuple #[.agg (mcells m), v, u])) w) : bodyPost Try.prog fn R .ret a w := by
  refine bodyPost_ret (v := .tuple #[.agg (mcells m), v, u]) ?_ hdf hR
  have hp' : a.tmps[p]?.getD undef = .pointer (some ⟨g, 0, none⟩) := by simpa using hp
  have hq' : a.tmps[q]?.getD undef = v := by simpa using hq
  have hr' : a.tmps[r]?.getD undef = u := by simpa using hr
  have := run_loadVar_row (P := Try.prog) w g t 27 (mcells m) (0, 0) _ hm.heap Try.underlying27 rfl (by rw [size_mcells]; exact sz_mach)
  simp [results, h, hp', hq', hr', asAddr, this]
theorem ret_mvvv {fn : Func} {R : Ending → World → Prop} {a : Act} {w : World} {p q r s : Nat} (h : fn.results = #[.cell p 27, .tmp q, .tmp r, .tmp s]) {g t : Nat} {m : Mach} {v u x : Value}
    (hp : a.tmps.getD p undef = .pointer (some ⟨g, 0, none⟩)) (hq : a.tmps.getD q undef = v) (hr : a.tmps.getD r undef = u) (hs : a.tmps.getD s undef = x) (hm : MB w t g m) (hdf : a.defers = []) (hR : R (.returned (.tuple #[.agg (mcells m), v, u, x])) w) : bodyPost Try.prog fn R .ret a w := by
  refine bodyPost_ret (v := .tuple #[.agg (mcells m), v, u, x]) ?_ hdf hR
  have hp' : a.tmps[p]?.getD undef = .pointer (some ⟨g, 0, none⟩) := by simpa using hp
  have hq' : a.tmps[q]?.getD undef = v := by simpa using hq
  have hr' : a.tmps[r]?.getD undef = u := by simpa using hr
  have hs' : a.tmps[s]?.getD undef = x := by simpa using hs
  have := run_loadVar_row (P := Try.prog) w g t 27 (mcells m) (0, 0) _ hm.heap Try.underlying27 rfl (by rw [size_mcells]; exact sz_mach)
  simp [results, h, hp', hq', hr', hs', asAddr, this]
theorem Dg.from {w W : World} {v : Value} {l : List Nat} {L : List Asn} (hv : ArgB w v l) (hl : l.length ≤ 4096) (hS : St w.heap.size w L W) :
    Calls Try.prog 104 #[v] W fun e w' => ∃ S, e = .returned (.pointer (some ⟨S, 0, none⟩)) ∧ Hid (Dg w S v l) ∧ St w.heap.size w (Asn.src S v l.length :: L) w' := by
  refine (l01From_any W v l (hv.below hS.bel) hl).mono ?_
  rintro e w' ⟨rfl, h⟩
  exact ⟨_, rfl, hid ⟨hv, hl, hS.le⟩, hS.callPush (a := Asn.src W.heap.size v l.length) h.bel h.star.1 fun k hk => Nat.le_of_eq (show k = W.heap.size from hk).symm⟩
section
variable {w0 w : World} {S : Nat} {v : Value} {l : List Nat} {L : List Asn}
end
end Go.Proofs.Ythmcdfjijkecfaa
