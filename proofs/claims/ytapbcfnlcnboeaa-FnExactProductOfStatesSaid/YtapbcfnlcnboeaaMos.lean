/- MachineOfState: what the program and the reference answer. -/
import Derived.Test.YtapbcfnlcnboeaaStart
import Derived.Test.YtapbcfnlcnboeaaLawLevel
namespace Go.Proofs.Ytapbcfnlcnboeaa
open Go.RowKit
set_option linter.unusedVariables false
set_option linter.unusedSimpArgs false

set_option maxHeartbeats 4000000 in
set_option maxRecDepth 100000 in
theorem l07Machine_any (w : World) (m : Mach) (l s : Nat) (g : Good m l s) (q : Nat) (hq : q < s) :
    Calls Try.prog 69 #[.agg (mcells m), .int .i64 q] w fun e w' => e = .returned (.agg (mcells (fromM (tabOf m l s) q))) ∧ Below w.heap.size w w' := by
  have hz := zero_mach
  have hof := hid (fun W => l07Of_any W m l s g)
  have hst := hid (fun W base vN vO hW => l07Start_any W base q vN vO (tabOf m l s) (tabOf_ok g) g.l3 (by show 0 < l; have := g.l2; omega) (by show s < 100000; have := g.s16; omega) (ot256 g) hW hq)
  have hTL := hid (show (tabOf m l s).L = l from rfl)
  rw [hTL.out] at hst
  have hS := hid (((St.start w).newMB m 31).newMB ⟨0, 0, fun _ => 0, fun _ => 0⟩ 31)
  rw [heap_alloc_size] at hS
  have hN := hid (fun L W (h : St w.heap.size w L W) => h.newMB ⟨0, 0, fun _ => 0, fun _ => 0⟩ 31)
  clear g
  generalize fromB (tabOf m l s) q = fb at *
  generalize fromM (tabOf m l s) q = fm at *
  generalize tabOf m l s = T at *
  generalize mcells ⟨0, 0, fun _ => 0, fun _ => 0⟩ = zs at *
  go_enter Try.func69, Try.ntmps69
  go_wp2_with (first
    | ((with_reducible refine gate (N := 8) rfl ?_); refine load_mach rfl _ rfl w.heap.size rfl m hS.out.m1 ?_)
    | (go_at_call 98; (with_reducible refine (hof.out _).mono ?_); rintro e w1 ⟨vN, vO, rfl, hG, hb⟩; replace hS := hid (hS.out.call hb); replace hG := hid hG; have hle := hid hS.out.le; clear hb)
    | (go_at_call 97; (with_reducible refine (hst.out _ _ _ _ hG.out).mono ?_); rintro e w2 ⟨rfl, hb⟩; replace hS := hid (hN.out _ _ (hS.out.call hb)); have hle2 := hid (show w.heap.size ≤ w2.heap.size from Nat.le_trans hle.out hb.size); clear hb hG hst hof)
    | ((with_reducible refine gateOp (op := .store 31 (.tmp 5) (.tmp 12)) rfl ?_); refine store_mach rfl _ _ rfl w2.heap.size rfl fm rfl 31 _ hS.out.m0 ?_; intro W1 p3 ho hsz hbl; replace hS := hid (hS.out.setM hle2.out p3 ho hbl); clear p3 ho hsz hbl)
    | ((with_reducible refine gate (N := 14) rfl ?_); refine load_mach rfl _ rfl w2.heap.size rfl fm hS.out.m0 ?_)
    | ((with_reducible refine gateOp (op := .store 31 (.tmp 4) (.tmp 14)) rfl ?_); refine store_mach rfl _ _ rfl (w.heap.size + 1) rfl fm rfl 31 _ hS.out.m1 ?_; intro W3 p2 ho hsz hbl; have pB := hid (hbl _ _ (Nat.le_succ _) hS.out.bel); replace p2 := hid p2; clear ho hsz hbl))
  exact ret_mach rfl rfl p2.out rfl ⟨rfl, pB.out⟩

open Classical in
/-- What MachineOfState answers. -/
noncomputable def mosAns (m : Mach) (q : Int) : Mach × Int := if codeI m { data := #[] } [q] = 0 then (fromM (tabOf m m.L.toNat m.S.toNat) q.toNat, 0) else (⟨0, 0, fun _ => 0, fun _ => 0⟩, codeI m { data := #[] } [q])
theorem mosAns_0 {m : Mach} {l s q : Nat} (g : Good m l s) (hq : q < s) : mosAns m q = (fromM (tabOf m l s) q, 0) := by
  unfold mosAns; rw [if_pos (codeI_one g ⟨by omega, by omega⟩), g.L, g.S]; rfl
theorem mosAns_2 {m : Mach} {l s : Nat} {q : Int} (g : Good m l s) (hq : ¬ (0 ≤ q ∧ q < (s : Int))) : mosAns m q = (⟨0, 0, fun _ => 0, fun _ => 0⟩, 2) := by
  unfold mosAns; rw [codeI_bad g hq, if_neg (by decide)]
theorem mosAns_1 {m : Mach} {q : Int} (hm : ¬ IsM m) : mosAns m q = (⟨0, 0, fun _ => 0, fun _ => 0⟩, 1) := by
  unfold mosAns; rw [codeI_1 hm, if_neg (by decide)]

set_option maxHeartbeats 1000000 in
theorem l07State_any (w : World) (m : Mach) (hk : m.Ok) (q : Int) :
    Calls Try.prog 75 #[.agg (mcells m), .int .i64 q] w fun e w' => e = .returned (.int .i64 (codeI m { data := #[] } [q])) ∧ Below w.heap.size w w' := by
  have hS := hid ((St.start w).newMB m 31)
  by_cases hm : IsM m
  · obtain ⟨l, s, g⟩ := hm.good
    have hi := hid (show Tells true (IsM m) from ⟨fun _ => hm, fun _ => rfl⟩)
    have gS := hid g.S
    have s1 := g.s1
    have s16 := g.s16
    by_cases hq : 0 ≤ q ∧ q < (s : Int)
    · rw [codeI_one g hq]
      have hin := hid (fun W => l01In_any q 0 ((s : Int) - 1) true (decide_eq_true (by omega)).symm W)
      replace hk := hid hk; clear hm hq g
      go_enter Try.func75, Try.ntmps75
      go_wp2_with (first
        | ((with_reducible refine gate (N := 6) rfl ?_); refine load_mach rfl _ rfl w.heap.size rfl m hS.out.m0 ?_)
        | (go_at_call 53; (with_reducible refine (l01Is_any _ m hk.out true hi.out.out).mono ?_); rintro e w1 ⟨rfl, hb⟩; replace hS := hid (hS.out.call hb); have cS := hS.out.m0.cS; rw [gS.out] at cS; clear hb hi)
        | (go_at_call 47; (with_reducible refine (hin.out _).mono ?_); rintro e w3 ⟨rfl, rfl⟩))
      go_ret
      exact ⟨rfl, hS.out.bel⟩
    · rw [codeI_bad g hq]
      have hin := hid (fun W => l01In_any q 0 ((s : Int) - 1) false (decide_eq_false (fun h => hq (by omega))).symm W)
      replace hk := hid hk; clear hm hq g
      go_enter Try.func75, Try.ntmps75
      go_wp2_with (first
        | ((with_reducible refine gate (N := 6) rfl ?_); refine load_mach rfl _ rfl w.heap.size rfl m hS.out.m0 ?_)
        | (go_at_call 53; (with_reducible refine (l01Is_any _ m hk.out true hi.out.out).mono ?_); rintro e w1 ⟨rfl, hb⟩; replace hS := hid (hS.out.call hb); have cS := hS.out.m0.cS; rw [gS.out] at cS; clear hb hi)
        | (go_at_call 47; (with_reducible refine (hin.out _).mono ?_); rintro e w3 ⟨rfl, rfl⟩))
      go_ret
      exact ⟨rfl, hS.out.bel⟩
  · rw [codeI_1 hm]
    have hi := hid (show Tells false (IsM m) from ⟨fun h => (by cases h), fun h => absurd h hm⟩)
    replace hk := hid hk; clear hm
    go_enter Try.func75, Try.ntmps75
    go_wp2_with (first
      | ((with_reducible refine gate (N := 6) rfl ?_); refine load_mach rfl _ rfl w.heap.size rfl m hS.out.m0 ?_)
      | (go_at_call 53; (with_reducible refine (l01Is_any _ m hk.out false hi.out.out).mono ?_); rintro e w1 ⟨rfl, hb⟩; replace hS := hid (hS.out.call hb); clear hb hi))
    go_ret
    exact ⟨rfl, hS.out.bel⟩
theorem codeI_cases (m : Mach) (q : Int) : codeI m { data := #[] } [q] = 1 ∨ codeI m { data := #[] } [q] = 2 ∨ ∃ l s q', Good m l s ∧ q = ((q' : Nat) : Int) ∧ q' < s ∧ codeI m { data := #[] } [q] = 0 := by
  by_cases hm : IsM m
  · obtain ⟨l, s, g⟩ := hm.good
    by_cases hq : 0 ≤ q ∧ q < (s : Int)
    · obtain ⟨q', rfl⟩ := Int.eq_ofNat_of_zero_le hq.1
      exact .inr (.inr ⟨l, s, q', g, rfl, by omega, codeI_one g hq⟩)
    · exact .inr (.inl (codeI_bad g hq))
  · exact .inl (codeI_1 hm)

set_option maxHeartbeats 2000000 in
set_option maxRecDepth 100000 in
theorem specMos_any (w : World) (m : Mach) (hk : m.Ok) (q : Int) :
    Calls Try.prog 43 #[.agg (mcells m), .int .i64 q] w fun e w' => e = .returned (.tuple #[.agg (mcells (mosAns m q).1), .int .i64 (mosAns m q).2]) ∧ Below w.heap.size w w' := by
  have hz := zero_mach
  have hcode := hid (fun W => l07State_any W m hk q)
  have hS := hid (((St.start w).newMB m 31).newMB ⟨0, 0, fun _ => 0, fun _ => 0⟩ 31)
  rw [heap_alloc_size] at hS
  rcases codeI_cases m q with h | h | ⟨l, s, q, g, rfl, hq, h⟩
  · have hA : mosAns m q = (⟨0, 0, fun _ => 0, fun _ => 0⟩, 1) := by unfold mosAns; rw [h, if_neg (by decide)]
    rw [hA]
    rw [h] at hcode
    clear hA h
    replace hk := hid hk
    generalize hzs : mcells ⟨0, 0, fun _ => 0, fun _ => 0⟩ = zs at *
    replace hzs := hid hzs
    go_enter Try.func43, Try.ntmps43
    go_wp2_with (first
      | ((with_reducible refine gate (N := 7) rfl ?_); refine load_mach rfl _ rfl w.heap.size rfl m hS.out.m1 ?_)
      | (go_at_call 75; (with_reducible refine (hcode.out _).mono ?_); rintro e w1 ⟨rfl, hb⟩; replace hS := hid (hS.out.call hb); clear hb hcode)
      | ((with_reducible refine gate (N := 12) rfl ?_); refine build_zero rfl rfl ?_)
      | ((with_reducible refine gateOp (op := .store 31 (.tmp 4) (.tmp 12)) rfl ?_); refine store_mach rfl _ _ rfl (w.heap.size + 1) rfl ⟨0, 0, fun _ => 0, fun _ => 0⟩ rfl 31 _ hS.out.m0 ?_; intro W3 p2 ho hsz hbl; have pB := hid (hbl _ _ (Nat.le_succ _) hS.out.bel); replace p2 := hid p2; clear ho hsz hbl))
    exact ret_mach_i rfl rfl rfl p2.out rfl ⟨by rw [hzs.out], pB.out⟩
  · have hA : mosAns m q = (⟨0, 0, fun _ => 0, fun _ => 0⟩, 2) := by unfold mosAns; rw [h, if_neg (by decide)]
    rw [hA]
    rw [h] at hcode
    clear hA h
    replace hk := hid hk
    generalize hzs : mcells ⟨0, 0, fun _ => 0, fun _ => 0⟩ = zs at *
    replace hzs := hid hzs
    go_enter Try.func43, Try.ntmps43
    go_wp2_with (first
      | ((with_reducible refine gate (N := 7) rfl ?_); refine load_mach rfl _ rfl w.heap.size rfl m hS.out.m1 ?_)
      | (go_at_call 75; (with_reducible refine (hcode.out _).mono ?_); rintro e w1 ⟨rfl, hb⟩; replace hS := hid (hS.out.call hb); clear hb hcode)
      | ((with_reducible refine gate (N := 12) rfl ?_); refine build_zero rfl rfl ?_)
      | ((with_reducible refine gateOp (op := .store 31 (.tmp 4) (.tmp 12)) rfl ?_); refine store_mach rfl _ _ rfl (w.heap.size + 1) rfl ⟨0, 0, fun _ => 0, fun _ => 0⟩ rfl 31 _ hS.out.m0 ?_; intro W3 p2 ho hsz hbl; have pB := hid (hbl _ _ (Nat.le_succ _) hS.out.bel); replace p2 := hid p2; clear ho hsz hbl))
    exact ret_mach_i rfl rfl rfl p2.out rfl ⟨by rw [hzs.out], pB.out⟩
  · rw [mosAns_0 g hq]
    rw [h] at hcode
    have hma := hid (fun W => l07Machine_any W m l s g q hq)
    clear h g
    replace hk := hid hk
    generalize fromM (tabOf m l s) q = fm at *
    generalize mcells ⟨0, 0, fun _ => 0, fun _ => 0⟩ = zs at *
    go_enter Try.func43, Try.ntmps43
    go_wp2_with (first
      | ((with_reducible refine gate (N := 7) rfl ?_); refine load_mach rfl _ rfl w.heap.size rfl m hS.out.m1 ?_)
      | (go_at_call 75; (with_reducible refine (hcode.out _).mono ?_); rintro e w1 ⟨rfl, hb⟩; replace hS := hid (hS.out.call hb); clear hb hcode)
      | ((with_reducible refine gate (N := 14) rfl ?_); refine load_mach rfl _ rfl w.heap.size rfl m hS.out.m1 ?_)
      | (go_at_call 69; (with_reducible refine (hma.out _).mono ?_); rintro e w1 ⟨rfl, hb⟩; replace hS := hid (hS.out.call hb); clear hb hma)
      | ((with_reducible refine gateOp (op := .store 31 (.tmp 4) (.tmp 16)) rfl ?_); refine store_mach rfl _ _ rfl (w.heap.size + 1) rfl fm rfl 31 _ hS.out.m0 ?_; intro W3 p2 ho hsz hbl; have pB := hid (hbl _ _ (Nat.le_succ _) hS.out.bel); replace p2 := hid p2; clear ho hsz hbl))
    exact ret_mach_i rfl rfl rfl p2.out rfl ⟨rfl, pB.out⟩

set_option maxHeartbeats 2000000 in
set_option maxRecDepth 100000 in
theorem implMos_any (w : World) (m : Mach) (hk : m.Ok) (q : Int) :
    Calls Try.prog 44 #[.agg (mcells m), .int .i64 q] w fun e w' => e = .returned (.tuple #[.agg (mcells (mosAns m q).1), .int .i64 (mosAns m q).2]) ∧ Below w.heap.size w w' := by
  have hz := zero_mach
  have hS := hid (((St.start w).newMB m 31).newMB ⟨0, 0, fun _ => 0, fun _ => 0⟩ 31)
  rw [heap_alloc_size] at hS
  have hcode := hid (fun W base v h => codeOf_any W m hk { data := #[] } (by decide) base v [q] h (by simp))
  have hown := hid (hS.out.newOwn [Value.int .i64 q] 2 (by simp))
  simp only [heap_alloc_size] at hown
  rcases codeI_cases m q with h | h | ⟨l, s, q, g, rfl, hq, h⟩
  · have hA : mosAns m q = (⟨0, 0, fun _ => 0, fun _ => 0⟩, 1) := by unfold mosAns; rw [h, if_neg (by decide)]
    rw [hA]
    rw [h] at hcode
    clear hA h
    replace hk := hid hk
    generalize hzs : mcells ⟨0, 0, fun _ => 0, fun _ => 0⟩ = zs at *
    replace hzs := hid hzs
    go_enter Try.func44, Try.ntmps44
    go_wp2_with (first
      | ((with_reducible refine gate (N := 7) rfl ?_); refine load_mach rfl _ rfl w.heap.size rfl m hS.out.m1 ?_)
      | (go_at_call 62; (with_reducible refine (hcode.out _ _ _ hown.out.o0).mono ?_); rintro e w1 ⟨rfl, hb⟩; replace hS := hid (hown.out.call hb).drop; clear hb hcode hown)
      | ((with_reducible refine gate (N := 13) rfl ?_); refine build_zero rfl rfl ?_)
      | ((with_reducible refine gateOp (op := .store 31 (.tmp 4) (.tmp 13)) rfl ?_); refine store_mach rfl _ _ rfl (w.heap.size + 1) rfl ⟨0, 0, fun _ => 0, fun _ => 0⟩ rfl 31 _ hS.out.m0 ?_; intro W3 p2 ho hsz hbl; have pB := hid (hbl _ _ (Nat.le_succ _) hS.out.bel); replace p2 := hid p2; clear ho hsz hbl))
    exact ret_mach_i rfl rfl rfl p2.out rfl ⟨by rw [hzs.out], pB.out⟩
  · have hA : mosAns m q = (⟨0, 0, fun _ => 0, fun _ => 0⟩, 2) := by unfold mosAns; rw [h, if_neg (by decide)]
    rw [hA]
    rw [h] at hcode
    clear hA h
    replace hk := hid hk
    generalize hzs : mcells ⟨0, 0, fun _ => 0, fun _ => 0⟩ = zs at *
    replace hzs := hid hzs
    go_enter Try.func44, Try.ntmps44
    go_wp2_with (first
      | ((with_reducible refine gate (N := 7) rfl ?_); refine load_mach rfl _ rfl w.heap.size rfl m hS.out.m1 ?_)
      | (go_at_call 62; (with_reducible refine (hcode.out _ _ _ hown.out.o0).mono ?_); rintro e w1 ⟨rfl, hb⟩; replace hS := hid (hown.out.call hb).drop; clear hb hcode hown)
      | ((with_reducible refine gate (N := 13) rfl ?_); refine build_zero rfl rfl ?_)
      | ((with_reducible refine gateOp (op := .store 31 (.tmp 4) (.tmp 13)) rfl ?_); refine store_mach rfl _ _ rfl (w.heap.size + 1) rfl ⟨0, 0, fun _ => 0, fun _ => 0⟩ rfl 31 _ hS.out.m0 ?_; intro W3 p2 ho hsz hbl; have pB := hid (hbl _ _ (Nat.le_succ _) hS.out.bel); replace p2 := hid p2; clear ho hsz hbl))
    exact ret_mach_i rfl rfl rfl p2.out rfl ⟨by rw [hzs.out], pB.out⟩
  · rw [mosAns_0 g hq]
    rw [h] at hcode
    have hma := hid (fun W hW => machineOf_any w.heap.size W m hW l s g q hq)
    clear h g
    replace hk := hid hk
    generalize fromM (tabOf m l s) q = fm at *
    generalize mcells ⟨0, 0, fun _ => 0, fun _ => 0⟩ = zs at *
    go_enter Try.func44, Try.ntmps44
    go_wp2_with (first
      | ((with_reducible refine gate (N := 7) rfl ?_); refine load_mach rfl _ rfl w.heap.size rfl m hS.out.m1 ?_)
      | (go_at_call 62; (with_reducible refine (hcode.out _ _ _ hown.out.o0).mono ?_); rintro e w1 ⟨rfl, hb⟩; replace hS := hid (hown.out.call hb).drop; clear hb hcode hown)
      | (go_at_call 71; (with_reducible refine (hma.out _ hS.out.m1).mono ?_); rintro e w1 ⟨rfl, hb⟩; replace hS := hid (hS.out.call hb); clear hb hma)
      | ((with_reducible refine gateOp (op := .store 31 (.tmp 4) (.tmp 16)) rfl ?_); refine store_mach rfl _ _ rfl (w.heap.size + 1) rfl fm rfl 31 _ hS.out.m0 ?_; intro W3 p2 ho hsz hbl; have pB := hid (hbl _ _ (Nat.le_succ _) hS.out.bel); replace p2 := hid p2; clear ho hsz hbl))
    exact ret_mach_i rfl rfl rfl p2.out rfl ⟨rfl, pB.out⟩
end Go.Proofs.Ytapbcfnlcnboeaa
