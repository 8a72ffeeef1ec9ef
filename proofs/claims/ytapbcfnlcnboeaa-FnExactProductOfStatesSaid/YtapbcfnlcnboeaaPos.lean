/- ProductOfStates: what the program and the reference answer. -/
import Derived.Test.YtapbcfnlcnboeaaProdS
import Derived.Test.YtapbcfnlcnboeaaPair
namespace Go.Proofs.Ytapbcfnlcnboeaa
open Go.RowKit
set_option linter.unusedVariables false
set_option linter.unusedSimpArgs false

open Classical in
/-- What ProductOfStates answers. -/
noncomputable def posAns (m : Mach) (q : Int) (k : Mach) (r : Int) : Mach × Int := if pairI m q k r = 0 then (fromM (prodT m k m.L.toNat m.S.toNat k.S.toNat) (q.toNat * k.S.toNat + r.toNat), fromC (prodT m k m.L.toNat m.S.toNat k.S.toNat) (q.toNat * k.S.toNat + r.toNat)) else (⟨0, 0, fun _ => 0, fun _ => 0⟩, pairI m q k r)
theorem posAns_0 {m k : Mach} {l s s' q r : Nat} (g : Good m l s) (g' : Good k l s') (h : pairI m q k r = 0) : posAns m q k r = (fromM (prodT m k l s s') (q * s' + r), fromC (prodT m k l s s') (q * s' + r)) := by
  unfold posAns; rw [if_pos h, g.L, g.S, g'.S]; rfl
theorem posAns_n {m : Mach} {q : Int} {k : Mach} {r c : Int} (h : pairI m q k r = c) (hc : c ≠ 0) : posAns m q k r = (⟨0, 0, fun _ => 0, fun _ => 0⟩, c) := by
  unfold posAns; rw [h, if_neg hc]
theorem from_cases (T : Tab) (q : Nat) : (fromB T q = true ∧ fromC T q = 0) ∨ (fromB T q = false ∧ fromC T q = 3 ∧ fromM T q = ⟨0, 0, fun _ => 0, fun _ => 0⟩) := by
  unfold fromB fromC fromM
  by_cases h : (fin T (fix T) q).length ≤ 16
  · exact .inl ⟨decide_eq_true h, if_pos h⟩
  · exact .inr ⟨decide_eq_false h, if_neg h, if_neg h⟩

set_option maxHeartbeats 4000000 in
set_option maxRecDepth 100000 in
theorem specPos_any (w : World) (m : Mach) (hkm : m.Ok) (q : Int) (k : Mach) (hkk : k.Ok) (r : Int) :
    Calls Try.prog 41 #[.agg (mcells m), .int .i64 q, .agg (mcells k), .int .i64 r] w fun e w' => e = .returned (.tuple #[.agg (mcells (posAns m q k r).1), .int .i64 (posAns m q k r).2]) ∧ Below w.heap.size w w' := by
  have hz := zero_mach
  have hS := hid ((((St.start w).newMB m 31).newMB k 31).newMB ⟨0, 0, fun _ => 0, fun _ => 0⟩ 31)
  simp only [heap_alloc_size] at hS
  have hcode := hid (fun W => l07Both_any W m hkm q k hkk r)
  rcases pairI_cases m q k r with ⟨h, _⟩ | h | ⟨l, s, s', q, r, g, g', rfl, hq, rfl, hr, h⟩
  · rw [posAns_n h (by decide)]
    rw [h] at hcode
    replace hkm := hid hkm; replace hkk := hid hkk; clear h
    generalize hzs : mcells ⟨0, 0, fun _ => 0, fun _ => 0⟩ = zs at *
    replace hzs := hid hzs
    go_enter Try.func41, Try.ntmps41
    go_wp2_with (first
      | ((with_reducible refine gate (N := 13) rfl ?_); refine load_mach rfl _ rfl w.heap.size rfl m hS.out.m2 ?_)
      | ((with_reducible refine gate (N := 15) rfl ?_); refine load_mach rfl _ rfl (w.heap.size + 1) rfl k hS.out.m1 ?_)
      | (go_at_call 68; (with_reducible refine (hcode.out _).mono ?_); rintro e w1 ⟨rfl, hb⟩; replace hS := hid (hS.out.call hb); clear hb hcode)
      | ((with_reducible refine gate (N := 20) rfl ?_); refine build_zero rfl rfl ?_)
      | ((with_reducible refine gateOp (op := .store 31 (.tmp 8) (.tmp 20)) rfl ?_); refine store_mach rfl _ _ rfl (w.heap.size + 1 + 1) rfl ⟨0, 0, fun _ => 0, fun _ => 0⟩ rfl 31 _ hS.out.m0 ?_; intro W3 p2 ho hsz hbl; have pB := hid (hbl _ _ (by omega) hS.out.bel); replace p2 := hid p2; clear ho hsz hbl))
    exact ret_mach_i rfl rfl rfl p2.out rfl ⟨by rw [hzs.out], pB.out⟩
  · rw [posAns_n h (by decide)]
    rw [h] at hcode
    replace hkm := hid hkm; replace hkk := hid hkk; clear h
    generalize hzs : mcells ⟨0, 0, fun _ => 0, fun _ => 0⟩ = zs at *
    replace hzs := hid hzs
    go_enter Try.func41, Try.ntmps41
    go_wp2_with (first
      | ((with_reducible refine gate (N := 13) rfl ?_); refine load_mach rfl _ rfl w.heap.size rfl m hS.out.m2 ?_)
      | ((with_reducible refine gate (N := 15) rfl ?_); refine load_mach rfl _ rfl (w.heap.size + 1) rfl k hS.out.m1 ?_)
      | (go_at_call 68; (with_reducible refine (hcode.out _).mono ?_); rintro e w1 ⟨rfl, hb⟩; replace hS := hid (hS.out.call hb); clear hb hcode)
      | ((with_reducible refine gate (N := 20) rfl ?_); refine build_zero rfl rfl ?_)
      | ((with_reducible refine gateOp (op := .store 31 (.tmp 8) (.tmp 20)) rfl ?_); refine store_mach rfl _ _ rfl (w.heap.size + 1 + 1) rfl ⟨0, 0, fun _ => 0, fun _ => 0⟩ rfl 31 _ hS.out.m0 ?_; intro W3 p2 ho hsz hbl; have pB := hid (hbl _ _ (by omega) hS.out.bel); replace p2 := hid p2; clear ho hsz hbl))
    exact ret_mach_i rfl rfl rfl p2.out rfl ⟨by rw [hzs.out], pB.out⟩
  · rw [posAns_0 g g' h]
    rw [h] at hcode
    have hma := hid (fun W => l07Product_any W m k l s s' g g' q r hq hr)
    have hN := hid (fun L W (h : St w.heap.size w L W) => h.newMB ⟨0, 0, fun _ => 0, fun _ => 0⟩ 31)
    have hcs := from_cases (prodT m k l s s') (q * s' + r)
    replace hkm := hid hkm; replace hkk := hid hkk; clear h g g'
    generalize fromC (prodT m k l s s') (q * s' + r) = fc at *
    generalize fromM (prodT m k l s s') (q * s' + r) = fm at *
    generalize fromB (prodT m k l s s') (q * s' + r) = fb at *
    rcases hcs with ⟨rfl, rfl⟩ | ⟨rfl, rfl, rfl⟩
    · generalize mcells ⟨0, 0, fun _ => 0, fun _ => 0⟩ = zs at *
      go_enter Try.func41, Try.ntmps41
      go_wp2_with (first
        | ((with_reducible refine gate (N := 13) rfl ?_); refine load_mach rfl _ rfl w.heap.size rfl m hS.out.m2 ?_)
        | ((with_reducible refine gate (N := 15) rfl ?_); refine load_mach rfl _ rfl (w.heap.size + 1) rfl k hS.out.m1 ?_)
        | (go_at_call 68; (with_reducible refine (hcode.out _).mono ?_); rintro e w1 ⟨rfl, hb⟩; replace hS := hid (hS.out.call hb); clear hb hcode)
        | ((with_reducible refine gate (N := 23) rfl ?_); refine load_mach rfl _ rfl w.heap.size rfl m hS.out.m2 ?_)
        | ((with_reducible refine gate (N := 25) rfl ?_); refine load_mach rfl _ rfl (w.heap.size + 1) rfl k hS.out.m1 ?_)
        | (go_at_call 73; (with_reducible refine (hma.out _).mono ?_); rintro e w2 ⟨rfl, hb⟩; have hle2 := hid (hS.out.call hb).le; replace hS := hid (hN.out _ _ (hS.out.call hb)); clear hb hma)
        | ((with_reducible refine gateOp (op := .store 31 (.tmp 11) (.tmp 28)) rfl ?_); refine store_mach rfl _ _ rfl w2.heap.size rfl fm rfl 31 _ hS.out.m0 ?_; intro W1 p3 ho hsz hbl; replace hS := hid (hS.out.setM hle2.out p3 ho hbl); clear p3 ho hsz hbl)
        | ((with_reducible refine gate (N := 33) rfl ?_); refine load_mach rfl _ rfl w2.heap.size rfl fm hS.out.m0 ?_)
        | ((with_reducible refine gateOp (op := .store 31 (.tmp 8) (.tmp 33)) rfl ?_); refine store_mach rfl _ _ rfl (w.heap.size + 1 + 1) rfl fm rfl 31 _ hS.out.m1 ?_; intro W3 p2 ho hsz hbl; have pB := hid (hbl _ _ (by omega) hS.out.bel); replace p2 := hid p2; clear ho hsz hbl))
      exact ret_mach_i rfl rfl rfl p2.out rfl ⟨rfl, pB.out⟩
    · generalize hzs : mcells ⟨0, 0, fun _ => 0, fun _ => 0⟩ = zs at *
      replace hzs := hid hzs
      go_enter Try.func41, Try.ntmps41
      go_wp2_with (first
        | ((with_reducible refine gate (N := 13) rfl ?_); refine load_mach rfl _ rfl w.heap.size rfl m hS.out.m2 ?_)
        | ((with_reducible refine gate (N := 15) rfl ?_); refine load_mach rfl _ rfl (w.heap.size + 1) rfl k hS.out.m1 ?_)
        | (go_at_call 68; (with_reducible refine (hcode.out _).mono ?_); rintro e w1 ⟨rfl, hb⟩; replace hS := hid (hS.out.call hb); clear hb hcode)
        | ((with_reducible refine gate (N := 23) rfl ?_); refine load_mach rfl _ rfl w.heap.size rfl m hS.out.m2 ?_)
        | ((with_reducible refine gate (N := 25) rfl ?_); refine load_mach rfl _ rfl (w.heap.size + 1) rfl k hS.out.m1 ?_)
        | (go_at_call 73; (with_reducible refine (hma.out _).mono ?_); rintro e w2 ⟨rfl, hb⟩; have hle2 := hid (hS.out.call hb).le; replace hS := hid (hN.out _ _ (hS.out.call hb)); clear hb hma)
        | ((with_reducible refine gateOp (op := .store 31 (.tmp 11) (.tmp 28)) rfl ?_); refine store_mach rfl _ _ rfl w2.heap.size rfl ⟨0, 0, fun _ => 0, fun _ => 0⟩ (by rw [hzs.out]; rfl) 31 _ hS.out.m0 ?_; intro W1 p3 ho hsz hbl; replace hS := hid (hS.out.setM hle2.out p3 ho hbl); clear p3 ho hsz hbl)
        | ((with_reducible refine gate (N := 32) rfl ?_); refine build_zero rfl rfl ?_)
        | ((with_reducible refine gateOp (op := .store 31 (.tmp 8) (.tmp 32)) rfl ?_); refine store_mach rfl _ _ rfl (w.heap.size + 1 + 1) rfl ⟨0, 0, fun _ => 0, fun _ => 0⟩ rfl 31 _ hS.out.m1 ?_; intro W3 p2 ho hsz hbl; have pB := hid (hbl _ _ (by omega) hS.out.bel); replace p2 := hid p2; clear ho hsz hbl))
      exact ret_mach_i rfl rfl rfl p2.out rfl ⟨by rw [hzs.out], pB.out⟩
set_option maxHeartbeats 4000000 in
set_option maxRecDepth 100000 in
theorem implPos_any (w : World) (m : Mach) (hkm : m.Ok) (q : Int) (k : Mach) (hkk : k.Ok) (r : Int) :
    Calls Try.prog 42 #[.agg (mcells m), .int .i64 q, .agg (mcells k), .int .i64 r] w fun e w' => e = .returned (.tuple #[.agg (mcells (posAns m q k r).1), .int .i64 (posAns m q k r).2]) ∧ Below w.heap.size w w' := by
  have hz := zero_mach
  have hS := hid ((((St.start w).newMB m 31).newMB k 31).newMB ⟨0, 0, fun _ => 0, fun _ => 0⟩ 31)
  simp only [heap_alloc_size] at hS
  have hcode := hid (fun W => pairCode_any W m hkm q k hkk r)
  rcases pairI_cases m q k r with ⟨h, _⟩ | h | ⟨l, s, s', q, r, g, g', rfl, hq, rfl, hr, h⟩
  · rw [posAns_n h (by decide)]
    rw [h] at hcode
    replace hkm := hid hkm; replace hkk := hid hkk; clear h
    generalize hzs : mcells ⟨0, 0, fun _ => 0, fun _ => 0⟩ = zs at *
    replace hzs := hid hzs
    go_enter Try.func42, Try.ntmps42
    go_wp2_with (first
      | ((with_reducible refine gate (N := 11) rfl ?_); refine load_mach rfl _ rfl w.heap.size rfl m hS.out.m2 ?_)
      | ((with_reducible refine gate (N := 13) rfl ?_); refine load_mach rfl _ rfl (w.heap.size + 1) rfl k hS.out.m1 ?_)
      | (go_at_call 70; (with_reducible refine (hcode.out _).mono ?_); rintro e w1 ⟨rfl, hb⟩; replace hS := hid (hS.out.call hb); clear hb hcode)
      | ((with_reducible refine gate (N := 18) rfl ?_); refine build_zero rfl rfl ?_)
      | ((with_reducible refine gateOp (op := .store 31 (.tmp 8) (.tmp 18)) rfl ?_); refine store_mach rfl _ _ rfl (w.heap.size + 1 + 1) rfl ⟨0, 0, fun _ => 0, fun _ => 0⟩ rfl 31 _ hS.out.m0 ?_; intro W3 p2 ho hsz hbl; have pB := hid (hbl _ _ (by omega) hS.out.bel); replace p2 := hid p2; clear ho hsz hbl))
    exact ret_mach_i rfl rfl rfl p2.out rfl ⟨by rw [hzs.out], pB.out⟩
  · rw [posAns_n h (by decide)]
    rw [h] at hcode
    replace hkm := hid hkm; replace hkk := hid hkk; clear h
    generalize hzs : mcells ⟨0, 0, fun _ => 0, fun _ => 0⟩ = zs at *
    replace hzs := hid hzs
    go_enter Try.func42, Try.ntmps42
    go_wp2_with (first
      | ((with_reducible refine gate (N := 11) rfl ?_); refine load_mach rfl _ rfl w.heap.size rfl m hS.out.m2 ?_)
      | ((with_reducible refine gate (N := 13) rfl ?_); refine load_mach rfl _ rfl (w.heap.size + 1) rfl k hS.out.m1 ?_)
      | (go_at_call 70; (with_reducible refine (hcode.out _).mono ?_); rintro e w1 ⟨rfl, hb⟩; replace hS := hid (hS.out.call hb); clear hb hcode)
      | ((with_reducible refine gate (N := 18) rfl ?_); refine build_zero rfl rfl ?_)
      | ((with_reducible refine gateOp (op := .store 31 (.tmp 8) (.tmp 18)) rfl ?_); refine store_mach rfl _ _ rfl (w.heap.size + 1 + 1) rfl ⟨0, 0, fun _ => 0, fun _ => 0⟩ rfl 31 _ hS.out.m0 ?_; intro W3 p2 ho hsz hbl; have pB := hid (hbl _ _ (by omega) hS.out.bel); replace p2 := hid p2; clear ho hsz hbl))
    exact ret_mach_i rfl rfl rfl p2.out rfl ⟨by rw [hzs.out], pB.out⟩
  · rw [posAns_0 g g' h]
    rw [h] at hcode
    have hma := hid (fun W hm hk => product_any w.heap.size (w.heap.size + 1) W m k hm hk l s s' g g' q r hq hr)
    replace hkm := hid hkm; replace hkk := hid hkk; clear h g g'
    generalize fromC (prodT m k l s s') (q * s' + r) = fc at *
    generalize fromM (prodT m k l s s') (q * s' + r) = fm at *
    generalize mcells ⟨0, 0, fun _ => 0, fun _ => 0⟩ = zs at *
    go_enter Try.func42, Try.ntmps42
    go_wp2_with (first
      | ((with_reducible refine gate (N := 11) rfl ?_); refine load_mach rfl _ rfl w.heap.size rfl m hS.out.m2 ?_)
      | ((with_reducible refine gate (N := 13) rfl ?_); refine load_mach rfl _ rfl (w.heap.size + 1) rfl k hS.out.m1 ?_)
      | (go_at_call 70; (with_reducible refine (hcode.out _).mono ?_); rintro e w1 ⟨rfl, hb⟩; replace hS := hid (hS.out.call hb); clear hb hcode)
      | (go_at_call 74; (with_reducible refine (hma.out _ hS.out.m2 hS.out.m1).mono ?_); rintro e w1 ⟨rfl, hb⟩; replace hS := hid (hS.out.call hb); clear hb hma)
      | ((with_reducible refine gateOp (op := .store 31 (.tmp 8) (.tmp 23)) rfl ?_); refine store_mach rfl _ _ rfl (w.heap.size + 1 + 1) rfl fm rfl 31 _ hS.out.m0 ?_; intro W3 p2 ho hsz hbl; have pB := hid (hbl _ _ (by omega) hS.out.bel); replace p2 := hid p2; clear ho hsz hbl))
    exact ret_mach_i rfl rfl rfl p2.out rfl ⟨rfl, pB.out⟩
end Go.Proofs.Ytapbcfnlcnboeaa
