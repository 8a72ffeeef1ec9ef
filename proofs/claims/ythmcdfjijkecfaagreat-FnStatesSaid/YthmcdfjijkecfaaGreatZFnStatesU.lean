/- What the proof of FnStates leans on, part 21 of 29. -/
import Derived.Test.YthmcdfjijkecfaaGreatZFnStatesT
/- ProductOfStates: what the program and the reference answer. -/
namespace Go.Proofs.YthmcdfjijkecfaaGreat
open Go.RowKit
set_option linter.unusedVariables false
set_option linter.unusedSimpArgs false

open Classical in
/-- What ProductOfStates answers. -/
noncomputable def posAns (m : Mach) (q : Int) (k : Mach) (r : Int) : Mach × Int := if pairI m q k r = 0 then (fromM (prodT m k m.L.toNat m.S.toNat k.S.toNat) (q.toNat * k.S.toNat + r.toNat), fromC (prodT m k m.L.toNat m.S.toNat k.S.toNat) (q.toNat * k.S.toNat + r.toNat)) else (⟨0, 0, fun _ => 0, fun _ => 0⟩, pairI m q k r)
theorem posAns_0 {m k : Mach} {l s s' q r : Nat} (g : Good m l s) (g' : Good k l s') (h : pairI m q k r = 0) : posAns m q k r = (fromM (prodT m k l s s') (q * s' + r), fromC (prodT m k l s s') (q * s' + r)) := by
  unfold posAns; rw [if_pos h, g.L, g.S, g'.S]; rfl
theorem posAns_n {m : Mach} {q : Int} {k : Mach} {r c : Int} (h : pairI m q k r = c) (hc : c ≠ 0) : posAns m q k r = (⟨0, 0, fun _ => 0, fun _ => 0⟩, c) := by
  unfold posAns; rw [h, if_neg hc]
theorem from_cases (T : Tab) (q : Nat) : (fromB T q = true ∧ fromC T q = 0) ∨ (fromB T q = false ∧ fromC T q = 3 ∧ fromM T q = ⟨0, 0, fun _ => 0, fun _ => 0⟩) := by
  unfold fromB fromC fromM
  by_cases h : (fin T (fix T) q).length ≤ 16
  · exact .inl ⟨decide_eq_true h, if_pos h⟩
  · exact .inr ⟨decide_eq_false h, if_neg h, if_neg h⟩

set_option maxHeartbeats 4000000 in
set_option maxRecDepth 100000 in
theorem specPos_any (w : World) (m : Mach) (hkm : m.Ok) (q : Int) (k : Mach) (hkk : k.Ok) (r : Int) :
    Calls Tryz.prog 11 #[.agg (mcells m), .int .i64 q, .agg (mcells k), .int .i64 r] w fun e w' => e = .returned (.tuple #[.agg (mcells (posAns m q k r).1), .int .i64 (posAns m q k r).2]) ∧ Below w.heap.size w w' := by
  have hz := zero_mach
  have hS := hid ((((St.start w).newMB m 27).newMB k 27).newMB ⟨0, 0, fun _ => 0, fun _ => 0⟩ 27)
  simp only [heap_alloc_size] at hS
  have hcode := hid (fun W => l07Both_any W m hkm q k hkk r)
  rcases pairI_cases m q k r with ⟨h, _⟩ | h | ⟨l, s, s', q, r, g, g', rfl, hq, rfl, hr, h⟩
  · rw [posAns_n h (by decide)]
    rw [h] at hcode
    replace hkm := hid hkm; replace hkk := hid hkk; clear h
    generalize hzs : mcells ⟨0, 0, fun _ => 0, fun _ => 0⟩ = zs at *
    replace hzs := hid hzs
    go_enter Tryz.func11, Tryz.ntmps11
    go_wp2_with (first
      | ((with_reducible refine gate (N := 13) rfl ?_); refine load_mach rfl _ rfl w.heap.size rfl m hS.out.m2 ?_)
      | ((with_reducible refine gate (N := 15) rfl ?_); refine load_mach rfl _ rfl (w.heap.size + 1) rfl k hS.out.m1 ?_)
      | (go_at_call 83; (with_reducible refine (hcode.out _).mono ?_); rintro e w1 ⟨rfl, hb⟩; replace hS := hid (hS.out.call hb); clear hb hcode)
      | ((with_reducible refine gate (N := 20) rfl ?_); refine build_zero rfl rfl ?_)
      | ((with_reducible refine gateOp (op := .store 27 (.tmp 8) (.tmp 20)) rfl ?_); refine store_mach rfl _ _ rfl (w.heap.size + 1 + 1) rfl ⟨0, 0, fun _ => 0, fun _ => 0⟩ rfl 27 _ hS.out.m0 ?_; intro W3 p2 ho hsz hbl; have pB := hid (hbl _ _ (by omega) hS.out.bel); replace p2 := hid p2; clear ho hsz hbl))
    exact ret_mach_i rfl rfl rfl p2.out rfl ⟨by rw [hzs.out], pB.out⟩
  · rw [posAns_n h (by decide)]
    rw [h] at hcode
    replace hkm := hid hkm; replace hkk := hid hkk; clear h
    generalize hzs : mcells ⟨0, 0, fun _ => 0, fun _ => 0⟩ = zs at *
    replace hzs := hid hzs
    go_enter Tryz.func11, Tryz.ntmps11
    go_wp2_with (first
      | ((with_reducible refine gate (N := 13) rfl ?_); refine load_mach rfl _ rfl w.heap.size rfl m hS.out.m2 ?_)
      | ((with_reducible refine gate (N := 15) rfl ?_); refine load_mach rfl _ rfl (w.heap.size + 1) rfl k hS.out.m1 ?_)
      | (go_at_call 83; (with_reducible refine (hcode.out _).mono ?_); rintro e w1 ⟨rfl, hb⟩; replace hS := hid (hS.out.call hb); clear hb hcode)
      | ((with_reducible refine gate (N := 20) rfl ?_); refine build_zero rfl rfl ?_)
      | ((with_reducible refine gateOp (op := .store 27 (.tmp 8) (.tmp 20)) rfl ?_); refine store_mach rfl _ _ rfl (w.heap.size + 1 + 1) rfl ⟨0, 0, fun _ => 0, fun _ => 0⟩ rfl 27 _ hS.out.m0 ?_; intro W3 p2 ho hsz hbl; have pB := hid (hbl _ _ (by omega) hS.out.bel); replace p2 := hid p2; clear ho hsz hbl))
    exact ret_mach_i rfl rfl rfl p2.out rfl ⟨by rw [hzs.out], pB.out⟩
  · rw [posAns_0 g g' h]
    rw [h] at hcode
    have hma := hid (fun W => l07Product_any W m k l s s' g g' q r hq hr)
    have hN := hid (fun L W (h : St w.heap.size w L W) => h.newMB ⟨0, 0, fun _ => 0, fun _ => 0⟩ 27)
    have hcs := from_cases (prodT m k l s s') (q * s' + r)
    replace hkm := hid hkm; replace hkk := hid hkk; clear h g g'
    generalize fromC (prodT m k l s s') (q * s' + r) = fc at *
    generalize fromM (prodT m k l s s') (q * s' + r) = fm at *
    generalize fromB (prodT m k l s s') (q * s' + r) = fb at *
    rcases hcs with ⟨rfl, rfl⟩ | ⟨rfl, rfl, rfl⟩
    · generalize mcells ⟨0, 0, fun _ => 0, fun _ => 0⟩ = zs at *
      go_enter Tryz.func11, Tryz.ntmps11
      go_wp2_with (first
        | ((with_reducible refine gate (N := 13) rfl ?_); refine load_mach rfl _ rfl w.heap.size rfl m hS.out.m2 ?_)
        | ((with_reducible refine gate (N := 15) rfl ?_); refine load_mach rfl _ rfl (w.heap.size + 1) rfl k hS.out.m1 ?_)
        | (go_at_call 83; (with_reducible refine (hcode.out _).mono ?_); rintro e w1 ⟨rfl, hb⟩; replace hS := hid (hS.out.call hb); clear hb hcode)
        | ((with_reducible refine gate (N := 23) rfl ?_); refine load_mach rfl _ rfl w.heap.size rfl m hS.out.m2 ?_)
        | ((with_reducible refine gate (N := 25) rfl ?_); refine load_mach rfl _ rfl (w.heap.size + 1) rfl k hS.out.m1 ?_)
        | (go_at_call 84; (with_reducible refine (hma.out _).mono ?_); rintro e w2 ⟨rfl, hb⟩; have hle2 := hid (hS.out.call hb).le; replace hS := hid (hN.out _ _ (hS.out.call hb)); clear hb hma)
        | ((with_reducible refine gateOp (op := .store 27 (.tmp 11) (.tmp 28)) rfl ?_); refine store_mach rfl _ _ rfl w2.heap.size rfl fm rfl 27 _ hS.out.m0 ?_; intro W1 p3 ho hsz hbl; replace hS := hid (hS.out.setM hle2.out p3 ho hbl); clear p3 ho hsz hbl)
        | ((with_reducible refine gate (N := 33) rfl ?_); refine load_mach rfl _ rfl w2.heap.size rfl fm hS.out.m0 ?_)
        | ((with_reducible refine gateOp (op := .store 27 (.tmp 8) (.tmp 33)) rfl ?_); refine store_mach rfl _ _ rfl (w.heap.size + 1 + 1) rfl fm rfl 27 _ hS.out.m1 ?_; intro W3 p2 ho hsz hbl; have pB := hid (hbl _ _ (by omega) hS.out.bel); replace p2 := hid p2; clear ho hsz hbl))
      exact ret_mach_i rfl rfl rfl p2.out rfl ⟨rfl, pB.out⟩
    · generalize hzs : mcells ⟨0, 0, fun _ => 0, fun _ => 0⟩ = zs at *
      replace hzs := hid hzs
      go_enter Tryz.func11, Tryz.ntmps11
      go_wp2_with (first
        | ((with_reducible refine gate (N := 13) rfl ?_); refine load_mach rfl _ rfl w.heap.size rfl m hS.out.m2 ?_)
        | ((with_reducible refine gate (N := 15) rfl ?_); refine load_mach rfl _ rfl (w.heap.size + 1) rfl k hS.out.m1 ?_)
        | (go_at_call 83; (with_reducible refine (hcode.out _).mono ?_); rintro e w1 ⟨rfl, hb⟩; replace hS := hid (hS.out.call hb); clear hb hcode)
        | ((with_reducible refine gate (N := 23) rfl ?_); refine load_mach rfl _ rfl w.heap.size rfl m hS.out.m2 ?_)
        | ((with_reducible refine gate (N := 25) rfl ?_); refine load_mach rfl _ rfl (w.heap.size + 1) rfl k hS.out.m1 ?_)
        | (go_at_call 84; (with_reducible refine (hma.out _).mono ?_); rintro e w2 ⟨rfl, hb⟩; have hle2 := hid (hS.out.call hb).le; replace hS := hid (hN.out _ _ (hS.out.call hb)); clear hb hma)
        | ((with_reducible refine gateOp (op := .store 27 (.tmp 11) (.tmp 28)) rfl ?_); refine store_mach rfl _ _ rfl w2.heap.size rfl ⟨0, 0, fun _ => 0, fun _ => 0⟩ (by rw [hzs.out]; rfl) 27 _ hS.out.m0 ?_; intro W1 p3 ho hsz hbl; replace hS := hid (hS.out.setM hle2.out p3 ho hbl); clear p3 ho hsz hbl)
        | ((with_reducible refine gate (N := 32) rfl ?_); refine build_zero rfl rfl ?_)
        | ((with_reducible refine gateOp (op := .store 27 (.tmp 8) (.tmp 32)) rfl ?_); refine store_mach rfl _ _ rfl (w.heap.size + 1 + 1) rfl ⟨0, 0, fun _ => 0, fun _ => 0⟩ rfl 27 _ hS.out.m1 ?_; intro W3 p2 ho hsz hbl; have pB := hid (hbl _ _ (by omega) hS.out.bel); replace p2 := hid p2; clear ho hsz hbl))
      exact ret_mach_i rfl rfl rfl p2.out rfl ⟨by rw [hzs.out], pB.out⟩
set_option maxHeartbeats 4000000 in
set_option maxRecDepth 100000 in
theorem implPos_any (w : World) (m : Mach) (hkm : m.Ok) (q : Int) (k : Mach) (hkk : k.Ok) (r : Int) :
    Calls Tryz.prog 10 #[.agg (mcells m), .int .i64 q, .agg (mcells k), .int .i64 r] w fun e w' => e = .returned (.tuple #[.agg (mcells (posAns m q k r).1), .int .i64 (posAns m q k r).2]) ∧ Below w.heap.size w w' := by
  have hz := zero_mach
  have hS := hid ((((St.start w).newMB m 27).newMB k 27).newMB ⟨0, 0, fun _ => 0, fun _ => 0⟩ 27)
  simp only [heap_alloc_size] at hS
  have hcode := hid (fun W => pairCode_any W m hkm q k hkk r)
  rcases pairI_cases m q k r with ⟨h, _⟩ | h | ⟨l, s, s', q, r, g, g', rfl, hq, rfl, hr, h⟩
  · rw [posAns_n h (by decide)]
    rw [h] at hcode
    replace hkm := hid hkm; replace hkk := hid hkk; clear h
    generalize hzs : mcells ⟨0, 0, fun _ => 0, fun _ => 0⟩ = zs at *
    replace hzs := hid hzs
    go_enter Tryz.func10, Tryz.ntmps10
    go_wp2_with (first
      | ((with_reducible refine gate (N := 11) rfl ?_); refine load_mach rfl _ rfl w.heap.size rfl m hS.out.m2 ?_)
      | ((with_reducible refine gate (N := 13) rfl ?_); refine load_mach rfl _ rfl (w.heap.size + 1) rfl k hS.out.m1 ?_)
      | (go_at_call 81; (with_reducible refine (hcode.out _).mono ?_); rintro e w1 ⟨rfl, hb⟩; replace hS := hid (hS.out.call hb); clear hb hcode)
      | ((with_reducible refine gate (N := 18) rfl ?_); refine build_zero rfl rfl ?_)
      | ((with_reducible refine gateOp (op := .store 27 (.tmp 8) (.tmp 18)) rfl ?_); refine store_mach rfl _ _ rfl (w.heap.size + 1 + 1) rfl ⟨0, 0, fun _ => 0, fun _ => 0⟩ rfl 27 _ hS.out.m0 ?_; intro W3 p2 ho hsz hbl; have pB := hid (hbl _ _ (by omega) hS.out.bel); replace p2 := hid p2; clear ho hsz hbl))
    exact ret_mach_i rfl rfl rfl p2.out rfl ⟨by rw [hzs.out], pB.out⟩
  · rw [posAns_n h (by decide)]
    rw [h] at hcode
    replace hkm := hid hkm; replace hkk := hid hkk; clear h
    generalize hzs : mcells ⟨0, 0, fun _ => 0, fun _ => 0⟩ = zs at *
    replace hzs := hid hzs
    go_enter Tryz.func10, Tryz.ntmps10
    go_wp2_with (first
      | ((with_reducible refine gate (N := 11) rfl ?_); refine load_mach rfl _ rfl w.heap.size rfl m hS.out.m2 ?_)
      | ((with_reducible refine gate (N := 13) rfl ?_); refine load_mach rfl _ rfl (w.heap.size + 1) rfl k hS.out.m1 ?_)
      | (go_at_call 81; (with_reducible refine (hcode.out _).mono ?_); rintro e w1 ⟨rfl, hb⟩; replace hS := hid (hS.out.call hb); clear hb hcode)
      | ((with_reducible refine gate (N := 18) rfl ?_); refine build_zero rfl rfl ?_)
      | ((with_reducible refine gateOp (op := .store 27 (.tmp 8) (.tmp 18)) rfl ?_); refine store_mach rfl _ _ rfl (w.heap.size + 1 + 1) rfl ⟨0, 0, fun _ => 0, fun _ => 0⟩ rfl 27 _ hS.out.m0 ?_; intro W3 p2 ho hsz hbl; have pB := hid (hbl _ _ (by omega) hS.out.bel); replace p2 := hid p2; clear ho hsz hbl))
    exact ret_mach_i rfl rfl rfl p2.out rfl ⟨by rw [hzs.out], pB.out⟩
  · rw [posAns_0 g g' h]
    rw [h] at hcode
    have hma := hid (fun W hm hk => product_any w.heap.size (w.heap.size + 1) W m k hm hk l s s' g g' q r hq hr)
    replace hkm := hid hkm; replace hkk := hid hkk; clear h g g'
    generalize fromC (prodT m k l s s') (q * s' + r) = fc at *
    generalize fromM (prodT m k l s s') (q * s' + r) = fm at *
    generalize mcells ⟨0, 0, fun _ => 0, fun _ => 0⟩ = zs at *
    go_enter Tryz.func10, Tryz.ntmps10
    go_wp2_with (first
      | ((with_reducible refine gate (N := 11) rfl ?_); refine load_mach rfl _ rfl w.heap.size rfl m hS.out.m2 ?_)
      | ((with_reducible refine gate (N := 13) rfl ?_); refine load_mach rfl _ rfl (w.heap.size + 1) rfl k hS.out.m1 ?_)
      | (go_at_call 81; (with_reducible refine (hcode.out _).mono ?_); rintro e w1 ⟨rfl, hb⟩; replace hS := hid (hS.out.call hb); clear hb hcode)
      | (go_at_call 82; (with_reducible refine (hma.out _ hS.out.m2 hS.out.m1).mono ?_); rintro e w1 ⟨rfl, hb⟩; replace hS := hid (hS.out.call hb); clear hb hma)
      | ((with_reducible refine gateOp (op := .store 27 (.tmp 8) (.tmp 23)) rfl ?_); refine store_mach rfl _ _ rfl (w.heap.size + 1 + 1) rfl fm rfl 27 _ hS.out.m0 ?_; intro W3 p2 ho hsz hbl; have pB := hid (hbl _ _ (by omega) hS.out.bel); replace p2 := hid p2; clear ho hsz hbl))
    exact ret_mach_i rfl rfl rfl p2.out rfl ⟨rfl, pB.out⟩
end Go.Proofs.YthmcdfjijkecfaaGreat

/- OrderByPowers: what the program and the reference answer. -/
namespace Go.Proofs.YthmcdfjijkecfaaGreat
open Go.RowKit
set_option linter.unusedVariables false
set_option linter.unusedSimpArgs false

/-- The next power, and its code. -/
def nextM (m : Mach) (l s q : Nat) (now : Mach) : Mach := fromM (prodT now m l now.S.toNat s) (0 * s + q)
def nextC (m : Mach) (l s q : Nat) (now : Mach) : Int := fromC (prodT now m l now.S.toNat s) (0 * s + q)
open Classical in
/-- The search. -/
noncomputable def ordGo (m : Mach) (l s q : Nat) : Nat → Nat → Mach → Int × Int
  | 0, _, _ => (0, 4)
  | f + 1, k, now => if nextC m l s q now = 0 then (if mcells (nextM m l s q now) = mcells (trivM l) then ((k : Int), 0) else ordGo m l s q f (k + 1) (nextM m l s q now)) else (0, 3)
open Classical in
noncomputable def obpAns (m : Mach) (q n : Int) : Int × Int :=
  if codeI m { data := #[] } [q] = 0 then (if 1 ≤ n ∧ n ≤ 16 then ordGo m m.L.toNat m.S.toNat q.toNat n.toNat 1 (trivM m.L.toNat) else (0, 2)) else (0, codeI m { data := #[] } [q])
theorem obpAns_n {m : Mach} {q n c : Int} (h : codeI m { data := #[] } [q] = c) (hc : c ≠ 0) : obpAns m q n = (0, c) := by
  unfold obpAns; rw [h, if_neg hc]
theorem obpAns_r {m : Mach} {q n : Int} (h : codeI m { data := #[] } [q] = 0) (hn : ¬ (1 ≤ n ∧ n ≤ 16)) : obpAns m q n = (0, 2) := by
  unfold obpAns; rw [h, if_pos rfl, if_neg hn]
theorem obpAns_0 {m : Mach} {l s q : Nat} {n : Nat} (g : Good m l s) (h : codeI m { data := #[] } [(q : Int)] = 0) (hn : 1 ≤ n ∧ n ≤ 16) : obpAns m q n = ordGo m l s q n 1 (trivM l) := by
  unfold obpAns; rw [h, if_pos rfl, if_pos (by omega), g.L, g.S]; rfl
theorem next_cases (m : Mach) (l s q : Nat) (hq : q < s) (g : Good m l s) (now : Mach) (sN : Nat) (gN : Good now l sN) :
    (nextC m l s q now = 3 ∧ fromB (prodT now m l sN s) (0 * s + q) = false) ∨ (nextC m l s q now = 0 ∧ fromB (prodT now m l sN s) (0 * s + q) = true ∧ ∃ s2, Good (nextM m l s q now) l s2 ∧ (nextM m l s q now).Ok) := by
  have e : now.S.toNat = sN := by rw [gN.S]; rfl
  have hin := prod_in (s' := s) (show 0 < sN from gN.s1) hq
  rcases from_cases (prodT now m l sN s) (0 * s + q) with ⟨h1, h2⟩ | ⟨h1, h2, _⟩
  · refine .inr ⟨by unfold nextC; rw [e]; exact h2, h1, ?_⟩
    obtain ⟨s2, g2⟩ := fromM_good (prod_ok gN g) hin g.l2 g.l3 (prod_o gN g) (prod_inj gN g) h2
    exact ⟨s2, by unfold nextM; rw [e]; exact g2, by unfold nextM; rw [e]; exact fromM_ok (prod_ok gN g) hin (prod_o256 gN g)⟩
  · exact .inl ⟨by unfold nextC; rw [e]; exact h2, h1⟩
theorem next_M (m : Mach) (l s q : Nat) (now : Mach) (sN : Nat) (gN : Good now l sN) : fromM (prodT now m l sN s) (0 * s + q) = nextM m l s q now ∧ fromC (prodT now m l sN s) (0 * s + q) = nextC m l s q now := by
  have e : now.S.toNat = sN := by rw [gN.S]; rfl
  unfold nextM nextC; rw [e]; exact ⟨rfl, rfl⟩
open Classical in
theorem eq_triv (m : Mach) (l s2 : Nat) (g : Good m l s2) (hk : m.Ok) : ∃ b : Bool, Hid (b = true ↔ mcells m = mcells (trivM l)) ∧ ∀ W : World, (Op.equalIn 10000 27 (.agg (mcells m)) (.agg (mcells (trivM l)))).run Tryz.prog W = .ok b W := by
  have l3 := g.l3; have s16 := g.s16
  exact ⟨_, hid decide_eq_true_iff, fun W => eq_mach W m (trivM l) hk (trivM_ok l l3) l s2 l 1 g.L g.S rfl rfl (by omega) (by omega) (by omega) (by omega) _ decide_eq_true_iff⟩
theorem ordGo_3 {m : Mach} {l s q f k : Nat} {now : Mach} (h : nextC m l s q now = 3) : ordGo m l s q (f + 1) k now = (0, 3) := by
  unfold ordGo; rw [h, if_neg (by decide)]
theorem ordGo_t {m : Mach} {l s q f k : Nat} {now : Mach} (h : nextC m l s q now = 0) (he : mcells (nextM m l s q now) = mcells (trivM l)) : ordGo m l s q (f + 1) k now = ((k : Int), 0) := by
  unfold ordGo; rw [if_pos h, if_pos he]
theorem ordGo_n {m : Mach} {l s q f k : Nat} {now : Mach} (h : nextC m l s q now = 0) (he : ¬ mcells (nextM m l s q now) = mcells (trivM l)) : ordGo m l s q (f + 1) k now = ordGo m l s q f (k + 1) (nextM m l s q now) := by
  conv => lhs; unfold ordGo
  rw [if_pos h, if_neg he]

end Go.Proofs.YthmcdfjijkecfaaGreat

/- Products of lists of states: the program's productOf. -/
namespace Go.Proofs.YthmcdfjijkecfaaGreat
open Go.RowKit
set_option linter.unusedVariables false
set_option linter.unusedSimpArgs false

/-- The product of a list, from what has been made: fs i is (machine, its states, the state). -/
def chn (fs : Nat → Mach × Nat × Nat) (l : Nat) : Nat → Nat → Mach → Mach × Int
  | 0, _, now => (now, 0)
  | f + 1, i, now => if nextC (fs i).1 l (fs i).2.1 (fs i).2.2 now = 0 then chn fs l f (i + 1) (nextM (fs i).1 l (fs i).2.1 (fs i).2.2 now) else (⟨0, 0, fun _ => 0, fun _ => 0⟩, 3)
theorem chn_3 {fs : Nat → Mach × Nat × Nat} {l f i : Nat} {now : Mach} (h : nextC (fs i).1 l (fs i).2.1 (fs i).2.2 now = 3) : chn fs l (f + 1) i now = (⟨0, 0, fun _ => 0, fun _ => 0⟩, 3) := by
  unfold chn; rw [h, if_neg (by decide)]
theorem chn_0 {fs : Nat → Mach × Nat × Nat} {l f i : Nat} {now : Mach} (h : nextC (fs i).1 l (fs i).2.1 (fs i).2.2 now = 0) : chn fs l (f + 1) i now = chn fs l f (i + 1) (nextM (fs i).1 l (fs i).2.1 (fs i).2.2 now) := by
  conv => lhs; unfold chn
  rw [if_pos h]

end Go.Proofs.YthmcdfjijkecfaaGreat

/- Powers: the reference's l07Power. -/
namespace Go.Proofs.YthmcdfjijkecfaaGreat
open Go.RowKit
set_option linter.unusedVariables false
set_option linter.unusedSimpArgs false

/-- The machine whose powers are made. -/
def powB (m : Mach) (l s : Nat) (n : Int) : Mach := if n < 0 then inv m l s else m
theorem powB_good {m : Mach} {l s : Nat} (g : Good m l s) (n : Int) : Good (powB m l s n) l s := by
  unfold powB; split
  · exact inv_good g
  · exact g
/-- A power. -/
def powR (m : Mach) (l s q : Nat) (n : Int) : Mach × Int := chn (fun _ => (powB m l s n, s, q)) l n.natAbs 0 (trivM l)

end Go.Proofs.YthmcdfjijkecfaaGreat

/- The machine of a text: the reference's l01Read. -/
namespace Go.Proofs.YthmcdfjijkecfaaGreat
open Go.RowKit
set_option linter.unusedVariables false
set_option linter.unusedSimpArgs false
-- @LONG

/-- A text begins like a machine's. -/
def HeadOk (t : ByteArray) : Prop := 2 ≤ t.size ∧ bt t 1 = 58 ∧ (bt t 0 = 50 ∨ bt t 0 = 51)
/-- A part is that of a state. -/
def PartOk (L : Nat) (p : ByteArray) : Prop := p.size = 2 * L ∧ ∀ x, x < L → (48 ≤ bt p (2 * x) ∧ bt p (2 * x) ≤ 50) ∧ 97 ≤ bt p (2 * x + 1) ∧ bt p (2 * x + 1) ≤ 112
def bpt (ps : List ByteArray) (q : Nat) : ByteArray := ps.getD q { data := #[] }
def rdP (L : Nat) (ps : List ByteArray) (q x : Nat) : Mach := filP L ps.length (fun q x => bt (bpt ps q) (2 * x + 1) - 97) (fun q x => bt (bpt ps q) (2 * x) - 48) q x
/-- The machine of parts. -/
def rdM (L : Nat) (ps : List ByteArray) : Mach := rdP L ps ps.length 0
def rdS (t : ByteArray) : List ByteArray := splL (t.extract 2 t.size) 44
open Classical in
/-- What l01Read answers. -/
noncomputable def rdAns (t : ByteArray) : Mach × Bool :=
  if HeadOk t ∧ (rdS t).length ≤ 16 ∧ ∀ p ∈ rdS t, PartOk (bt t 0 - 48) p then (rdM (bt t 0 - 48) (rdS t), decide (IsM (rdM (bt t 0 - 48) (rdS t)))) else (zeroM, false)
theorem rdP_ok (L : Nat) (ps : List ByteArray) (q x : Nat) : (rdP L ps q x).Ok := filP_ok (fun q x => by have := bt_lt (bpt ps q) (2 * x + 1); omega) (fun q x => by have := bt_lt (bpt ps q) (2 * x); omega) q x
theorem zeroM_ok : zeroM.Ok := fun _ => ⟨by show 0 < 256; omega, by show 0 < 256; omega⟩
theorem rdAns_ok (t : ByteArray) : (rdAns t).1.Ok := by
  unfold rdAns; split
  · exact rdP_ok _ _ _ _
  · exact zeroM_ok
open Classical in
set_option maxHeartbeats 4000000 in
set_option maxRecDepth 100000 in
theorem l01Read_any (w : World) (t : ByteArray) (hs : t.size ≤ 100000) :
    Calls Tryz.prog 237 #[.string t] w fun e w' => e = .returned (.tuple #[.agg (mcells (rdAns t).1), .bool (rdAns t).2]) ∧ Below w.heap.size w w' := by
  have hz := zeroM_run
  have hS := hid ((St.start w).newMB zeroM 27)
  by_cases h2 : 2 ≤ t.size
  · have hb1 : (t[1]'(by omega)).toNat = bt t 1 := bt_eq (by omega)
    have hb0 : (t[0]'(by omega)).toNat = bt t 0 := bt_eq (by omega)
    by_cases h58 : bt t 1 = 58
    · by_cases h50 : bt t 0 = 50 ∨ bt t 0 = 51
      · rcases h50 with h50 | h50
        · have hq : bt t 0 - 48 = 2 := by omega
          have h50' : bt t 0 = 50 ∨ bt t 0 = 51 := .inl h50
          rw [h50] at hb0
          have hb0 : (t[0]'(by omega)).toNat = 50 := hb0
          have hH : HeadOk t := ⟨h2, h58, h50'⟩
          have hAf := hid (fun (h : ¬ ((rdS t).length ≤ 16 ∧ ∀ p ∈ rdS t, PartOk 2 p)) => (show rdAns t = (zeroM, false) from by unfold rdAns; rw [if_neg (fun h' => h (by have h3 := h'.2; rw [hq] at h3; exact h3))]))
          have hAt := hid (fun (h16 : (rdS t).length ≤ 16) (hp : ∀ p ∈ rdS t, PartOk 2 p) => (show rdAns t = (rdM 2 (rdS t), decide (IsM (rdM 2 (rdS t)))) from by unfold rdAns; rw [hq, if_pos ⟨hH, h16, hp⟩]))
          have hsp := hid (fun W => l01Split_any W (t.extract 2 t.size) (by rw [ByteArray.size_extract]; omega) 44)
          simp only [show ((44 : Nat) : Int) = 44 from rfl] at hsp
          have hsp' := hid (show splL (t.extract 2 t.size) 44 = rdS t from rfl)
          rw [hsp'.out] at hsp
          have hpl := hid (splL_len (t.extract 2 t.size) 44)
          have hpz := hid (splL_sz (t.extract 2 t.size) 44)
          rw [hsp'.out] at hpl hpz
          have hxz : (t.extract 2 t.size).size ≤ 100000 := by rw [ByteArray.size_extract]; omega
          have d2 : decide ((t.size : Int) < 2) = false := decide_eq_false (by omega)
          have hz2 := hid (fun L W (h : St w.heap.size w L W) => h.newMB zeroM 27)
          have hil := hid (strs_length (rdS t))
          have hpn : 1 ≤ (rdS t).length := hpl.out.2
          have hpm : (rdS t).length ≤ 100001 := by have := hpl.out.1; omega
          rw [h58] at hb1
          clear hsp' h58 hH hq h50'
          generalize rdAns t = ans at *
          generalize rdS t = ps at *
          go_enter Tryz.func237, Tryz.ntmps237
          go_upto_region 5 with (first
            | (go_at_call 262; (with_reducible refine (hsp.out _).mono ?_); rintro e w1 ⟨v, rfl, hO, hb⟩; (obtain ⟨g, c, rfl, _, _⟩ := hO.blk (fun e => by have h1 := congrArg List.length e; rw [hil.out, List.length_nil] at h1; omega)); rw [hil.out] at hO ⊢; have hle2 := hid ((hS.out.call hb).le); replace hS := hid (hz2.out _ _ (hS.out.callOwn hb hO)); clear hb hO hsp)
            | ((with_reducible refine gate (N := 38) rfl ?_); refine build_mach rfl _ _ rfl 2 (ps.length : Int) rfl rfl ?_)
            | ((with_reducible refine gateOp (op := .store 27 (.tmp 5) (.tmp 38)) rfl ?_); refine store_mach rfl _ _ rfl w1.heap.size rfl ⟨2, (ps.length : Int), fun _ => 0, fun _ => 0⟩ rfl 27 _ hS.out.m0 ?_; intro w2 p3 ho hsz hbl; replace hS := hid (hS.out.setM hle2.out p3 ho hbl); clear p3 ho hsz hbl))
          generalize w1.heap.size = b5 at *
          by_cases h16 : ps.length ≤ 16
          · have d16 : decide ((ps.length : Int) > 16) = false := decide_eq_false (by omega)
            replace hS := hid (show St w.heap.size w [Asn.mb 27 b5 (rdP 2 ps 0 0), Asn.own w.heap.size 9 (.slice (some ⟨g, 0, none⟩) ps.length c) (strs ps), Asn.mb 27 w.heap.size zeroM] w2 from by
              rw [show rdP 2 ps 0 0 = ⟨2, (ps.length : Int), fun _ => 0, fun _ => 0⟩ from filP_zero]; exact hS.out)
            go_wp2
            go_loopw [6] (fun i wr => ∃ q : Nat, q ≤ ps.length ∧ i = .int .i64 q ∧ Hid (∀ p ∈ ps.take q, PartOk 2 p) ∧ St w.heap.size w [Asn.mb 27 b5 (rdP 2 ps q 0), Asn.own w.heap.size 9 (.slice (some ⟨g, 0, none⟩) ps.length c) (strs ps), Asn.mb 27 w.heap.size zeroM] wr) (fun i _ => ps.length - (intOf i).toNat)
            case atStart => exact ⟨0, Nat.zero_le _, rfl, hid (fun p hp => by simp at hp), hS.out⟩
            case round =>
              obtain ⟨q, hq, rfl, hpk, rS⟩ := hrel
              clear hS hb0 hb1 d2 d16
              have cL : wr.cell? ⟨b5, 0, none⟩ = some (.int .i64 2) := rS.m0.cL
              replace rS := hid rS
              by_cases hlt : q < ps.length
              · have dq : decide ((q : Int) < (ps.length : Int)) = true := decide_eq_true (by omega)
                obtain ⟨p, hp⟩ : ∃ p, ps[q]? = some p := ⟨_, List.getElem?_eq_getElem hlt⟩
                have cp := rS.out.o1.cellAt q (.string p) (by simp [strs, hp])
                have hpm' := hid (List.mem_of_getElem? hp)
                have hpsz : p.size ≤ 100000 := Nat.le_trans (hpz.out p hpm'.out) hxz
                have hbp := hid (show bpt ps q = p by simp [bpt, List.getD_eq_getElem?_getD, hp])
                have q0 : (0 : Int) ≤ (q : Int) := Int.natCast_nonneg _
                have q1 : (q : Int) < (ps.length : Int) := by omega
                replace hp := hid hp
                by_cases hsz : p.size = 2 * 2
                · have dsz : ((p.size : Int) != 2 * 2) = false := by simp; omega
                  go_upto_region 10 with (fail)
                  go_quiet (fail)
                  replace rS := hid (rS.out.drewN nq)
                  generalize World.drewN wr nq = wx at *
                  clear cp cL dsz
                  go_wp2
                  go_loopw [7] (fun i wr => ∃ x : Nat, x ≤ 2 ∧ i = .int .i64 x ∧ Hid (∀ y, y < x → (48 ≤ bt p (2 * y) ∧ bt p (2 * y) ≤ 50) ∧ 97 ≤ bt p (2 * y + 1) ∧ bt p (2 * y + 1) ≤ 112) ∧ St w.heap.size w [Asn.mb 27 b5 (rdP 2 ps q x), Asn.own w.heap.size 9 (.slice (some ⟨g, 0, none⟩) ps.length c) (strs ps), Asn.mb 27 w.heap.size zeroM] wr) (fun i _ => 2 - (intOf i).toNat)
                  case atStart => exact ⟨0, Nat.zero_le _, rfl, hid (fun y hy => absurd hy (Nat.not_lt_zero y)), rS.out⟩
                  case round =>
                    obtain ⟨x, hx, rfl, hch, rS⟩ := hrel
                    have cL : wr.cell? ⟨b5, 0, none⟩ = some (.int .i64 2) := rS.m0.cL
                    have cp := rS.o1.cellAt q (.string p) (by have h := hp.out; simp [strs, h])
                    replace rS := hid rS
                    by_cases hlx : x < 2
                    · have dx : decide ((x : Int) < 2) = true := decide_eq_true (by omega)
                      have g1 : IntKind.i64.wrap (2 * (x : Int)) = ((2 * x : Nat) : Int) := by rw [IntWalk.i64_in _ (by omega)]; omega
                      have g2 : IntKind.i64.wrap (IntKind.i64.wrap (2 * (x : Int)) + 1) = ((2 * x + 1 : Nat) : Int) := by rw [g1, IntWalk.i64_in _ (by omega)]; omega
                      replace g1 := hid g1; replace g2 := hid g2
                      have k1 : 2 * x < p.size := by omega
                      have k2 : 2 * x + 1 < p.size := by omega
                      go_upto_region 15 with (fail)
                      refine wp_region_quiet_lit (by kernel_rfl) (by kernel_rfl) ?_
                      iterate 6 (quiet_step (fail))
                      refine quiet_idx rfl _ _ _ rfl Tryz.underlying9 p (2 * x) _ rfl rfl g1.out k1 ?_
                      iterate 7 (quiet_step (fail))
                      refine quiet_idx rfl _ _ _ rfl Tryz.underlying9 p (2 * x + 1) _ rfl rfl g2.out k2 ?_
                      iterate 2 (quiet_step (fail))
                      refine wpQuiet_nil ?_
                      rintro _ ⟨nr, rfl⟩
                      replace rS := hid (rS.out.drewN nr)
                      generalize World.drewN wr nr = wy at *
                      have hB1 := bt_lt p (2 * x)
                      have hB2 := bt_lt p (2 * x + 1)
                      have hch2 := hid (fun (h : (48 ≤ bt p (2 * x) ∧ bt p (2 * x) ≤ 50) ∧ 97 ≤ bt p (2 * x + 1) ∧ bt p (2 * x + 1) ≤ 112) y (hy : y < x + 1) => (show (48 ≤ bt p (2 * y) ∧ bt p (2 * y) ≤ 50) ∧ 97 ≤ bt p (2 * y + 1) ∧ bt p (2 * y + 1) ≤ 112 from by
                        by_cases e : y = x
                        · subst e; exact h
                        · exact hch.out y (by omega)))
                      have hno := hid (fun (h : ¬ ((48 ≤ bt p (2 * x) ∧ bt p (2 * x) ≤ 50) ∧ 97 ≤ bt p (2 * x + 1) ∧ bt p (2 * x + 1) ≤ 112)) => hAf.out (fun h' => h ((h'.2 p hpm'.out).2 x hlx)))
                      have hst := hid (filP_step (L := 2) (n := ps.length) (f := fun q x => bt (bpt ps q) (2 * x + 1) - 97) (g := fun q x => bt (bpt ps q) (2 * x) - 48) q x hlx (by omega))
                      simp only [hbp.out] at hst
                      clear cp cL
                      generalize bt p (2 * x) = B1 at *
                      generalize bt p (2 * x + 1) = B2 at *
                      by_cases c1 : 48 ≤ B1
                      · by_cases c2 : B1 ≤ 50
                        · by_cases c3 : 97 ≤ B2
                          · by_cases c4 : B2 ≤ 112
                            · replace hch2 := hid (hch2.out ⟨⟨c1, c2⟩, c3, c4⟩)
                              obtain ⟨y1, rfl⟩ := Nat.exists_eq_add_of_le c1
                              obtain ⟨y2, rfl⟩ := Nat.exists_eq_add_of_le c3
                              have d1 : decide ((48 + (y1 : Int)) < 48) = false := decide_eq_false (by omega)
                              have d2 : decide ((48 + (y1 : Int)) > 50) = false := decide_eq_false (by omega)
                              have d3 : decide ((97 + (y2 : Int)) < 97) = false := decide_eq_false (by omega)
                              have d4 : decide ((97 + (y2 : Int)) > 112) = false := decide_eq_false (by omega)
                              have e1 : 48 + (y1 : Int) - 48 = y1 := by omega
                              have e2 : 97 + (y2 : Int) - 97 = y2 := by omega
                              obtain ⟨vo, co⟩ : ∃ u, wy.cell? ⟨b5, 50 + q * 3 + x, none⟩ = some u := ⟨_, rS.out.m0.cot q x (by omega) (by omega)⟩
                              have fo : wy.frozen? ⟨b5, 50 + q * 3 + x, none⟩ = false := World.rowIs.frozen rS.out.m0 _
                              obtain ⟨vn, cn⟩ : ∃ u, wy.cell? ⟨b5, 2 + q * 3 + x, none⟩ = some u := ⟨_, rS.out.m0.cnx q x (by omega) (by omega)⟩
                              have fn : wy.frozen? ⟨b5, 2 + q * 3 + x, none⟩ = false := World.rowIs.frozen rS.out.m0 _
                              go_wp2
                              go_roundw
                              case rel =>
                                refine ⟨x + 1, by omega, by go_num, hid hch2.out, ?_⟩
                                have e := hst.out
                                rw [Nat.add_sub_cancel_left, Nat.add_sub_cancel_left] at e
                                rw [show rdP 2 ps q (x + 1) = { rdP 2 ps q x with nx := upd (rdP 2 ps q x).nx (q * 3 + x) y2, ot := upd (rdP 2 ps q x).ot (q * 3 + x) y1 } from e]
                                exact (rS.out.setOt hle2.out q x y1 (by omega) (by omega)).setNx hle2.out q x y2 (by omega) (by omega)
                              case measure => simp [intOf]; omega
                            · have hA := hid (hno.out (fun h => by omega))
                              have d1 : decide ((B1 : Int) < 48) = false := decide_eq_false (by omega)
                              have d2 : decide ((B1 : Int) > 50) = false := decide_eq_false (by omega)
                              have d3 : decide ((B2 : Int) < 97) = false := decide_eq_false (by omega)
                              have d4 : decide ((B2 : Int) > 112) = true := decide_eq_true (by omega)
                              go_wp2_with (first
                                | ((with_reducible refine gate (N := 94) rfl ?_); refine build_zero rfl rfl ?_)
                                | ((with_reducible refine gateOp (op := .store 27 (.tmp 2) (.tmp 94)) rfl ?_); refine store_mach rfl _ _ rfl w.heap.size rfl zeroM rfl 27 _ rS.out.m2 ?_; intro W3 p2 ho hsz hbl; have pB := hid (hbl _ _ (Nat.le_refl _) rS.out.bel); replace p2 := hid p2; clear ho hsz hbl))
                              exact ret_mach_v rfl rfl rfl p2.out rfl ⟨by rw [hA.out]; rfl, pB.out⟩
                          · have hA := hid (hno.out (fun h => by omega))
                            have d1 : decide ((B1 : Int) < 48) = false := decide_eq_false (by omega)
                            have d2 : decide ((B1 : Int) > 50) = false := decide_eq_false (by omega)
                            have d3 : decide ((B2 : Int) < 97) = true := decide_eq_true (by omega)
                            go_wp2_with (first
                              | ((with_reducible refine gate (N := 94) rfl ?_); refine build_zero rfl rfl ?_)
                              | ((with_reducible refine gateOp (op := .store 27 (.tmp 2) (.tmp 94)) rfl ?_); refine store_mach rfl _ _ rfl w.heap.size rfl zeroM rfl 27 _ rS.out.m2 ?_; intro W3 p2 ho hsz hbl; have pB := hid (hbl _ _ (Nat.le_refl _) rS.out.bel); replace p2 := hid p2; clear ho hsz hbl))
                            exact ret_mach_v rfl rfl rfl p2.out rfl ⟨by rw [hA.out]; rfl, pB.out⟩
                        · have hA := hid (hno.out (fun h => by omega))
                          have d1 : decide ((B1 : Int) < 48) = false := decide_eq_false (by omega)
                          have d2 : decide ((B1 : Int) > 50) = true := decide_eq_true (by omega)
                          go_wp2_with (first
                            | ((with_reducible refine gate (N := 94) rfl ?_); refine build_zero rfl rfl ?_)
                            | ((with_reducible refine gateOp (op := .store 27 (.tmp 2) (.tmp 94)) rfl ?_); refine store_mach rfl _ _ rfl w.heap.size rfl zeroM rfl 27 _ rS.out.m2 ?_; intro W3 p2 ho hsz hbl; have pB := hid (hbl _ _ (Nat.le_refl _) rS.out.bel); replace p2 := hid p2; clear ho hsz hbl))
                          exact ret_mach_v rfl rfl rfl p2.out rfl ⟨by rw [hA.out]; rfl, pB.out⟩
                      · have hA := hid (hno.out (fun h => by omega))
                        have d1 : decide ((B1 : Int) < 48) = true := decide_eq_true (by omega)
                        go_wp2_with (first
                          | ((with_reducible refine gate (N := 94) rfl ?_); refine build_zero rfl rfl ?_)
                          | ((with_reducible refine gateOp (op := .store 27 (.tmp 2) (.tmp 94)) rfl ?_); refine store_mach rfl _ _ rfl w.heap.size rfl zeroM rfl 27 _ rS.out.m2 ?_; intro W3 p2 ho hsz hbl; have pB := hid (hbl _ _ (Nat.le_refl _) rS.out.bel); replace p2 := hid p2; clear ho hsz hbl))
                        exact ret_mach_v rfl rfl rfl p2.out rfl ⟨by rw [hA.out]; rfl, pB.out⟩
                    · have hxl : x = 2 := by omega
                      subst hxl
                      have hpk2 := hid (show ∀ p' ∈ ps.take (q + 1), PartOk 2 p' from fun p' hp' => by
                        rw [List.take_add_one, hp.out] at hp'
                        rcases List.mem_append.1 hp' with h | h
                        · exact hpk.out p' h
                        · obtain rfl : p' = p := by simpa using h
                          exact ⟨hsz, hch.out⟩)
                      clear cp
                      go_wp2
                      go_roundw
                      case rel => exact ⟨q + 1, by omega, by go_num, hpk2, by rw [show rdP 2 ps (q + 1) 0 = rdP 2 ps q 2 from (filP_row q (by omega)).symm]; exact rS.out⟩
                      case measure => simp [intOf]; omega
                · have dsz : ((p.size : Int) != 2 * 2) = true := by simp; omega
                  have hA := hid (hAf.out (fun h => hsz (h.2 p hpm'.out).1))
                  go_upto_region 10 with (fail)
                  go_quiet (fail)
                  replace rS := hid (rS.out.drewN nq)
                  generalize World.drewN wr nq = wx at *
                  clear cp cL
                  go_wp2_with (first
                    | ((with_reducible refine gate (N := 58) rfl ?_); refine build_zero rfl rfl ?_)
                    | ((with_reducible refine gateOp (op := .store 27 (.tmp 2) (.tmp 58)) rfl ?_); refine store_mach rfl _ _ rfl w.heap.size rfl zeroM rfl 27 _ rS.out.m2 ?_; intro W3 p2 ho hsz hbl; have pB := hid (hbl _ _ (Nat.le_refl _) rS.out.bel); replace p2 := hid p2; clear ho hsz hbl))
                  exact ret_mach_v rfl rfl rfl p2.out rfl ⟨by rw [hA.out]; rfl, pB.out⟩
              · obtain rfl : q = ps.length := by omega
                have hpk3 := hpk.out
                rw [List.take_length] at hpk3
                have hA := hid (hAt.out h16 hpk3)
                have hok := hid (rdP_ok 2 ps ps.length 0)
                have hM := hid (show rdP 2 ps ps.length 0 = rdM 2 ps from rfl)
                rw [hM.out] at rS hok
                have hLS := hid (fun W => l01Is_any W (rdM 2 ps) hok.out (decide (IsM (rdM 2 ps))) decide_eq_true_iff)
                clear hM hpk hpk3 hAf hAt cL
                generalize hrm : rdM 2 ps = M at *
                generalize decide (IsM M) = bM at *
                replace hrm := hid hrm
                go_upto_region 20 with (fail)
                replace rS := hid rS.out.drew
                refine wp_region_heldL (L := [(3, (fun w' : World => MB w' 27 b5 M))]) (by kernel_rfl) (HeldL.cons (fun _ => rS.out.m0) HeldL.nil) (fun hHeld => ?_)
                generalize World.drew wr = wa at *
                refine wpAnyL_takeP (i := 0) 3 [] (v := (.agg (mcells M))) (fun w' : World => MB w' 27 b5 M) rfl (by kernel_rfl) (by kernel_rfl) (by kernel_rfl) (by rfl) (by kernel_rfl) (by simp) (fun _ _ _ h => h) (Or.inl ⟨by rfl, ?_⟩) (by assumption) ?_
                · (intro W hW; exact exec_load _ rfl rfl (load_run hW))
                intro hHeld'
                clear hHeld; have hHeld := hHeld'; clear hHeld'
                try simp only [Act.put, List.getElem_toArray, List.getElem_cons_succ, List.getElem_cons_zero, List.setIfInBounds_toArray, List.set_cons_zero, List.set_cons_succ]
                refine wpAnyL_takeP (i := 1) 3 [2] (v := (.agg (mcells M))) (fun w' : World => MB w' 27 b5 M) rfl (by kernel_rfl) (by kernel_rfl) (by kernel_rfl) (by rfl) (by kernel_rfl) (by simp) (fun _ _ _ h => h) (Or.inl ⟨by rfl, ?_⟩) (by assumption) ?_
                · (intro W hW; exact exec_load _ rfl rfl (load_run hW))
                intro hHeld'
                clear hHeld; have hHeld := hHeld'; clear hHeld'
                try simp only [Act.put, List.getElem_toArray, List.getElem_cons_succ, List.getElem_cons_zero, List.setIfInBounds_toArray, List.set_cons_zero, List.set_cons_succ]
                refine wpAnyL_ready (rs := [2]) (by kernel_rfl) (by simp) ?_
                refine AllReadyL.cons rfl (fun K hK => ?_) AllReadyL.nil
                go_simp
                (with_reducible refine (hLS.out _).mono ?_)
                rintro e w4 ⟨rfl, hb⟩
                replace rS := hid (rS.out.call hb)
                clear hb
                go_simp
                refine hK.out _ _ (HeldL.cons (fun _ => rS.out.m0) HeldL.nil) (fun hHeld' => ?_)
                clear hK K hHeld; have hHeld := hHeld'; clear hHeld'
                try simp only [Act.put, List.getElem_toArray, List.getElem_cons_succ, List.getElem_cons_zero, List.setIfInBounds_toArray, List.set_cons_zero, List.set_cons_succ]
                refine wpAnyL_ready (rs := [3]) (by kernel_rfl) (by simp) ?_
                refine AllReadyL.cons rfl (fun K hK => ?_) AllReadyL.nil
                refine step_store_mach rfl _ _ rfl _ rfl M rfl _ _ rS.out.m2 ?_
                intro W9 p2 ho hbl
                have pB := hid (hbl _ _ (Nat.le_refl _) rS.out.bel)
                replace p2 := hid p2
                clear ho hbl
                refine hK.out _ _ (HeldL.cons (fun h => absurd h (by decide +kernel)) HeldL.nil) (fun hHeld' => ?_)
                clear hK K hHeld; have hHeld := hHeld'; clear hHeld'
                try simp only [Act.put, List.getElem_toArray, List.getElem_cons_succ, List.getElem_cons_zero, List.setIfInBounds_toArray, List.set_cons_zero, List.set_cons_succ]
                refine wpAnyL_take0 (i := 4) (v := ?_) rfl (by kernel_rfl) (by kernel_rfl) (by kernel_rfl) (by rfl) (fun _ _ _ h => h) (Or.inl ⟨by rfl, ?_⟩) (by assumption) ?_
                rotate_left
                · (intro W _; go_simp; (with_reducible rfl))
                intro hHeld'
                clear hHeld; have hHeld := hHeld'; clear hHeld'
                try simp only [Act.put, List.getElem_toArray, List.getElem_cons_succ, List.getElem_cons_zero, List.setIfInBounds_toArray, List.set_cons_zero, List.set_cons_succ]
                refine wpAnyL_done (by kernel_rfl) ?_ _
                go_wp2
                exact ret_mach_v rfl rfl rfl p2.out rfl ⟨by rw [hA.out]; rfl, pB.out⟩
          · have hA := hid (hAf.out (fun h => h16 h.1))
            have d16 : decide ((ps.length : Int) > 16) = true := decide_eq_true (by omega)
            go_wp2_with (first
              | ((with_reducible refine gate (N := 42) rfl ?_); refine build_zero rfl rfl ?_)
              | ((with_reducible refine gateOp (op := .store 27 (.tmp 2) (.tmp 42)) rfl ?_); refine store_mach rfl _ _ rfl w.heap.size rfl zeroM rfl 27 _ hS.out.m2 ?_; intro W3 p2 ho hsz hbl; have pB := hid (hbl _ _ (Nat.le_refl _) hS.out.bel); replace p2 := hid p2; clear ho hsz hbl))
            exact ret_mach_v rfl rfl rfl p2.out rfl ⟨by rw [hA.out]; rfl, pB.out⟩
        · have hq : bt t 0 - 48 = 3 := by omega
          have h50' : bt t 0 = 50 ∨ bt t 0 = 51 := .inr h50
          rw [h50] at hb0
          have hb0 : (t[0]'(by omega)).toNat = 51 := hb0
          have hH : HeadOk t := ⟨h2, h58, h50'⟩
          have hAf := hid (fun (h : ¬ ((rdS t).length ≤ 16 ∧ ∀ p ∈ rdS t, PartOk 3 p)) => (show rdAns t = (zeroM, false) from by unfold rdAns; rw [if_neg (fun h' => h (by have h3 := h'.2; rw [hq] at h3; exact h3))]))
          have hAt := hid (fun (h16 : (rdS t).length ≤ 16) (hp : ∀ p ∈ rdS t, PartOk 3 p) => (show rdAns t = (rdM 3 (rdS t), decide (IsM (rdM 3 (rdS t)))) from by unfold rdAns; rw [hq, if_pos ⟨hH, h16, hp⟩]))
          have hsp := hid (fun W => l01Split_any W (t.extract 2 t.size) (by rw [ByteArray.size_extract]; omega) 44)
          simp only [show ((44 : Nat) : Int) = 44 from rfl] at hsp
          have hsp' := hid (show splL (t.extract 2 t.size) 44 = rdS t from rfl)
          rw [hsp'.out] at hsp
          have hpl := hid (splL_len (t.extract 2 t.size) 44)
          have hpz := hid (splL_sz (t.extract 2 t.size) 44)
          rw [hsp'.out] at hpl hpz
          have hxz : (t.extract 2 t.size).size ≤ 100000 := by rw [ByteArray.size_extract]; omega
          have d2 : decide ((t.size : Int) < 2) = false := decide_eq_false (by omega)
          have hz2 := hid (fun L W (h : St w.heap.size w L W) => h.newMB zeroM 27)
          have hil := hid (strs_length (rdS t))
          have hpn : 1 ≤ (rdS t).length := hpl.out.2
          have hpm : (rdS t).length ≤ 100001 := by have := hpl.out.1; omega
          rw [h58] at hb1
          clear hsp' h58 hH hq h50'
          generalize rdAns t = ans at *
          generalize rdS t = ps at *
          go_enter Tryz.func237, Tryz.ntmps237
          go_upto_region 5 with (first
            | (go_at_call 262; (with_reducible refine (hsp.out _).mono ?_); rintro e w1 ⟨v, rfl, hO, hb⟩; (obtain ⟨g, c, rfl, _, _⟩ := hO.blk (fun e => by have h1 := congrArg List.length e; rw [hil.out, List.length_nil] at h1; omega)); rw [hil.out] at hO ⊢; have hle2 := hid ((hS.out.call hb).le); replace hS := hid (hz2.out _ _ (hS.out.callOwn hb hO)); clear hb hO hsp)
            | ((with_reducible refine gate (N := 38) rfl ?_); refine build_mach rfl _ _ rfl 3 (ps.length : Int) rfl rfl ?_)
            | ((with_reducible refine gateOp (op := .store 27 (.tmp 5) (.tmp 38)) rfl ?_); refine store_mach rfl _ _ rfl w1.heap.size rfl ⟨3, (ps.length : Int), fun _ => 0, fun _ => 0⟩ rfl 27 _ hS.out.m0 ?_; intro w2 p3 ho hsz hbl; replace hS := hid (hS.out.setM hle2.out p3 ho hbl); clear p3 ho hsz hbl))
          generalize w1.heap.size = b5 at *
          by_cases h16 : ps.length ≤ 16
          · have d16 : decide ((ps.length : Int) > 16) = false := decide_eq_false (by omega)
            replace hS := hid (show St w.heap.size w [Asn.mb 27 b5 (rdP 3 ps 0 0), Asn.own w.heap.size 9 (.slice (some ⟨g, 0, none⟩) ps.length c) (strs ps), Asn.mb 27 w.heap.size zeroM] w2 from by
              rw [show rdP 3 ps 0 0 = ⟨3, (ps.length : Int), fun _ => 0, fun _ => 0⟩ from filP_zero]; exact hS.out)
            go_wp2
            go_loopw [6] (fun i wr => ∃ q : Nat, q ≤ ps.length ∧ i = .int .i64 q ∧ Hid (∀ p ∈ ps.take q, PartOk 3 p) ∧ St w.heap.size w [Asn.mb 27 b5 (rdP 3 ps q 0), Asn.own w.heap.size 9 (.slice (some ⟨g, 0, none⟩) ps.length c) (strs ps), Asn.mb 27 w.heap.size zeroM] wr) (fun i _ => ps.length - (intOf i).toNat)
            case atStart => exact ⟨0, Nat.zero_le _, rfl, hid (fun p hp => by simp at hp), hS.out⟩
            case round =>
              obtain ⟨q, hq, rfl, hpk, rS⟩ := hrel
              clear hS hb0 hb1 d2 d16
              have cL : wr.cell? ⟨b5, 0, none⟩ = some (.int .i64 3) := rS.m0.cL
              replace rS := hid rS
              by_cases hlt : q < ps.length
              · have dq : decide ((q : Int) < (ps.length : Int)) = true := decide_eq_true (by omega)
                obtain ⟨p, hp⟩ : ∃ p, ps[q]? = some p := ⟨_, List.getElem?_eq_getElem hlt⟩
                have cp := rS.out.o1.cellAt q (.string p) (by simp [strs, hp])
                have hpm' := hid (List.mem_of_getElem? hp)
                have hpsz : p.size ≤ 100000 := Nat.le_trans (hpz.out p hpm'.out) hxz
                have hbp := hid (show bpt ps q = p by simp [bpt, List.getD_eq_getElem?_getD, hp])
                have q0 : (0 : Int) ≤ (q : Int) := Int.natCast_nonneg _
                have q1 : (q : Int) < (ps.length : Int) := by omega
                replace hp := hid hp
                by_cases hsz : p.size = 2 * 3
                · have dsz : ((p.size : Int) != 2 * 3) = false := by simp; omega
                  go_upto_region 10 with (fail)
                  go_quiet (fail)
                  replace rS := hid (rS.out.drewN nq)
                  generalize World.drewN wr nq = wx at *
                  clear cp cL dsz
                  go_wp2
                  go_loopw [7] (fun i wr => ∃ x : Nat, x ≤ 3 ∧ i = .int .i64 x ∧ Hid (∀ y, y < x → (48 ≤ bt p (2 * y) ∧ bt p (2 * y) ≤ 50) ∧ 97 ≤ bt p (2 * y + 1) ∧ bt p (2 * y + 1) ≤ 112) ∧ St w.heap.size w [Asn.mb 27 b5 (rdP 3 ps q x), Asn.own w.heap.size 9 (.slice (some ⟨g, 0, none⟩) ps.length c) (strs ps), Asn.mb 27 w.heap.size zeroM] wr) (fun i _ => 3 - (intOf i).toNat)
                  case atStart => exact ⟨0, Nat.zero_le _, rfl, hid (fun y hy => absurd hy (Nat.not_lt_zero y)), rS.out⟩
                  case round =>
                    obtain ⟨x, hx, rfl, hch, rS⟩ := hrel
                    have cL : wr.cell? ⟨b5, 0, none⟩ = some (.int .i64 3) := rS.m0.cL
                    have cp := rS.o1.cellAt q (.string p) (by have h := hp.out; simp [strs, h])
                    replace rS := hid rS
                    by_cases hlx : x < 3
                    · have dx : decide ((x : Int) < 3) = true := decide_eq_true (by omega)
                      have g1 : IntKind.i64.wrap (2 * (x : Int)) = ((2 * x : Nat) : Int) := by rw [IntWalk.i64_in _ (by omega)]; omega
                      have g2 : IntKind.i64.wrap (IntKind.i64.wrap (2 * (x : Int)) + 1) = ((2 * x + 1 : Nat) : Int) := by rw [g1, IntWalk.i64_in _ (by omega)]; omega
                      replace g1 := hid g1; replace g2 := hid g2
                      have k1 : 2 * x < p.size := by omega
                      have k2 : 2 * x + 1 < p.size := by omega
                      go_upto_region 15 with (fail)
                      refine wp_region_quiet_lit (by kernel_rfl) (by kernel_rfl) ?_
                      iterate 6 (quiet_step (fail))
                      refine quiet_idx rfl _ _ _ rfl Tryz.underlying9 p (2 * x) _ rfl rfl g1.out k1 ?_
                      iterate 7 (quiet_step (fail))
                      refine quiet_idx rfl _ _ _ rfl Tryz.underlying9 p (2 * x + 1) _ rfl rfl g2.out k2 ?_
                      iterate 2 (quiet_step (fail))
                      refine wpQuiet_nil ?_
                      rintro _ ⟨nr, rfl⟩
                      replace rS := hid (rS.out.drewN nr)
                      generalize World.drewN wr nr = wy at *
                      have hB1 := bt_lt p (2 * x)
                      have hB2 := bt_lt p (2 * x + 1)
                      have hch2 := hid (fun (h : (48 ≤ bt p (2 * x) ∧ bt p (2 * x) ≤ 50) ∧ 97 ≤ bt p (2 * x + 1) ∧ bt p (2 * x + 1) ≤ 112) y (hy : y < x + 1) => (show (48 ≤ bt p (2 * y) ∧ bt p (2 * y) ≤ 50) ∧ 97 ≤ bt p (2 * y + 1) ∧ bt p (2 * y + 1) ≤ 112 from by
                        by_cases e : y = x
                        · subst e; exact h
                        · exact hch.out y (by omega)))
                      have hno := hid (fun (h : ¬ ((48 ≤ bt p (2 * x) ∧ bt p (2 * x) ≤ 50) ∧ 97 ≤ bt p (2 * x + 1) ∧ bt p (2 * x + 1) ≤ 112)) => hAf.out (fun h' => h ((h'.2 p hpm'.out).2 x hlx)))
                      have hst := hid (filP_step (L := 3) (n := ps.length) (f := fun q x => bt (bpt ps q) (2 * x + 1) - 97) (g := fun q x => bt (bpt ps q) (2 * x) - 48) q x hlx (by omega))
                      simp only [hbp.out] at hst
                      clear cp cL
                      generalize bt p (2 * x) = B1 at *
                      generalize bt p (2 * x + 1) = B2 at *
                      by_cases c1 : 48 ≤ B1
                      · by_cases c2 : B1 ≤ 50
                        · by_cases c3 : 97 ≤ B2
                          · by_cases c4 : B2 ≤ 112
                            · replace hch2 := hid (hch2.out ⟨⟨c1, c2⟩, c3, c4⟩)
                              obtain ⟨y1, rfl⟩ := Nat.exists_eq_add_of_le c1
                              obtain ⟨y2, rfl⟩ := Nat.exists_eq_add_of_le c3
                              have d1 : decide ((48 + (y1 : Int)) < 48) = false := decide_eq_false (by omega)
                              have d2 : decide ((48 + (y1 : Int)) > 50) = false := decide_eq_false (by omega)
                              have d3 : decide ((97 + (y2 : Int)) < 97) = false := decide_eq_false (by omega)
                              have d4 : decide ((97 + (y2 : Int)) > 112) = false := decide_eq_false (by omega)
                              have e1 : 48 + (y1 : Int) - 48 = y1 := by omega
                              have e2 : 97 + (y2 : Int) - 97 = y2 := by omega
                              obtain ⟨vo, co⟩ : ∃ u, wy.cell? ⟨b5, 50 + q * 3 + x, none⟩ = some u := ⟨_, rS.out.m0.cot q x (by omega) (by omega)⟩
                              have fo : wy.frozen? ⟨b5, 50 + q * 3 + x, none⟩ = false := World.rowIs.frozen rS.out.m0 _
                              obtain ⟨vn, cn⟩ : ∃ u, wy.cell? ⟨b5, 2 + q * 3 + x, none⟩ = some u := ⟨_, rS.out.m0.cnx q x (by omega) (by omega)⟩
                              have fn : wy.frozen? ⟨b5, 2 + q * 3 + x, none⟩ = false := World.rowIs.frozen rS.out.m0 _
                              go_wp2
                              go_roundw
                              case rel =>
                                refine ⟨x + 1, by omega, by go_num, hid hch2.out, ?_⟩
                                have e := hst.out
                                rw [Nat.add_sub_cancel_left, Nat.add_sub_cancel_left] at e
                                rw [show rdP 3 ps q (x + 1) = { rdP 3 ps q x with nx := upd (rdP 3 ps q x).nx (q * 3 + x) y2, ot := upd (rdP 3 ps q x).ot (q * 3 + x) y1 } from e]
                                exact (rS.out.setOt hle2.out q x y1 (by omega) (by omega)).setNx hle2.out q x y2 (by omega) (by omega)
                              case measure => simp [intOf]; omega
                            · have hA := hid (hno.out (fun h => by omega))
                              have d1 : decide ((B1 : Int) < 48) = false := decide_eq_false (by omega)
                              have d2 : decide ((B1 : Int) > 50) = false := decide_eq_false (by omega)
                              have d3 : decide ((B2 : Int) < 97) = false := decide_eq_false (by omega)
                              have d4 : decide ((B2 : Int) > 112) = true := decide_eq_true (by omega)
                              go_wp2_with (first
                                | ((with_reducible refine gate (N := 94) rfl ?_); refine build_zero rfl rfl ?_)
                                | ((with_reducible refine gateOp (op := .store 27 (.tmp 2) (.tmp 94)) rfl ?_); refine store_mach rfl _ _ rfl w.heap.size rfl zeroM rfl 27 _ rS.out.m2 ?_; intro W3 p2 ho hsz hbl; have pB := hid (hbl _ _ (Nat.le_refl _) rS.out.bel); replace p2 := hid p2; clear ho hsz hbl))
                              exact ret_mach_v rfl rfl rfl p2.out rfl ⟨by rw [hA.out]; rfl, pB.out⟩
                          · have hA := hid (hno.out (fun h => by omega))
                            have d1 : decide ((B1 : Int) < 48) = false := decide_eq_false (by omega)
                            have d2 : decide ((B1 : Int) > 50) = false := decide_eq_false (by omega)
                            have d3 : decide ((B2 : Int) < 97) = true := decide_eq_true (by omega)
                            go_wp2_with (first
                              | ((with_reducible refine gate (N := 94) rfl ?_); refine build_zero rfl rfl ?_)
                              | ((with_reducible refine gateOp (op := .store 27 (.tmp 2) (.tmp 94)) rfl ?_); refine store_mach rfl _ _ rfl w.heap.size rfl zeroM rfl 27 _ rS.out.m2 ?_; intro W3 p2 ho hsz hbl; have pB := hid (hbl _ _ (Nat.le_refl _) rS.out.bel); replace p2 := hid p2; clear ho hsz hbl))
                            exact ret_mach_v rfl rfl rfl p2.out rfl ⟨by rw [hA.out]; rfl, pB.out⟩
                        · have hA := hid (hno.out (fun h => by omega))
                          have d1 : decide ((B1 : Int) < 48) = false := decide_eq_false (by omega)
                          have d2 : decide ((B1 : Int) > 50) = true := decide_eq_true (by omega)
                          go_wp2_with (first
                            | ((with_reducible refine gate (N := 94) rfl ?_); refine build_zero rfl rfl ?_)
                            | ((with_reducible refine gateOp (op := .store 27 (.tmp 2) (.tmp 94)) rfl ?_); refine store_mach rfl _ _ rfl w.heap.size rfl zeroM rfl 27 _ rS.out.m2 ?_; intro W3 p2 ho hsz hbl; have pB := hid (hbl _ _ (Nat.le_refl _) rS.out.bel); replace p2 := hid p2; clear ho hsz hbl))
                          exact ret_mach_v rfl rfl rfl p2.out rfl ⟨by rw [hA.out]; rfl, pB.out⟩
                      · have hA := hid (hno.out (fun h => by omega))
                        have d1 : decide ((B1 : Int) < 48) = true := decide_eq_true (by omega)
                        go_wp2_with (first
                          | ((with_reducible refine gate (N := 94) rfl ?_); refine build_zero rfl rfl ?_)
                          | ((with_reducible refine gateOp (op := .store 27 (.tmp 2) (.tmp 94)) rfl ?_); refine store_mach rfl _ _ rfl w.heap.size rfl zeroM rfl 27 _ rS.out.m2 ?_; intro W3 p2 ho hsz hbl; have pB := hid (hbl _ _ (Nat.le_refl _) rS.out.bel); replace p2 := hid p2; clear ho hsz hbl))
                        exact ret_mach_v rfl rfl rfl p2.out rfl ⟨by rw [hA.out]; rfl, pB.out⟩
                    · have hxl : x = 3 := by omega
                      subst hxl
                      have hpk2 := hid (show ∀ p' ∈ ps.take (q + 1), PartOk 3 p' from fun p' hp' => by
                        rw [List.take_add_one, hp.out] at hp'
                        rcases List.mem_append.1 hp' with h | h
                        · exact hpk.out p' h
                        · obtain rfl : p' = p := by simpa using h
                          exact ⟨hsz, hch.out⟩)
                      clear cp
                      go_wp2
                      go_roundw
                      case rel => exact ⟨q + 1, by omega, by go_num, hpk2, by rw [show rdP 3 ps (q + 1) 0 = rdP 3 ps q 3 from (filP_row q (by omega)).symm]; exact rS.out⟩
                      case measure => simp [intOf]; omega
                · have dsz : ((p.size : Int) != 2 * 3) = true := by simp; omega
                  have hA := hid (hAf.out (fun h => hsz (h.2 p hpm'.out).1))
                  go_upto_region 10 with (fail)
                  go_quiet (fail)
                  replace rS := hid (rS.out.drewN nq)
                  generalize World.drewN wr nq = wx at *
                  clear cp cL
                  go_wp2_with (first
                    | ((with_reducible refine gate (N := 58) rfl ?_); refine build_zero rfl rfl ?_)
                    | ((with_reducible refine gateOp (op := .store 27 (.tmp 2) (.tmp 58)) rfl ?_); refine store_mach rfl _ _ rfl w.heap.size rfl zeroM rfl 27 _ rS.out.m2 ?_; intro W3 p2 ho hsz hbl; have pB := hid (hbl _ _ (Nat.le_refl _) rS.out.bel); replace p2 := hid p2; clear ho hsz hbl))
                  exact ret_mach_v rfl rfl rfl p2.out rfl ⟨by rw [hA.out]; rfl, pB.out⟩
              · obtain rfl : q = ps.length := by omega
                have hpk3 := hpk.out
                rw [List.take_length] at hpk3
                have hA := hid (hAt.out h16 hpk3)
                have hok := hid (rdP_ok 3 ps ps.length 0)
                have hM := hid (show rdP 3 ps ps.length 0 = rdM 3 ps from rfl)
                rw [hM.out] at rS hok
                have hLS := hid (fun W => l01Is_any W (rdM 3 ps) hok.out (decide (IsM (rdM 3 ps))) decide_eq_true_iff)
                clear hM hpk hpk3 hAf hAt cL
                generalize hrm : rdM 3 ps = M at *
                generalize decide (IsM M) = bM at *
                replace hrm := hid hrm
                go_upto_region 20 with (fail)
                replace rS := hid rS.out.drew
                refine wp_region_heldL (L := [(3, (fun w' : World => MB w' 27 b5 M))]) (by kernel_rfl) (HeldL.cons (fun _ => rS.out.m0) HeldL.nil) (fun hHeld => ?_)
                generalize World.drew wr = wa at *
                refine wpAnyL_takeP (i := 0) 3 [] (v := (.agg (mcells M))) (fun w' : World => MB w' 27 b5 M) rfl (by kernel_rfl) (by kernel_rfl) (by kernel_rfl) (by rfl) (by kernel_rfl) (by simp) (fun _ _ _ h => h) (Or.inl ⟨by rfl, ?_⟩) (by assumption) ?_
                · (intro W hW; exact exec_load _ rfl rfl (load_run hW))
                intro hHeld'
                clear hHeld; have hHeld := hHeld'; clear hHeld'
                try simp only [Act.put, List.getElem_toArray, List.getElem_cons_succ, List.getElem_cons_zero, List.setIfInBounds_toArray, List.set_cons_zero, List.set_cons_succ]
                refine wpAnyL_takeP (i := 1) 3 [2] (v := (.agg (mcells M))) (fun w' : World => MB w' 27 b5 M) rfl (by kernel_rfl) (by kernel_rfl) (by kernel_rfl) (by rfl) (by kernel_rfl) (by simp) (fun _ _ _ h => h) (Or.inl ⟨by rfl, ?_⟩) (by assumption) ?_
                · (intro W hW; exact exec_load _ rfl rfl (load_run hW))
                intro hHeld'
                clear hHeld; have hHeld := hHeld'; clear hHeld'
                try simp only [Act.put, List.getElem_toArray, List.getElem_cons_succ, List.getElem_cons_zero, List.setIfInBounds_toArray, List.set_cons_zero, List.set_cons_succ]
                refine wpAnyL_ready (rs := [2]) (by kernel_rfl) (by simp) ?_
                refine AllReadyL.cons rfl (fun K hK => ?_) AllReadyL.nil
                go_simp
                (with_reducible refine (hLS.out _).mono ?_)
                rintro e w4 ⟨rfl, hb⟩
                replace rS := hid (rS.out.call hb)
                clear hb
                go_simp
                refine hK.out _ _ (HeldL.cons (fun _ => rS.out.m0) HeldL.nil) (fun hHeld' => ?_)
                clear hK K hHeld; have hHeld := hHeld'; clear hHeld'
                try simp only [Act.put, List.getElem_toArray, List.getElem_cons_succ, List.getElem_cons_zero, List.setIfInBounds_toArray, List.set_cons_zero, List.set_cons_succ]
                refine wpAnyL_ready (rs := [3]) (by kernel_rfl) (by simp) ?_
                refine AllReadyL.cons rfl (fun K hK => ?_) AllReadyL.nil
                refine step_store_mach rfl _ _ rfl _ rfl M rfl _ _ rS.out.m2 ?_
                intro W9 p2 ho hbl
                have pB := hid (hbl _ _ (Nat.le_refl _) rS.out.bel)
                replace p2 := hid p2
                clear ho hbl
                refine hK.out _ _ (HeldL.cons (fun h => absurd h (by decide +kernel)) HeldL.nil) (fun hHeld' => ?_)
                clear hK K hHeld; have hHeld := hHeld'; clear hHeld'
                try simp only [Act.put, List.getElem_toArray, List.getElem_cons_succ, List.getElem_cons_zero, List.setIfInBounds_toArray, List.set_cons_zero, List.set_cons_succ]
                refine wpAnyL_take0 (i := 4) (v := ?_) rfl (by kernel_rfl) (by kernel_rfl) (by kernel_rfl) (by rfl) (fun _ _ _ h => h) (Or.inl ⟨by rfl, ?_⟩) (by assumption) ?_
                rotate_left
                · (intro W _; go_simp; (with_reducible rfl))
                intro hHeld'
                clear hHeld; have hHeld := hHeld'; clear hHeld'
                try simp only [Act.put, List.getElem_toArray, List.getElem_cons_succ, List.getElem_cons_zero, List.setIfInBounds_toArray, List.set_cons_zero, List.set_cons_succ]
                refine wpAnyL_done (by kernel_rfl) ?_ _
                go_wp2
                exact ret_mach_v rfl rfl rfl p2.out rfl ⟨by rw [hA.out]; rfl, pB.out⟩
          · have hA := hid (hAf.out (fun h => h16 h.1))
            have d16 : decide ((ps.length : Int) > 16) = true := decide_eq_true (by omega)
            go_wp2_with (first
              | ((with_reducible refine gate (N := 42) rfl ?_); refine build_zero rfl rfl ?_)
              | ((with_reducible refine gateOp (op := .store 27 (.tmp 2) (.tmp 42)) rfl ?_); refine store_mach rfl _ _ rfl w.heap.size rfl zeroM rfl 27 _ hS.out.m2 ?_; intro W3 p2 ho hsz hbl; have pB := hid (hbl _ _ (Nat.le_refl _) hS.out.bel); replace p2 := hid p2; clear ho hsz hbl))
            exact ret_mach_v rfl rfl rfl p2.out rfl ⟨by rw [hA.out]; rfl, pB.out⟩
      · have hA := hid (show rdAns t = (zeroM, false) by unfold rdAns; rw [if_neg (fun h => h50 h.1.2.2)])
        rw [hA.out]
        have hn0 : ¬ bt t 0 = 50 := fun h => h50 (.inl h)
        have hn1 : ¬ bt t 0 = 51 := fun h => h50 (.inr h)
        have d2 : decide ((t.size : Int) < 2) = false := decide_eq_false (by omega)
        rw [h58] at hb1
        generalize bt t 0 = b0 at *
        have e0 : ((b0 : Int) != 50) = true := by simp; omega
        have e1 : ((b0 : Int) != 51) = true := by simp; omega
        clear h58 hn0 hn1 h50
        go_enter Tryz.func237, Tryz.ntmps237
        go_wp2_with (first
          | ((with_reducible refine gate (N := 28) rfl ?_); refine build_zero rfl rfl ?_)
          | ((with_reducible refine gateOp (op := .store 27 (.tmp 2) (.tmp 28)) rfl ?_); refine store_mach rfl _ _ rfl w.heap.size rfl zeroM rfl 27 _ hS.out.m0 ?_; intro W3 p2 ho hsz hbl; have pB := hid (hbl _ _ (Nat.le_refl _) hS.out.bel); replace p2 := hid p2; clear ho hsz hbl))
        exact ret_mach_v rfl rfl rfl p2.out rfl ⟨rfl, pB.out⟩
    · have hA := hid (show rdAns t = (zeroM, false) by unfold rdAns; rw [if_neg (fun h => h58 h.1.2.1)])
      rw [hA.out]
      have d2 : decide ((t.size : Int) < 2) = false := decide_eq_false (by omega)
      clear hb0
      generalize bt t 1 = b1 at *
      have e0 : ((b1 : Int) != 58) = true := by simp; omega
      clear h58
      go_enter Tryz.func237, Tryz.ntmps237
      go_wp2_with (first
        | ((with_reducible refine gate (N := 28) rfl ?_); refine build_zero rfl rfl ?_)
        | ((with_reducible refine gateOp (op := .store 27 (.tmp 2) (.tmp 28)) rfl ?_); refine store_mach rfl _ _ rfl w.heap.size rfl zeroM rfl 27 _ hS.out.m0 ?_; intro W3 p2 ho hsz hbl; have pB := hid (hbl _ _ (Nat.le_refl _) hS.out.bel); replace p2 := hid p2; clear ho hsz hbl))
      exact ret_mach_v rfl rfl rfl p2.out rfl ⟨rfl, pB.out⟩
  · have hA := hid (show rdAns t = (zeroM, false) by unfold rdAns; rw [if_neg (fun h => h2 h.1.1)])
    rw [hA.out]
    have d2 : decide ((t.size : Int) < 2) = true := decide_eq_true (by omega)
    go_enter Tryz.func237, Tryz.ntmps237
    go_wp2_with (first
      | ((with_reducible refine gate (N := 28) rfl ?_); refine build_zero rfl rfl ?_)
      | ((with_reducible refine gateOp (op := .store 27 (.tmp 2) (.tmp 28)) rfl ?_); refine store_mach rfl _ _ rfl w.heap.size rfl zeroM rfl 27 _ hS.out.m0 ?_; intro W3 p2 ho hsz hbl; have pB := hid (hbl _ _ (Nat.le_refl _) hS.out.bel); replace p2 := hid p2; clear ho hsz hbl))
    exact ret_mach_v rfl rfl rfl p2.out rfl ⟨rfl, pB.out⟩
end Go.Proofs.YthmcdfjijkecfaaGreat

/- Texts damaged, words drawn. -/
namespace Go.Proofs.YthmcdfjijkecfaaGreat
open Go.RowKit
set_option linter.unusedVariables false
set_option linter.unusedSimpArgs false
-- @LONG

section
variable {w0 w : World} {S : Nat} {v : Value} {l : List Nat} {L : List Asn}
/-- The signs that are put in. -/
def sg13 : List ByteArray := [{ data := #[48] }, { data := #[49] }, { data := #[50] }, { data := #[51] }, { data := #[97] }, { data := #[98] }, { data := #[112] }, { data := #[113] }, { data := #[58] }, { data := #[44] }, { data := #[32] }, { data := #[45] }, { data := #[10] }]
theorem sg13_S : ∀ t ∈ sg13, t.size = 1 := by decide +kernel
set_option maxHeartbeats 4000000 in
set_option maxRecDepth 100000 in
theorem Dg.damage (D : Dg w0 S v l) (t : ByteArray) (ht : t.size ≤ 1000) (hS : St w0.heap.size w0 (Asn.src S v l.length :: L) w) :
    Calls Tryz.prog 213 #[.pointer (some ⟨S, 0, none⟩), .string t] w fun e w' => ∃ u : ByteArray, e = .returned (.string u) ∧ Hid (u.size ≤ t.size + 1) ∧ St w0.heap.size w0 (Asn.src S v l.length :: L) w' := by
  have hN := hid (fun W L n (h0 : n ≤ 1000000000) hW => D.next (w := W) (L := L) n h0 hW)
  have hS := hid ((hS.newOwn [.string { data := #[48] }, .string { data := #[49] }, .string { data := #[50] }, .string { data := #[51] }, .string { data := #[97] }, .string { data := #[98] }, .string { data := #[112] }, .string { data := #[113] }, .string { data := #[58] }, .string { data := #[44] }, .string { data := #[32] }, .string { data := #[45] }, .string { data := #[10] }] 9 (by simp)).f1)
  have htx := hid (fun W L r (hr : r < 13) (hW : St w0.heap.size w0 (Asn.src S v l.length :: Asn.own w0.heap.size 9 (.slice (some ⟨w.heap.size, 0, none⟩) 13 13) [.string { data := #[48] }, .string { data := #[49] }, .string { data := #[50] }, .string { data := #[51] }, .string { data := #[97] }, .string { data := #[98] }, .string { data := #[112] }, .string { data := #[113] }, .string { data := #[58] }, .string { data := #[44] }, .string { data := #[32] }, .string { data := #[45] }, .string { data := #[10] }] :: L) W) => (show ∃ c, W.cell? ⟨w.heap.size, r, none⟩ = some (.string c) ∧ c.size = 1 from by
    have hr' : r < sg13.length := hr
    have hm := sg13_S sg13[r] (List.getElem_mem hr')
    exact ⟨sg13[r], hW.o1.cellAt r _ (by rw [show ([.string { data := #[48] }, .string { data := #[49] }, .string { data := #[50] }, .string { data := #[51] }, .string { data := #[97] }, .string { data := #[98] }, .string { data := #[112] }, .string { data := #[113] }, .string { data := #[58] }, .string { data := #[44] }, .string { data := #[32] }, .string { data := #[45] }, .string { data := #[10] }] : List Value) = strs sg13 from rfl]; simp [strs, List.getElem?_eq_getElem hr']), hm⟩))
  simp only [List.length_cons, List.length_nil, Nat.reduceAdd] at hS
  clear D
  go_enter Tryz.func213, Tryz.ntmps213
  go_upto_region 2 with (fail)
  generalize World.alloc w _ = wA at *
  generalize ([.string { data := #[48] }, .string { data := #[49] }, .string { data := #[50] }, .string { data := #[51] }, .string { data := #[97] }, .string { data := #[98] }, .string { data := #[112] }, .string { data := #[113] }, .string { data := #[58] }, .string { data := #[44] }, .string { data := #[32] }, .string { data := #[45] }, .string { data := #[10] }] : List Value) = cs at *
  generalize w.heap.size = gT at *
  have mk1 : True := trivial
  go_upto_if 18 with (first
    | (go_at_call 130; (with_reducible refine (hN.out _ _ _ (by omega) hS.out).mono ?_); rintro e w2 ⟨r, rfl, hr, hS'⟩; (have hr8 : r < 13 := by omega); (have hr9 : (r : Int) < 13 := by omega); (have r0 : (0 : Int) ≤ (r : Int) := Int.natCast_nonneg _); (refine Exists.elim (htx.out w2 _ r hr8 hS') ?_); rintro c ⟨ct, hc⟩; replace hS := hid hS'; clear hS' hr))
  replace hS := hid hS.out.f1.drop
  clear ct htx r0 hr9
  by_cases h0 : t.size = 0
  · have d0 : ((t.size : Int) == 0) = true := beq_iff_eq.2 (by omega)
    go_wp2
    go_ret
    exact ⟨c, rfl, hid (by omega), hS.out⟩
  · have d0 : ((t.size : Int) == 0) = false := beq_eq_false_iff_ne.2 (by omega)
    go_upto_region 7 with (first
      | (go_at_call 130; clear mk1; (with_reducible refine (hN.out _ _ _ (by omega) hS.out).mono ?_); rintro e w3 ⟨k, rfl, hk, hS'⟩; (have hk1 : k < t.size := by omega); replace hS := hid hS'; clear hS' hk)
      | (go_at_call 130; (with_reducible refine (hN.out _ _ _ (by omega) hS.out).mono ?_); rintro e w4 ⟨z, rfl, _, hS'⟩; replace hS := hid hS'; clear hS'))
    have k0 : (0 : Int) ≤ (k : Int) := Int.natCast_nonneg _
    have k1 : (k : Int) < (t.size : Int) := by omega
    have ek : IntKind.i64.wrap ((k : Int) + 1) = ((k + 1 : Nat) : Int) := by rw [IntWalk.i64_in _ (by omega)]; omega
    by_cases z0 : z = 0
    · subst z0
      go_upto_region 8 with (fail)
      go_quiet (fail)
      go_wp2
      go_ret
      exact ⟨_, rfl, hid (by simp only [ByteArray.size_append, ByteArray.size_extract]; omega), hS.out.drewN nq⟩
    · have z0' : ((z : Int) == 0) = false := by simp; omega
      by_cases z1 : z = 1
      · subst z1
        go_upto_region 10 with (fail)
        go_quiet (fail)
        go_wp2
        go_ret
        exact ⟨_, rfl, hid (by simp only [ByteArray.size_append, ByteArray.size_extract]; omega), hS.out.drewN nq⟩
      · have z1' : ((z : Int) == 1) = false := by simp; omega
        go_upto_region 11 with (fail)
        go_quiet (fail)
        go_wp2
        go_ret
        exact ⟨_, rfl, hid (by simp only [ByteArray.size_append, ByteArray.size_extract]; omega), hS.out.drewN nq⟩
set_option maxHeartbeats 4000000 in
set_option maxRecDepth 100000 in
theorem Dg.wordy (D : Dg w0 S v l) (m : Mach) (hS : St w0.heap.size w0 (Asn.src S v l.length :: L) w) :
    Calls Tryz.prog 131 #[.pointer (some ⟨S, 0, none⟩), .agg (mcells m)] w fun e w' => ∃ u : ByteArray, e = .returned (.string u) ∧ Hid (u.size ≤ 50) ∧ St w0.heap.size w0 (Asn.src S v l.length :: L) w' := by
  have hN := hid (fun W L n (h0 : n ≤ 1000000000) hW => D.next (w := W) (L := L) n h0 hW)
  have hP := hid (fun W L b2 v2 M hM hMl hW => D.pick (w := W) (L := L) (b2 := b2) (v2 := v2) M hM hMl hW)
  have hW := hid (fun W L d n hn hW => D.word (w := W) (L := L) d n hn hW)
  have hDm := hid (fun W L t ht hW => D.damage (w := W) (L := L) t ht hW)
  have hpr := hid (fun (r : Int) (hr : r ∈ [0, 1, 2, 3, 4, 5, 6, 9, 40, (41 : Int)]) => (show r ≤ 41 from by
    simp only [List.mem_cons, List.not_mem_nil, or_false] at hr
    rcases hr with rfl | rfl | rfl | rfl | rfl | rfl | rfl | rfl | rfl | rfl <;> omega))
  have hS := hid ((hS.newMB m 27).f1)
  have hcL := hid (fun W L (hW : St w0.heap.size w0 (Asn.src S v l.length :: Asn.mb 27 w.heap.size m :: L) W) => hW.m1.cL)
  clear D
  go_enter Tryz.func131, Tryz.ntmps131
  go_upto_region 1 with (fail)
  generalize World.alloc w _ = wA at *
  generalize w.heap.size = b3 at *
  replace hS := hid hS.out.drew
  refine wp_region_heldL (L := [(6, (fun w' : World => w'.cell? ⟨b3, 0, none⟩ = some (.int .i64 m.L)))]) (by kernel_rfl) (HeldL.cons (fun _ => hcL.out _ _ hS.out) HeldL.nil) (fun hHeld => ?_)
  generalize World.drew wA = wa at *
  refine wpAnyL_take0 (i := 0) (v := ?_) rfl (by kernel_rfl) (by kernel_rfl) (by kernel_rfl) (by rfl) (fun _ _ _ h => h) (Or.inl ⟨by rfl, ?_⟩) (by assumption) ?_
  rotate_left
  · (intro W _; go_simp; (with_reducible rfl))
  intro hHeld'
  clear hHeld; have hHeld := hHeld'; clear hHeld'
  try simp only [Act.put, List.getElem_toArray, List.getElem_cons_succ, List.getElem_cons_zero, List.setIfInBounds_toArray, List.set_cons_zero, List.set_cons_succ]
  refine wpAnyL_take0 (i := 1) (v := ?_) rfl (by kernel_rfl) (by kernel_rfl) (by kernel_rfl) (by rfl) (fun _ _ _ h => h) (Or.inl ⟨by rfl, ?_⟩) (by assumption) ?_
  rotate_left
  · (intro W _; go_simp; (with_reducible rfl))
  intro hHeld'
  clear hHeld; have hHeld := hHeld'; clear hHeld'
  try simp only [Act.put, List.getElem_toArray, List.getElem_cons_succ, List.getElem_cons_zero, List.setIfInBounds_toArray, List.set_cons_zero, List.set_cons_succ]
  refine wpAnyL_takeP (i := 2) 6 [] (v := ?_) (fun w' : World => w'.cell? ⟨b3, 0, none⟩ = some (.int .i64 m.L)) rfl (by kernel_rfl) (by kernel_rfl) (by kernel_rfl) (by rfl) (by kernel_rfl) (by simp) (fun _ _ _ h => h) (Or.inl ⟨by rfl, ?_⟩) (by assumption) ?_
  rotate_left
  · (intro W hW; go_simp; (with_reducible rfl))
  intro hHeld'
  clear hHeld; have hHeld := hHeld'; clear hHeld'
  try simp only [Act.put, List.getElem_toArray, List.getElem_cons_succ, List.getElem_cons_zero, List.setIfInBounds_toArray, List.set_cons_zero, List.set_cons_succ]
  refine wpAnyL_take0 (i := 3) (v := ?_) rfl (by kernel_rfl) (by kernel_rfl) (by kernel_rfl) (by rfl) (fun _ _ _ h => h) (Or.inl ⟨by rfl, ?_⟩) (by assumption) ?_
  rotate_left
  · (intro W _; go_simp; (with_reducible rfl))
  intro hHeld'
  clear hHeld; have hHeld := hHeld'; clear hHeld'
  try simp only [Act.put, List.getElem_toArray, List.getElem_cons_succ, List.getElem_cons_zero, List.setIfInBounds_toArray, List.set_cons_zero, List.set_cons_succ]
  refine wpAnyL_ready (rs := [4]) (by kernel_rfl) (by simp) ?_
  refine AllReadyL.cons rfl (fun K hK => ?_) AllReadyL.nil
  go_simp
  have hS2 := hS.out.list [.int .i64 0, .int .i64 1, .int .i64 2, .int .i64 3, .int .i64 4, .int .i64 5, .int .i64 6, .int .i64 9, .int .i64 40, .int .i64 41] (by simp)
  refine hK.out _ _ (HeldL.cons (fun _ => hS2.m2.cL) HeldL.nil) (fun hHeld' => ?_)
  clear hK K hHeld; have hHeld := hHeld'; clear hHeld'
  try simp only [Act.put, List.getElem_toArray, List.getElem_cons_succ, List.getElem_cons_zero, List.setIfInBounds_toArray, List.set_cons_zero, List.set_cons_succ]
  refine wpAnyL_ready (rs := [5]) (by kernel_rfl) (by simp) ?_
  refine AllReadyL.cons rfl (fun K hK => ?_) AllReadyL.nil
  go_simp
  (with_reducible refine (hP.out _ _ _ _ [0, 1, 2, 3, 4, 5, 6, 9, 40, 41] (by simp) (by simp) hS2).mono ?_)
  rintro e w6 ⟨r, rfl, hr, hS'⟩
  have hr' := hpr.out r hr
  replace hS := hid hS'
  clear hS' hS2 hr
  go_simp
  refine hK.out _ _ (HeldL.cons (fun _ => hcL.out _ _ hS.out) HeldL.nil) (fun hHeld' => ?_)
  clear hK K hHeld; have hHeld := hHeld'; clear hHeld'
  try simp only [Act.put, List.getElem_toArray, List.getElem_cons_succ, List.getElem_cons_zero, List.setIfInBounds_toArray, List.set_cons_zero, List.set_cons_succ]
  refine wpAnyL_ready (rs := [6]) (by kernel_rfl) (by simp) ?_
  refine AllReadyL.cons rfl (fun K hK => ?_) AllReadyL.nil
  go_simp
  (with_reducible refine (hW.out _ _ m.L r hr' hS.out).mono ?_)
  rintro e w7 ⟨u, rfl, hu, hS'⟩
  replace hS := hid hS'.f1.drop
  clear hS'
  go_simp
  refine hK.out _ _ (HeldL.cons (fun h => absurd h (by decide +kernel)) HeldL.nil) (fun hHeld' => ?_)
  clear hK K hHeld; have hHeld := hHeld'; clear hHeld'
  try simp only [Act.put, List.getElem_toArray, List.getElem_cons_succ, List.getElem_cons_zero, List.setIfInBounds_toArray, List.set_cons_zero, List.set_cons_succ]
  refine wpAnyL_take0 (i := 7) (v := ?_) rfl (by kernel_rfl) (by kernel_rfl) (by kernel_rfl) (by rfl) (fun _ _ _ h => h) (Or.inl ⟨by rfl, ?_⟩) (by assumption) ?_
  rotate_left
  · (intro W _; go_simp; (with_reducible rfl))
  intro hHeld'
  clear hHeld; have hHeld := hHeld'; clear hHeld'
  try simp only [Act.put, List.getElem_toArray, List.getElem_cons_succ, List.getElem_cons_zero, List.setIfInBounds_toArray, List.set_cons_zero, List.set_cons_succ]
  refine wpAnyL_done (by kernel_rfl) ?_ _
  have hus := hid (show (wstr u).size ≤ 41 from by rw [wstr_size]; exact hu.out.1)
  generalize wstr u = us at *
  go_wp2_with (first
    | (go_at_call 130; (with_reducible refine (hN.out _ _ _ (by omega) hS.out).mono ?_); rintro e w8 ⟨z, rfl, _, hS'⟩; replace hS := hid hS'; clear hS')
    | (go_at_call 213; (with_reducible refine (hDm.out _ _ us (by have := hus.out; omega) hS.out).mono ?_); rintro e w9 ⟨u2, rfl, hu2, hS'⟩; replace hS := hid hS'; clear hS'))
  all_goals go_ret
  all_goals first
    | exact ⟨u2, rfl, hid (by have := hu2.out; have := hus.out; omega), hS.out⟩
    | exact ⟨us, rfl, hid (by have := hus.out; omega), hS.out⟩
end
end Go.Proofs.YthmcdfjijkecfaaGreat

/- The program's ActOnWord and InverseMachine. -/
namespace Go.Proofs.YthmcdfjijkecfaaGreat
open Go.RowKit
set_option linter.unusedVariables false
set_option linter.unusedSimpArgs false
-- @LONG

theorem lets_len0 (ws : ByteArray) : (lets ws).length = ws.size := by unfold lets; rw [List.length_map, Array.length_toList]; rfl
theorem lets_wstr0 {u : List Nat} (hu : ∀ x ∈ u, x < 200) : lets (wstr u) = u := by
  apply List.ext_getElem (by rw [lets_len0, wstr_size])
  intro i h1 h2
  have hb := wstr_byte u i (by rw [wstr_size]; exact h2) hu
  have h1' : i < ((wstr u).data.toList.map fun b : UInt8 => b.toNat - 48).length := h1
  show ((wstr u).data.toList.map fun b : UInt8 => b.toNat - 48)[i]'h1' = u[i]
  rw [List.getElem_map, Array.getElem_toList]
  have e : ((wstr u).data[i]'(by rw [lets_len0] at h1; exact h1)).toNat = 48 + u.getD i 0 := by
    have : (wstr u)[i]'(by rw [wstr_size]; exact h2) = (wstr u).data[i]'(by rw [lets_len0] at h1; exact h1) := rfl
    rw [← this]; first | exact hb | (have := hb; omega)
  rw [e, List.getD_eq_getElem?_getD, List.getElem?_eq_getElem h2]
  simp
/-- What a state leads a word to, and the code. -/
noncomputable def aowAns (m : Mach) (q : Int) (ws : ByteArray) : ByteArray × Int := if codeI m ws [q] = 0 then (wstr (img m q.toNat (lets ws)), 0) else ({ data := #[] }, codeI m ws [q])
theorem aow_cases (m : Mach) (q : Int) (ws : ByteArray) : (codeI m ws [q] ≠ 0 ∧ aowAns m q ws = ({ data := #[] }, codeI m ws [q])) ∨ (∃ (l s q' : Nat) (u : List Nat), Good m l s ∧ q = q' ∧ q' < s ∧ ws = wstr u ∧ (∀ x ∈ u, x < l) ∧ u.length ≤ 40 ∧ codeI m ws [q] = 0 ∧ aowAns m q ws = (wstr (img m q' u), 0)) := by
  by_cases h : codeI m ws [q] = 0
  · refine .inr ?_
    by_cases hm : IsM m
    · obtain ⟨l, s, g⟩ := hm.good
      by_cases hw : IsWd l ws
      · by_cases hq : ∀ x ∈ [q], 0 ≤ x ∧ x < (s : Int)
        · have h1 := hq q (by simp)
          obtain ⟨q', rfl⟩ := Int.eq_ofNat_of_zero_le h1.1
          obtain ⟨e1, e2, e3⟩ := lets_wstr ws hw
          exact ⟨l, s, q', lets ws, g, rfl, by omega, e1, e2, by omega, h, by unfold aowAns; rw [if_pos h]; rfl⟩
        · rw [codeI_2 g hw hq] at h; cases h
      · rw [codeI_w g hw] at h; cases h
    · rw [codeI_1 hm] at h; cases h
  · exact .inl ⟨h, by unfold aowAns; rw [if_neg h]⟩
theorem aow_good {m : Mach} {l s q : Nat} {u : List Nat} (g : Good m l s) (hq : q < s) (hu : ∀ x ∈ u, x < l) (hl : u.length ≤ 40) : aowAns m (q : Int) (wstr u) = (wstr (img m q u), 0) := by
  have l3 := g.l3
  have hw : IsWd l (wstr u) := isWd_wstr (fun x hx => by have := hu x hx; omega) (by omega) hl
  have h0 : codeI m (wstr u) [(q : Int)] = 0 := codeI_0 g hw (fun x hx => by simp at hx; subst hx; omega)
  have e4 : lets (wstr u) = u := lets_wstr0 (fun x hx => by have := hu x hx; omega)
  unfold aowAns
  rw [if_pos h0, e4]; rfl

set_option maxHeartbeats 2000000 in
set_option maxRecDepth 100000 in
theorem implAow_any (w : World) (m : Mach) (hk : m.Ok) (q : Int) (ws : ByteArray) (hws : ws.size < 1000000000000) :
    Calls Tryz.prog 48 #[.agg (mcells m), .int .i64 q, .string ws] w fun e w' => e = .returned (.tuple #[.string (aowAns m q ws).1, .int .i64 (aowAns m q ws).2]) ∧ Below w.heap.size w w' := by
  have hS := hid ((St.start w).newMB m 27)
  have hcode := hid (fun W base v h => codeOf_any W m hk ws hws base v [q] h (by simp))
  have hown := hid (hS.out.newOwn [Value.int .i64 q] 2 (by simp))
  simp only [heap_alloc_size] at hown
  rcases aow_cases m q ws with ⟨h, hA⟩ | ⟨l, s, q, u, g, rfl, hq, rfl, hu, hl, h, hA⟩
  · rw [hA]
    have d0 : ((codeI m ws [q] : Int) != 0) = true := by simpa using h
    replace hk := hid hk
    clear hA h
    generalize codeI m ws [q] = c at *
    go_enter Tryz.func48, Tryz.ntmps48
    go_wp2_with (first
      | ((with_reducible refine gate (N := 11) rfl ?_); refine load_mach rfl _ rfl w.heap.size rfl m hS.out.m0 ?_)
      | (go_at_call 85; (with_reducible refine (hcode.out _ _ _ hown.out.o0).mono ?_); rintro e w1 ⟨rfl, hb⟩; replace hS := hid (hown.out.call hb).drop; clear hb hcode hown))
    go_ret2
    exact ⟨rfl, hS.out.bel⟩
  · rw [hA]
    rw [h] at hcode
    have hle := hid (fun W hW => lead_any w.heap.size W m hW l s g q hq u hu (by omega))
    clear h hA g
    replace hk := hid hk
    generalize wstr (img m q u) = r at *
    generalize sec m q u = sq at *
    generalize wstr u = ws at *
    go_enter Tryz.func48, Tryz.ntmps48
    go_wp2_with (first
      | ((with_reducible refine gate (N := 11) rfl ?_); refine load_mach rfl _ rfl w.heap.size rfl m hS.out.m0 ?_)
      | (go_at_call 85; (with_reducible refine (hcode.out _ _ _ hown.out.o0).mono ?_); rintro e w1 ⟨rfl, hb⟩; replace hS := hid (hown.out.call hb).drop; clear hb hcode hown)
      | (go_at_call 90; (with_reducible refine (hle.out _ hS.out.m0).mono ?_); rintro e w2 ⟨rfl, hb⟩; replace hS := hid (hS.out.call hb); clear hb))
    go_ret2
    exact ⟨rfl, hS.out.bel⟩

open Classical in
/-- The inverse machine and the code. -/
noncomputable def inmAns (m : Mach) : Mach × Int := if IsM m then (inv m m.L.toNat m.S.toNat, 0) else (⟨0, 0, fun _ => 0, fun _ => 0⟩, 1)
theorem inm_good {m : Mach} {l s : Nat} (g : Good m l s) : inmAns m = (inv m l s, 0) := by
  unfold inmAns; rw [if_pos g.isM, g.L, g.S]; rfl
set_option maxHeartbeats 2000000 in
set_option maxRecDepth 100000 in
theorem implInm_any (w : World) (m : Mach) (hk : m.Ok) :
    Calls Tryz.prog 14 #[.agg (mcells m)] w fun e w' => e = .returned (.tuple #[.agg (mcells (inmAns m).1), .int .i64 (inmAns m).2]) ∧ Below w.heap.size w w' := by
  have hz := zero_mach
  have hS := hid (((St.start w).newMB m 27).newMB ⟨0, 0, fun _ => 0, fun _ => 0⟩ 27)
  rw [heap_alloc_size] at hS
  by_cases hm : IsM m
  · obtain ⟨l, s, g⟩ := hm.good
    rw [inm_good g]
    have him := hid (fun W => IsMachine_any W m hk true (iff_of_true rfl hm))
    have hin := hid (fun W hW => inverse_any w.heap.size W m hW l s g hk)
    replace hk := hid hk
    clear hm g
    generalize inv m l s = fm at *
    generalize mcells ⟨0, 0, fun _ => 0, fun _ => 0⟩ = zs at *
    go_enter Tryz.func14, Tryz.ntmps14
    go_wp2_with (first
      | ((with_reducible refine gate (N := 4) rfl ?_); refine load_mach rfl _ rfl w.heap.size rfl m hS.out.m1 ?_)
      | (go_at_call 97; (with_reducible refine (him.out _).mono ?_); rintro e w1 ⟨rfl, hb⟩; replace hS := hid (hS.out.call hb); clear hb)
      | (go_at_call 98; (with_reducible refine (hin.out _ hS.out.m1).mono ?_); rintro e w1 ⟨rfl, hb⟩; replace hS := hid (hS.out.call hb); clear hb hin)
      | ((with_reducible refine gateOp (op := .store 27 (.tmp 2) (.tmp 8)) rfl ?_); refine store_mach rfl _ _ rfl (w.heap.size + 1) rfl fm rfl 27 _ hS.out.m0 ?_; intro W3 p2 ho hsz hbl; have pB := hid (hbl _ _ (Nat.le_succ _) hS.out.bel); replace p2 := hid p2; clear ho hsz hbl))
    exact ret_mach_i rfl rfl rfl p2.out rfl ⟨rfl, pB.out⟩
  · have hA : inmAns m = (⟨0, 0, fun _ => 0, fun _ => 0⟩, 1) := by unfold inmAns; rw [if_neg hm]
    rw [hA]
    have him := hid (fun W => IsMachine_any W m hk false (iff_of_false (by decide) hm))
    replace hk := hid hk
    clear hm hA
    generalize hzs : mcells ⟨0, 0, fun _ => 0, fun _ => 0⟩ = zs at *
    replace hzs := hid hzs
    go_enter Tryz.func14, Tryz.ntmps14
    go_wp2_with (first
      | ((with_reducible refine gate (N := 4) rfl ?_); refine load_mach rfl _ rfl w.heap.size rfl m hS.out.m1 ?_)
      | (go_at_call 97; (with_reducible refine (him.out _).mono ?_); rintro e w1 ⟨rfl, hb⟩; replace hS := hid (hS.out.call hb); clear hb)
      | ((with_reducible refine gate (N := 7) rfl ?_); refine build_zero rfl rfl ?_)
      | ((with_reducible refine gateOp (op := .store 27 (.tmp 2) (.tmp 7)) rfl ?_); refine store_mach rfl _ _ rfl (w.heap.size + 1) rfl ⟨0, 0, fun _ => 0, fun _ => 0⟩ rfl 27 _ hS.out.m0 ?_; intro W3 p2 ho hsz hbl; have pB := hid (hbl _ _ (Nat.le_succ _) hS.out.bel); replace p2 := hid p2; clear ho hsz hbl))
    exact ret_mach_i rfl rfl rfl p2.out rfl ⟨by rw [hzs.out], pB.out⟩
end Go.Proofs.YthmcdfjijkecfaaGreat
