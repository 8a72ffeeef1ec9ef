/- What the proof of FnTop leans on, part 21 of 28. -/
import Derived.Test.YthmcdfjijkecfaaGreatZFnTopT
/- ProductOfStates: what the program and the reference answer. -/
namespace Go.Proofs.YthmcdfjijkecfaaGreat
open Go.RowKit
set_option linter.unusedVariables false
set_option linter.unusedSimpArgs false

open Classical in
/-- What ProductOfStates answers. -/
noncomputable def posAns (m : Mach) (q : Int) (k : Mach) (r : Int) : Mach × Int := if pairI m q k r = 0 then (fromM (prodT m k m.L.toNat m.S.toNat k.S.toNat) (q.toNat * k.S.toNat + r.toNat), fromC (prodT m k m.L.toNat m.S.toNat k.S.toNat) (q.toNat * k.S.toNat + r.toNat)) else (⟨0, 0, fun _ => 0, fun _ => 0⟩, pairI m q k r)
theorem posAns_0 {m k : Mach} {l s s' q r : Nat} (g : Good m l s) (g' : Good k l s') (h : pairI m q k r = 0) : posAns m q k r = (fromM (prodT m k l s s') (q * s' + r), fromC (prodT m k l s s') (q * s' + r)) := by
  unfold posAns; rw [if_pos h, g.L, g.S, g'.S]; rfl
theorem posAns_n {m : Mach} {q : Int} {k : Mach} {r c : Int} (h : pairI m q k r = c) (hc : c ≠ 0) : posAns m q k r = (⟨0, 0, fun _ => 0, fun _ => 0⟩, c) := by
  unfold posAns; rw [h, if_neg hc]
theorem from_cases (T : Tab) (q : Nat) : (fromB T q = true ∧ fromC T q = 0) ∨ (fromB T q = false ∧ fromC T q = 3 ∧ fromM T q = ⟨0, 0, fun _ => 0, fun _ => 0⟩) := by
  unfold fromB fromC fromM
  by_cases h : (fin T (fix T) q).length ≤ 16
  · exact .inl ⟨decide_eq_true h, if_pos h⟩
  · exact .inr ⟨decide_eq_false h, if_neg h, if_neg h⟩

set_option maxHeartbeats 4000000 in
set_option maxRecDepth 100000 in
theorem specPos_any (w : World) (m : Mach) (hkm : m.Ok) (q : Int) (k : Mach) (hkk : k.Ok) (r : Int) :
    Calls Tryz.prog 11 #[.agg (mcells m), .int .i64 q, .agg (mcells k), .int .i64 r] w fun e w' => e = .returned (.tuple #[.agg (mcells (posAns m q k r).1), .int .i64 (posAns m q k r).2]) ∧ Below w.heap.size w w' := by
  have hz := zero_mach
  have hS := hid ((((St.start w).newMB m 27).newMB k 27).newMB ⟨0, 0, fun _ => 0, fun _ => 0⟩ 27)
  simp only [heap_alloc_size] at hS
  have hcode := hid (fun W => l07Both_any W m hkm q k hkk r)
  rcases pairI_cases m q k r with ⟨h, _⟩ | h | ⟨l, s, s', q, r, g, g', rfl, hq, rfl, hr, h⟩
  · rw [posAns_n h (by decide)]
    rw [h] at hcode
    replace hkm := hid hkm; replace hkk := hid hkk; clear h
    generalize hzs : mcells ⟨0, 0, fun _ => 0, fun _ => 0⟩ = zs at *
    replace hzs := hid hzs
    go_enter Tryz.func11, Tryz.ntmps11
    go_wp2_with (first
      | ((with_reducible refine gate (N := 13) rfl ?_); refine load_mach rfl _ rfl w.heap.size rfl m hS.out.m2 ?_)
      | ((with_reducible refine gate (N := 15) rfl ?_); refine load_mach rfl _ rfl (w.heap.size + 1) rfl k hS.out.m1 ?_)
      | (go_at_call 83; (with_reducible refine (hcode.out _).mono ?_); rintro e w1 ⟨rfl, hb⟩; replace hS := hid (hS.out.call hb); clear hb hcode)
      | ((with_reducible refine gate (N := 20) rfl ?_); refine build_zero rfl rfl ?_)
      | ((with_reducible refine gateOp (op := .store 27 (.tmp 8) (.tmp 20)) rfl ?_); refine store_mach rfl _ _ rfl (w.heap.size + 1 + 1) rfl ⟨0, 0, fun _ => 0, fun _ => 0⟩ rfl 27 _ hS.out.m0 ?_; intro W3 p2 ho hsz hbl; have pB := hid (hbl _ _ (by omega) hS.out.bel); replace p2 := hid p2; clear ho hsz hbl))
    exact ret_mach_i rfl rfl rfl p2.out rfl ⟨by rw [hzs.out], pB.out⟩
  · rw [posAns_n h (by decide)]
    rw [h] at hcode
    replace hkm := hid hkm; replace hkk := hid hkk; clear h
    generalize hzs : mcells ⟨0, 0, fun _ => 0, fun _ => 0⟩ = zs at *
    replace hzs := hid hzs
    go_enter Tryz.func11, Tryz.ntmps11
    go_wp2_with (first
      | ((with_reducible refine gate (N := 13) rfl ?_); refine load_mach rfl _ rfl w.heap.size rfl m hS.out.m2 ?_)
      | ((with_reducible refine gate (N := 15) rfl ?_); refine load_mach rfl _ rfl (w.heap.size + 1) rfl k hS.out.m1 ?_)
      | (go_at_call 83; (with_reducible refine (hcode.out _).mono ?_); rintro e w1 ⟨rfl, hb⟩; replace hS := hid (hS.out.call hb); clear hb hcode)
      | ((with_reducible refine gate (N := 20) rfl ?_); refine build_zero rfl rfl ?_)
      | ((with_reducible refine gateOp (op := .store 27 (.tmp 8) (.tmp 20)) rfl ?_); refine store_mach rfl _ _ rfl (w.heap.size + 1 + 1) rfl ⟨0, 0, fun _ => 0, fun _ => 0⟩ rfl 27 _ hS.out.m0 ?_; intro W3 p2 ho hsz hbl; have pB := hid (hbl _ _ (by omega) hS.out.bel); replace p2 := hid p2; clear ho hsz hbl))
    exact ret_mach_i rfl rfl rfl p2.out rfl ⟨by rw [hzs.out], pB.out⟩
  · rw [posAns_0 g g' h]
    rw [h] at hcode
    have hma := hid (fun W => l07Product_any W m k l s s' g g' q r hq hr)
    have hN := hid (fun L W (h : St w.heap.size w L W) => h.newMB ⟨0, 0, fun _ => 0, fun _ => 0⟩ 27)
    have hcs := from_cases (prodT m k l s s') (q * s' + r)
    replace hkm := hid hkm; replace hkk := hid hkk; clear h g g'
    generalize fromC (prodT m k l s s') (q * s' + r) = fc at *
    generalize fromM (prodT m k l s s') (q * s' + r) = fm at *
    generalize fromB (prodT m k l s s') (q * s' + r) = fb at *
    rcases hcs with ⟨rfl, rfl⟩ | ⟨rfl, rfl, rfl⟩
    · generalize mcells ⟨0, 0, fun _ => 0, fun _ => 0⟩ = zs at *
      go_enter Tryz.func11, Tryz.ntmps11
      go_wp2_with (first
        | ((with_reducible refine gate (N := 13) rfl ?_); refine load_mach rfl _ rfl w.heap.size rfl m hS.out.m2 ?_)
        | ((with_reducible refine gate (N := 15) rfl ?_); refine load_mach rfl _ rfl (w.heap.size + 1) rfl k hS.out.m1 ?_)
        | (go_at_call 83; (with_reducible refine (hcode.out _).mono ?_); rintro e w1 ⟨rfl, hb⟩; replace hS := hid (hS.out.call hb); clear hb hcode)
        | ((with_reducible refine gate (N := 23) rfl ?_); refine load_mach rfl _ rfl w.heap.size rfl m hS.out.m2 ?_)
        | ((with_reducible refine gate (N := 25) rfl ?_); refine load_mach rfl _ rfl (w.heap.size + 1) rfl k hS.out.m1 ?_)
        | (go_at_call 84; (with_reducible refine (hma.out _).mono ?_); rintro e w2 ⟨rfl, hb⟩; have hle2 := hid (hS.out.call hb).le; replace hS := hid (hN.out _ _ (hS.out.call hb)); clear hb hma)
        | ((with_reducible refine gateOp (op := .store 27 (.tmp 11) (.tmp 28)) rfl ?_); refine store_mach rfl _ _ rfl w2.heap.size rfl fm rfl 27 _ hS.out.m0 ?_; intro W1 p3 ho hsz hbl; replace hS := hid (hS.out.setM hle2.out p3 ho hbl); clear p3 ho hsz hbl)
        | ((with_reducible refine gate (N := 33) rfl ?_); refine load_mach rfl _ rfl w2.heap.size rfl fm hS.out.m0 ?_)
        | ((with_reducible refine gateOp (op := .store 27 (.tmp 8) (.tmp 33)) rfl ?_); refine store_mach rfl _ _ rfl (w.heap.size + 1 + 1) rfl fm rfl 27 _ hS.out.m1 ?_; intro W3 p2 ho hsz hbl; have pB := hid (hbl _ _ (by omega) hS.out.bel); replace p2 := hid p2; clear ho hsz hbl))
      exact ret_mach_i rfl rfl rfl p2.out rfl ⟨rfl, pB.out⟩
    · generalize hzs : mcells ⟨0, 0, fun _ => 0, fun _ => 0⟩ = zs at *
      replace hzs := hid hzs
      go_enter Tryz.func11, Tryz.ntmps11
      go_wp2_with (first
        | ((with_reducible refine gate (N := 13) rfl ?_); refine load_mach rfl _ rfl w.heap.size rfl m hS.out.m2 ?_)
        | ((with_reducible refine gate (N := 15) rfl ?_); refine load_mach rfl _ rfl (w.heap.size + 1) rfl k hS.out.m1 ?_)
        | (go_at_call 83; (with_reducible refine (hcode.out _).mono ?_); rintro e w1 ⟨rfl, hb⟩; replace hS := hid (hS.out.call hb); clear hb hcode)
        | ((with_reducible refine gate (N := 23) rfl ?_); refine load_mach rfl _ rfl w.heap.size rfl m hS.out.m2 ?_)
        | ((with_reducible refine gate (N := 25) rfl ?_); refine load_mach rfl _ rfl (w.heap.size + 1) rfl k hS.out.m1 ?_)
        | (go_at_call 84; (with_reducible refine (hma.out _).mono ?_); rintro e w2 ⟨rfl, hb⟩; have hle2 := hid (hS.out.call hb).le; replace hS := hid (hN.out _ _ (hS.out.call hb)); clear hb hma)
        | ((with_reducible refine gateOp (op := .store 27 (.tmp 11) (.tmp 28)) rfl ?_); refine store_mach rfl _ _ rfl w2.heap.size rfl ⟨0, 0, fun _ => 0, fun _ => 0⟩ (by rw [hzs.out]; rfl) 27 _ hS.out.m0 ?_; intro W1 p3 ho hsz hbl; replace hS := hid (hS.out.setM hle2.out p3 ho hbl); clear p3 ho hsz hbl)
        | ((with_reducible refine gate (N := 32) rfl ?_); refine build_zero rfl rfl ?_)
        | ((with_reducible refine gateOp (op := .store 27 (.tmp 8) (.tmp 32)) rfl ?_); refine store_mach rfl _ _ rfl (w.heap.size + 1 + 1) rfl ⟨0, 0, fun _ => 0, fun _ => 0⟩ rfl 27 _ hS.out.m1 ?_; intro W3 p2 ho hsz hbl; have pB := hid (hbl _ _ (by omega) hS.out.bel); replace p2 := hid p2; clear ho hsz hbl))
      exact ret_mach_i rfl rfl rfl p2.out rfl ⟨by rw [hzs.out], pB.out⟩
set_option maxHeartbeats 4000000 in
set_option maxRecDepth 100000 in
theorem implPos_any (w : World) (m : Mach) (hkm : m.Ok) (q : Int) (k : Mach) (hkk : k.Ok) (r : Int) :
    Calls Tryz.prog 10 #[.agg (mcells m), .int .i64 q, .agg (mcells k), .int .i64 r] w fun e w' => e = .returned (.tuple #[.agg (mcells (posAns m q k r).1), .int .i64 (posAns m q k r).2]) ∧ Below w.heap.size w w' := by
  have hz := zero_mach
  have hS := hid ((((St.start w).newMB m 27).newMB k 27).newMB ⟨0, 0, fun _ => 0, fun _ => 0⟩ 27)
  simp only [heap_alloc_size] at hS
  have hcode := hid (fun W => pairCode_any W m hkm q k hkk r)
  rcases pairI_cases m q k r with ⟨h, _⟩ | h | ⟨l, s, s', q, r, g, g', rfl, hq, rfl, hr, h⟩
  · rw [posAns_n h (by decide)]
    rw [h] at hcode
    replace hkm := hid hkm; replace hkk := hid hkk; clear h
    generalize hzs : mcells ⟨0, 0, fun _ => 0, fun _ => 0⟩ = zs at *
    replace hzs := hid hzs
    go_enter Tryz.func10, Tryz.ntmps10
    go_wp2_with (first
      | ((with_reducible refine gate (N := 11) rfl ?_); refine load_mach rfl _ rfl w.heap.size rfl m hS.out.m2 ?_)
      | ((with_reducible refine gate (N := 13) rfl ?_); refine load_mach rfl _ rfl (w.heap.size + 1) rfl k hS.out.m1 ?_)
      | (go_at_call 81; (with_reducible refine (hcode.out _).mono ?_); rintro e w1 ⟨rfl, hb⟩; replace hS := hid (hS.out.call hb); clear hb hcode)
      | ((with_reducible refine gate (N := 18) rfl ?_); refine build_zero rfl rfl ?_)
      | ((with_reducible refine gateOp (op := .store 27 (.tmp 8) (.tmp 18)) rfl ?_); refine store_mach rfl _ _ rfl (w.heap.size + 1 + 1) rfl ⟨0, 0, fun _ => 0, fun _ => 0⟩ rfl 27 _ hS.out.m0 ?_; intro W3 p2 ho hsz hbl; have pB := hid (hbl _ _ (by omega) hS.out.bel); replace p2 := hid p2; clear ho hsz hbl))
    exact ret_mach_i rfl rfl rfl p2.out rfl ⟨by rw [hzs.out], pB.out⟩
  · rw [posAns_n h (by decide)]
    rw [h] at hcode
    replace hkm := hid hkm; replace hkk := hid hkk; clear h
    generalize hzs : mcells ⟨0, 0, fun _ => 0, fun _ => 0⟩ = zs at *
    replace hzs := hid hzs
    go_enter Tryz.func10, Tryz.ntmps10
    go_wp2_with (first
      | ((with_reducible refine gate (N := 11) rfl ?_); refine load_mach rfl _ rfl w.heap.size rfl m hS.out.m2 ?_)
      | ((with_reducible refine gate (N := 13) rfl ?_); refine load_mach rfl _ rfl (w.heap.size + 1) rfl k hS.out.m1 ?_)
      | (go_at_call 81; (with_reducible refine (hcode.out _).mono ?_); rintro e w1 ⟨rfl, hb⟩; replace hS := hid (hS.out.call hb); clear hb hcode)
      | ((with_reducible refine gate (N := 18) rfl ?_); refine build_zero rfl rfl ?_)
      | ((with_reducible refine gateOp (op := .store 27 (.tmp 8) (.tmp 18)) rfl ?_); refine store_mach rfl _ _ rfl (w.heap.size + 1 + 1) rfl ⟨0, 0, fun _ => 0, fun _ => 0⟩ rfl 27 _ hS.out.m0 ?_; intro W3 p2 ho hsz hbl; have pB := hid (hbl _ _ (by omega) hS.out.bel); replace p2 := hid p2; clear ho hsz hbl))
    exact ret_mach_i rfl rfl rfl p2.out rfl ⟨by rw [hzs.out], pB.out⟩
  · rw [posAns_0 g g' h]
    rw [h] at hcode
    have hma := hid (fun W hm hk => product_any w.heap.size (w.heap.size + 1) W m k hm hk l s s' g g' q r hq hr)
    replace hkm := hid hkm; replace hkk := hid hkk; clear h g g'
    generalize fromC (prodT m k l s s') (q * s' + r) = fc at *
    generalize fromM (prodT m k l s s') (q * s' + r) = fm at *
    generalize mcells ⟨0, 0, fun _ => 0, fun _ => 0⟩ = zs at *
    go_enter Tryz.func10, Tryz.ntmps10
    go_wp2_with (first
      | ((with_reducible refine gate (N := 11) rfl ?_); refine load_mach rfl _ rfl w.heap.size rfl m hS.out.m2 ?_)
      | ((with_reducible refine gate (N := 13) rfl ?_); refine load_mach rfl _ rfl (w.heap.size + 1) rfl k hS.out.m1 ?_)
      | (go_at_call 81; (with_reducible refine (hcode.out _).mono ?_); rintro e w1 ⟨rfl, hb⟩; replace hS := hid (hS.out.call hb); clear hb hcode)
      | (go_at_call 82; (with_reducible refine (hma.out _ hS.out.m2 hS.out.m1).mono ?_); rintro e w1 ⟨rfl, hb⟩; replace hS := hid (hS.out.call hb); clear hb hma)
      | ((with_reducible refine gateOp (op := .store 27 (.tmp 8) (.tmp 23)) rfl ?_); refine store_mach rfl _ _ rfl (w.heap.size + 1 + 1) rfl fm rfl 27 _ hS.out.m0 ?_; intro W3 p2 ho hsz hbl; have pB := hid (hbl _ _ (by omega) hS.out.bel); replace p2 := hid p2; clear ho hsz hbl))
    exact ret_mach_i rfl rfl rfl p2.out rfl ⟨rfl, pB.out⟩
end Go.Proofs.YthmcdfjijkecfaaGreat

/- OrderByPowers: what the program and the reference answer. -/
namespace Go.Proofs.YthmcdfjijkecfaaGreat
open Go.RowKit
set_option linter.unusedVariables false
set_option linter.unusedSimpArgs false

/-- The next power, and its code. -/
def nextM (m : Mach) (l s q : Nat) (now : Mach) : Mach := fromM (prodT now m l now.S.toNat s) (0 * s + q)
def nextC (m : Mach) (l s q : Nat) (now : Mach) : Int := fromC (prodT now m l now.S.toNat s) (0 * s + q)
open Classical in
/-- The search. -/
noncomputable def ordGo (m : Mach) (l s q : Nat) : Nat → Nat → Mach → Int × Int
  | 0, _, _ => (0, 4)
  | f + 1, k, now => if nextC m l s q now = 0 then (if mcells (nextM m l s q now) = mcells (trivM l) then ((k : Int), 0) else ordGo m l s q f (k + 1) (nextM m l s q now)) else (0, 3)
open Classical in
noncomputable def obpAns (m : Mach) (q n : Int) : Int × Int :=
  if codeI m { data := #[] } [q] = 0 then (if 1 ≤ n ∧ n ≤ 16 then ordGo m m.L.toNat m.S.toNat q.toNat n.toNat 1 (trivM m.L.toNat) else (0, 2)) else (0, codeI m { data := #[] } [q])
theorem obpAns_n {m : Mach} {q n c : Int} (h : codeI m { data := #[] } [q] = c) (hc : c ≠ 0) : obpAns m q n = (0, c) := by
  unfold obpAns; rw [h, if_neg hc]
theorem obpAns_r {m : Mach} {q n : Int} (h : codeI m { data := #[] } [q] = 0) (hn : ¬ (1 ≤ n ∧ n ≤ 16)) : obpAns m q n = (0, 2) := by
  unfold obpAns; rw [h, if_pos rfl, if_neg hn]
theorem obpAns_0 {m : Mach} {l s q : Nat} {n : Nat} (g : Good m l s) (h : codeI m { data := #[] } [(q : Int)] = 0) (hn : 1 ≤ n ∧ n ≤ 16) : obpAns m q n = ordGo m l s q n 1 (trivM l) := by
  unfold obpAns; rw [h, if_pos rfl, if_pos (by omega), g.L, g.S]; rfl
theorem next_cases (m : Mach) (l s q : Nat) (hq : q < s) (g : Good m l s) (now : Mach) (sN : Nat) (gN : Good now l sN) :
    (nextC m l s q now = 3 ∧ fromB (prodT now m l sN s) (0 * s + q) = false) ∨ (nextC m l s q now = 0 ∧ fromB (prodT now m l sN s) (0 * s + q) = true ∧ ∃ s2, Good (nextM m l s q now) l s2 ∧ (nextM m l s q now).Ok) := by
  have e : now.S.toNat = sN := by rw [gN.S]; rfl
  have hin := prod_in (s' := s) (show 0 < sN from gN.s1) hq
  rcases from_cases (prodT now m l sN s) (0 * s + q) with ⟨h1, h2⟩ | ⟨h1, h2, _⟩
  · refine .inr ⟨by unfold nextC; rw [e]; exact h2, h1, ?_⟩
    obtain ⟨s2, g2⟩ := fromM_good (prod_ok gN g) hin g.l2 g.l3 (prod_o gN g) (prod_inj gN g) h2
    exact ⟨s2, by unfold nextM; rw [e]; exact g2, by unfold nextM; rw [e]; exact fromM_ok (prod_ok gN g) hin (prod_o256 gN g)⟩
  · exact .inl ⟨by unfold nextC; rw [e]; exact h2, h1⟩
theorem next_M (m : Mach) (l s q : Nat) (now : Mach) (sN : Nat) (gN : Good now l sN) : fromM (prodT now m l sN s) (0 * s + q) = nextM m l s q now ∧ fromC (prodT now m l sN s) (0 * s + q) = nextC m l s q now := by
  have e : now.S.toNat = sN := by rw [gN.S]; rfl
  unfold nextM nextC; rw [e]; exact ⟨rfl, rfl⟩
open Classical in
theorem eq_triv (m : Mach) (l s2 : Nat) (g : Good m l s2) (hk : m.Ok) : ∃ b : Bool, Hid (b = true ↔ mcells m = mcells (trivM l)) ∧ ∀ W : World, (Op.equalIn 10000 27 (.agg (mcells m)) (.agg (mcells (trivM l)))).run Tryz.prog W = .ok b W := by
  have l3 := g.l3; have s16 := g.s16
  exact ⟨_, hid decide_eq_true_iff, fun W => eq_mach W m (trivM l) hk (trivM_ok l l3) l s2 l 1 g.L g.S rfl rfl (by omega) (by omega) (by omega) (by omega) _ decide_eq_true_iff⟩
theorem ordGo_3 {m : Mach} {l s q f k : Nat} {now : Mach} (h : nextC m l s q now = 3) : ordGo m l s q (f + 1) k now = (0, 3) := by
  unfold ordGo; rw [h, if_neg (by decide)]
theorem ordGo_t {m : Mach} {l s q f k : Nat} {now : Mach} (h : nextC m l s q now = 0) (he : mcells (nextM m l s q now) = mcells (trivM l)) : ordGo m l s q (f + 1) k now = ((k : Int), 0) := by
  unfold ordGo; rw [if_pos h, if_pos he]
theorem ordGo_n {m : Mach} {l s q f k : Nat} {now : Mach} (h : nextC m l s q now = 0) (he : ¬ mcells (nextM m l s q now) = mcells (trivM l)) : ordGo m l s q (f + 1) k now = ordGo m l s q f (k + 1) (nextM m l s q now) := by
  conv => lhs; unfold ordGo
  rw [if_pos h, if_neg he]

end Go.Proofs.YthmcdfjijkecfaaGreat

/- Products of lists of states: the program's productOf. -/
namespace Go.Proofs.YthmcdfjijkecfaaGreat
open Go.RowKit
set_option linter.unusedVariables false
set_option linter.unusedSimpArgs false

/-- The product of a list, from what has been made: fs i is (machine, its states, the state). -/
def chn (fs : Nat → Mach × Nat × Nat) (l : Nat) : Nat → Nat → Mach → Mach × Int
  | 0, _, now => (now, 0)
  | f + 1, i, now => if nextC (fs i).1 l (fs i).2.1 (fs i).2.2 now = 0 then chn fs l f (i + 1) (nextM (fs i).1 l (fs i).2.1 (fs i).2.2 now) else (⟨0, 0, fun _ => 0, fun _ => 0⟩, 3)
theorem chn_3 {fs : Nat → Mach × Nat × Nat} {l f i : Nat} {now : Mach} (h : nextC (fs i).1 l (fs i).2.1 (fs i).2.2 now = 3) : chn fs l (f + 1) i now = (⟨0, 0, fun _ => 0, fun _ => 0⟩, 3) := by
  unfold chn; rw [h, if_neg (by decide)]
theorem chn_0 {fs : Nat → Mach × Nat × Nat} {l f i : Nat} {now : Mach} (h : nextC (fs i).1 l (fs i).2.1 (fs i).2.2 now = 0) : chn fs l (f + 1) i now = chn fs l f (i + 1) (nextM (fs i).1 l (fs i).2.1 (fs i).2.2 now) := by
  conv => lhs; unfold chn
  rw [if_pos h]

end Go.Proofs.YthmcdfjijkecfaaGreat

/- Powers: the reference's l07Power. -/
namespace Go.Proofs.YthmcdfjijkecfaaGreat
open Go.RowKit
set_option linter.unusedVariables false
set_option linter.unusedSimpArgs false

/-- The machine whose powers are made. -/
def powB (m : Mach) (l s : Nat) (n : Int) : Mach := if n < 0 then inv m l s else m
theorem powB_good {m : Mach} {l s : Nat} (g : Good m l s) (n : Int) : Good (powB m l s n) l s := by
  unfold powB; split
  · exact inv_good g
  · exact g
/-- A power. -/
def powR (m : Mach) (l s q : Nat) (n : Int) : Mach × Int := chn (fun _ => (powB m l s n, s, q)) l n.natAbs 0 (trivM l)

end Go.Proofs.YthmcdfjijkecfaaGreat

/- Machines of states do not hang on the table: states that do the same have the same machine. -/
namespace Go.Proofs.YthmcdfjijkecfaaGreat
set_option linter.unusedVariables false
set_option linter.unusedSimpArgs false

/-- A relation between the states of two tables that goes on. -/
structure Bis (T U : Tab) (R : Nat → Nat → Prop) : Prop where
  L : T.L = U.L
  l : ∀ {a b}, R a b → a < T.n
  r : ∀ {a b}, R a b → b < U.n
  ot : ∀ {a b}, R a b → ∀ x, x < T.L → T.ot a x = U.ot b x
  nx : ∀ {a b}, R a b → ∀ x, x < T.L → R (T.nx a x) (U.nx b x)
/-- Two states that do the same. -/
def Sim (T : Tab) (p : Nat) (U : Tab) (q : Nat) : Prop := ∃ R, Bis T U R ∧ R p q

section
variable {T U V : Tab} {R : Nat → Nat → Prop}
theorem Sim.refl (hT : T.Ok) {q : Nat} (hq : q < T.n) : Sim T q T q :=
  ⟨fun a b => a = b ∧ a < T.n, ⟨rfl, fun h => h.2, fun h => h.1 ▸ h.2, fun h x _ => by rw [h.1], fun h x hx => ⟨by rw [h.1], hT.nx _ x h.2 hx⟩⟩, rfl, hq⟩
theorem Sim.symm {p q : Nat} (h : Sim T p U q) : Sim U q T p := by
  obtain ⟨R, h, hr⟩ := h
  exact ⟨fun a b => R b a, ⟨h.L.symm, fun k => h.r k, fun k => h.l k, fun k x hx => (h.ot k x (by rw [h.L]; exact hx)).symm, fun k x hx => h.nx k x (by rw [h.L]; exact hx)⟩, hr⟩
theorem Sim.trans {p q r : Nat} (h : Sim T p U q) (k : Sim U q V r) : Sim T p V r := by
  obtain ⟨R, h, hr⟩ := h
  obtain ⟨S, k, ks⟩ := k
  refine ⟨fun a c => ∃ b, R a b ∧ S b c, ⟨h.L.trans k.L, fun ⟨_, h1, _⟩ => h.l h1, fun ⟨_, _, h2⟩ => k.r h2, fun ⟨b, h1, h2⟩ x hx => ?_, fun ⟨b, h1, h2⟩ x hx => ?_⟩, q, hr, ks⟩
  · exact (h.ot h1 x hx).trans (k.ot h2 x (by rw [← h.L]; exact hx))
  · exact ⟨_, h.nx h1 x hx, k.nx h2 x (by rw [← h.L]; exact hx)⟩

theorem Bis.cls (h : Bis T U R) : ∀ k a b a' b', R a b → R a' b' → (cls T k a = cls T k a' ↔ cls U k b = cls U k b')
  | 0, _, _, _, _, _, _ => ⟨fun _ => rfl, fun _ => rfl⟩
  | k + 1, a, b, a', b', h1, h2 => by
    rw [cls_iff, cls_iff, like_iff, like_iff, Bis.cls h k _ _ _ _ h1 h2]
    constructor
    · rintro ⟨e1, e2, e3⟩
      refine ⟨e1, fun x hx => ?_, fun x hx => ?_⟩
      · have hx' : x < T.L := by rw [h.L]; exact hx
        rw [← h.ot h1 x hx', ← h.ot h2 x hx']; exact e2 x hx'
      · have hx' : x < T.L := by rw [h.L]; exact hx
        exact (Bis.cls h k _ _ _ _ (h.nx h1 x hx') (h.nx h2 x hx')).1 (e3 x hx')
    · rintro ⟨e1, e2, e3⟩
      refine ⟨e1, fun x hx => ?_, fun x hx => ?_⟩
      · rw [h.ot h1 x hx, h.ot h2 x hx]; exact e2 x (by rw [← h.L]; exact hx)
      · exact (Bis.cls h k _ _ _ _ (h.nx h1 x hx) (h.nx h2 x hx)).2 (e3 x (by rw [← h.L]; exact hx))

theorem stable_ex (hT : T.Ok) : ∃ k, k ≤ T.n ∧ Stable T k := by
  apply Classical.byContradiction
  intro hn
  have key : ∀ j, j ≤ T.n → j + 1 ≤ cnt1 T (j + 1) T.n := by
    intro j
    induction j with
    | zero => intro _; exact cnt1_pos T 0 T.n hT.pos
    | succ j ih =>
      intro hj
      have h1 := ih (by omega)
      have h2 := stable_or T j (fun hs => hn ⟨j + 1, hj, hs⟩)
      show j + 1 + 1 ≤ cnt1 T (j + 2) T.n
      omega
  have h1 := key T.n (Nat.le_refl _)
  have h2 := cnt1_le T (T.n + 1) T.n
  omega
theorem fix_big (hT : T.Ok) (d q : Nat) (hq : q < T.n) : Go.Proofs.YthmcdfjijkecfaaGreat.cls T (T.n + d) q = fix T q := by
  obtain ⟨k, hk, hs⟩ := stable_ex hT
  have h1 := stable_all hT hs (T.n + d - k) q hq
  rw [show k + (T.n + d - k) = T.n + d by omega] at h1
  rw [h1, fix_of hT hk hs q hq]
theorem fix_fix (T : Tab) (q : Nat) : fix T (fix T q) = fix T q := cls_cls T T.n q
theorem fix_ot (T : Tab) (q x : Nat) (hx : x < T.L) : T.ot (fix T q) x = T.ot q x := ((like_iff _ _ _ _).1 (cls_like T T.n q)).2.1 x hx
theorem fix_nx (hT : T.Ok) {q x : Nat} (hq : q < T.n) (hx : x < T.L) : fix T (T.nx (fix T q) x) = fix T (T.nx q x) := by
  have hf := fix_lt (T := T) q hq
  have h : Go.Proofs.YthmcdfjijkecfaaGreat.cls T (T.n + 1 + 1) (fix T q) = Go.Proofs.YthmcdfjijkecfaaGreat.cls T (T.n + 1 + 1) q := by
    have h1 := fix_big hT 2 _ hf
    have h2 := fix_big hT 2 _ hq
    rw [show T.n + 2 = T.n + 1 + 1 by omega] at h1 h2
    rw [h1, h2, fix_fix]
  exact ((like_iff _ _ _ _).1 ((cls_iff T (T.n + 1) _ _).1 h)).2.2 x hx
theorem Bis.fix (h : Bis T U R) (hT : T.Ok) (hU : U.Ok) {a b a' b' : Nat} (h1 : R a b) (h2 : R a' b') : fix T a = fix T a' ↔ fix U b = fix U b' := by
  rw [← fix_big hT U.n a (h.l h1), ← fix_big hT U.n a' (h.l h2), ← fix_big hU T.n b (h.r h1), ← fix_big hU T.n b' (h.r h2), Nat.add_comm U.n T.n]
  exact h.cls _ _ _ _ _ h1 h2

/-- Classes of states that do the same. -/
def Rc (T U : Tab) (R : Nat → Nat → Prop) (c d : Nat) : Prop := ∃ a b, R a b ∧ c = Go.Proofs.YthmcdfjijkecfaaGreat.fix T a ∧ d = Go.Proofs.YthmcdfjijkecfaaGreat.fix U b
theorem Rc.of {a b : Nat} (h : R a b) : Rc T U R (Go.Proofs.YthmcdfjijkecfaaGreat.fix T a) (Go.Proofs.YthmcdfjijkecfaaGreat.fix U b) := ⟨a, b, h, rfl, rfl⟩
theorem Rc.inj (h : Bis T U R) (hT : T.Ok) (hU : U.Ok) {c d c' d' : Nat} (h1 : Rc T U R c d) (h2 : Rc T U R c' d') : c = c' ↔ d = d' := by
  obtain ⟨a, b, hr, rfl, rfl⟩ := h1
  obtain ⟨a', b', hr', rfl, rfl⟩ := h2
  exact h.fix hT hU hr hr'
theorem Rc.nx (h : Bis T U R) (hT : T.Ok) (hU : U.Ok) {c d x : Nat} (h1 : Rc T U R c d) (hx : x < T.L) : Rc T U R (Go.Proofs.YthmcdfjijkecfaaGreat.fix T (T.nx c x)) (Go.Proofs.YthmcdfjijkecfaaGreat.fix U (U.nx d x)) := by
  obtain ⟨a, b, hr, rfl, rfl⟩ := h1
  rw [fix_nx hT (h.l hr) hx, fix_nx hU (h.r hr) (by rw [← h.L]; exact hx)]
  exact Rc.of (h.nx hr x hx)
theorem Rc.ot (h : Bis T U R) {c d x : Nat} (h1 : Rc T U R c d) (hx : x < T.L) : T.ot c x = U.ot d x := by
  obtain ⟨a, b, hr, rfl, rfl⟩ := h1
  rw [fix_ot T a x hx, fix_ot U b x (by rw [← h.L]; exact hx)]
  exact h.ot hr x hx

/-- Lists in step. -/
inductive Par (S : Nat → Nat → Prop) : List Nat → List Nat → Prop
  | nil : Par S [] []
  | cons {a b : Nat} {l m : List Nat} : S a b → Par S l m → Par S (a :: l) (b :: m)
section
variable {S : Nat → Nat → Prop} {l m : List Nat}
theorem Par.length (h : Par S l m) : l.length = m.length := by
  induction h with
  | nil => rfl
  | cons _ _ ih => simp [ih]
theorem Par.snoc {a b : Nat} (h : Par S l m) (hs : S a b) : Par S (l ++ [a]) (m ++ [b]) := by
  induction h with
  | nil => exact .cons hs .nil
  | cons h1 _ ih => exact .cons h1 ih
theorem Par.get (h : Par S l m) : ∀ {i a b : Nat}, l[i]? = some a → m[i]? = some b → S a b := by
  induction h with
  | nil => intro i a b h1; simp at h1
  | cons hs _ ih =>
    intro i a b h1 h2
    cases i with
    | zero => simp at h1 h2; subst h1; subst h2; exact hs
    | succ i => simp at h1 h2; exact ih h1 h2
theorem Par.mem (h : Par S l m) (hi : ∀ {c d c' d'}, S c d → S c' d' → (c = c' ↔ d = d')) {c d : Nat} (hs : S c d) : c ∈ l ↔ d ∈ m := by
  induction h with
  | nil => simp
  | cons h1 _ ih => rw [List.mem_cons, List.mem_cons, ih, hi hs h1]
theorem Par.idxOf (h : Par S l m) (hi : ∀ {c d c' d'}, S c d → S c' d' → (c = c' ↔ d = d')) {c d : Nat} (hs : S c d) : l.idxOf c = m.idxOf d := by
  induction h with
  | nil => rfl
  | @cons a b l m h1 _ ih =>
    rw [List.idxOf_cons, List.idxOf_cons, ih]
    have := hi h1 hs
    by_cases e : a = c
    · have e2 := this.1 e
      subst e; subst e2; simp
    · have e2 : ¬ b = d := fun k => e (this.2 k)
      have f1 : (a == c) = false := by simpa using e
      have f2 : (b == d) = false := by simpa using e2
      rw [f1, f2]
end
theorem par_meet (h : Bis T U R) (hT : T.Ok) (hU : U.Ok) {l m : List Nat} {c d : Nat} (hp : Par (Rc T U R) l m) (hs : Rc T U R c d) : Par (Rc T U R) (meet l c) (meet m d) := by
  have hm := hp.mem (fun h1 h2 => Rc.inj h hT hU h1 h2) hs
  unfold meet
  by_cases e : c ∈ l
  · rw [if_pos e, if_pos (hm.1 e)]; exact hp
  · rw [if_neg e, if_neg (fun k => e (hm.2 k))]; exact hp.snoc hs
theorem par_meets (h : Bis T U R) (hT : T.Ok) (hU : U.Ok) {l m : List Nat} {s t : Nat} (hp : Par (Rc T U R) l m) (hs : Rc T U R s t) : ∀ x, x ≤ T.L → Par (Rc T U R) (meets T (Go.Proofs.YthmcdfjijkecfaaGreat.fix T) s l x) (meets U (Go.Proofs.YthmcdfjijkecfaaGreat.fix U) t m x)
  | 0, _ => hp
  | x + 1, hx => par_meet h hT hU (par_meets h hT hU hp hs x (by omega)) (hs.nx h hT hU (by omega))
theorem par_bfs (h : Bis T U R) (hT : T.Ok) (hU : U.Ok) {p q : Nat} (hr : R p q) : ∀ i, Par (Rc T U R) (bfs T (Go.Proofs.YthmcdfjijkecfaaGreat.fix T) p i) (bfs U (Go.Proofs.YthmcdfjijkecfaaGreat.fix U) q i)
  | 0 => .cons (Rc.of hr) .nil
  | i + 1 => by
    have ih := par_bfs h hT hU hr i
    have hl := ih.length
    unfold bfs
    rcases Nat.lt_or_ge i (bfs T (Go.Proofs.YthmcdfjijkecfaaGreat.fix T) p i).length with hi | hi
    · rw [List.getElem?_eq_getElem hi, List.getElem?_eq_getElem (show i < (bfs U (Go.Proofs.YthmcdfjijkecfaaGreat.fix U) q i).length by omega)]
      dsimp only
      have hs := ih.get (List.getElem?_eq_getElem hi) (List.getElem?_eq_getElem (show i < (bfs U (Go.Proofs.YthmcdfjijkecfaaGreat.fix U) q i).length by omega))
      have := par_meets h hT hU ih hs T.L (Nat.le_refl _)
      rw [h.L] at this ⊢
      exact this
    · rw [List.getElem?_eq_none hi, List.getElem?_eq_none (show (bfs U (Go.Proofs.YthmcdfjijkecfaaGreat.fix U) q i).length ≤ i by omega)]
      exact ih
theorem fin_big (hT : T.Ok) {q : Nat} (hq : q < T.n) (d : Nat) : bfs T (Go.Proofs.YthmcdfjijkecfaaGreat.fix T) q (T.n + d) = fin T (Go.Proofs.YthmcdfjijkecfaaGreat.fix T) q :=
  bfs_stay T _ (bfs_uniq hT (fun r hr => fix_lt r hr) q hq T.n).len d
theorem par_fin (h : Bis T U R) (hT : T.Ok) (hU : U.Ok) {p q : Nat} (hr : R p q) : Par (Rc T U R) (fin T (Go.Proofs.YthmcdfjijkecfaaGreat.fix T) p) (fin U (Go.Proofs.YthmcdfjijkecfaaGreat.fix U) q) := by
  rw [← fin_big hT (h.l hr) U.n, ← fin_big hU (h.r hr) T.n, Nat.add_comm U.n T.n]
  exact par_bfs h hT hU hr _
theorem gth_eq (h : Bis T U R) (hT : T.Ok) (hU : U.Ok) {l m : List Nat} (hp : Par (Rc T U R) l m) : gth T (Go.Proofs.YthmcdfjijkecfaaGreat.fix T) l = gth U (Go.Proofs.YthmcdfjijkecfaaGreat.fix U) m := by
  have hl := hp.length
  have key : ∀ p, (p / 3 < l.length ∨ p / 3 = l.length ∧ p % 3 < 0) ∧ p % 3 < U.L → Rc T U R (l.getD (p / 3) 0) (m.getD (p / 3) 0) := fun p hp' => by
    have h1 : p / 3 < l.length := by omega
    have h2 : p / 3 < m.length := by omega
    rw [List.getD_eq_getElem?_getD, List.getD_eq_getElem?_getD, List.getElem?_eq_getElem h1, List.getElem?_eq_getElem h2]
    exact hp.get (List.getElem?_eq_getElem h1) (List.getElem?_eq_getElem h2)
  unfold gth gthP
  rw [← hl, h.L]
  congr 1
  · funext p
    by_cases e : (p / 3 < l.length ∨ p / 3 = l.length ∧ p % 3 < 0) ∧ p % 3 < U.L
    · rw [if_pos e, if_pos e]
      exact hp.idxOf (fun h1 h2 => Rc.inj h hT hU h1 h2) ((key p e).nx h hT hU (by rw [h.L]; exact e.2))
    · rw [if_neg e, if_neg e]
  · funext p
    by_cases e : (p / 3 < l.length ∨ p / 3 = l.length ∧ p % 3 < 0) ∧ p % 3 < U.L
    · rw [if_pos e, if_pos e]
      exact (key p e).ot h (by rw [h.L]; exact e.2)
    · rw [if_neg e, if_neg e]
/-- States that do the same have the same machine. -/
theorem Sim.canon {p q : Nat} (h : Sim T p U q) (hT : T.Ok) (hU : U.Ok) : fromM T p = fromM U q ∧ fromC T p = fromC U q := by
  obtain ⟨R, h, hr⟩ := h
  have hp := par_fin h hT hU hr
  have hl := hp.length
  unfold fromM fromC
  rw [hl, gth_eq h hT hU hp]
  exact ⟨rfl, rfl⟩
theorem fromC_eq (T : Tab) (q : Nat) : fromC T q = 0 ↔ (fin T (Go.Proofs.YthmcdfjijkecfaaGreat.fix T) q).length ≤ 16 := by
  unfold fromC
  by_cases h : (fin T (Go.Proofs.YthmcdfjijkecfaaGreat.fix T) q).length ≤ 16
  · rw [if_pos h]; exact ⟨fun _ => h, fun _ => rfl⟩
  · rw [if_neg h]; exact ⟨fun k => absurd k (by decide), fun k => absurd k h⟩
theorem fin_zero (T : Tab) (q : Nat) : (fin T (Go.Proofs.YthmcdfjijkecfaaGreat.fix T) q)[0]? = some (Go.Proofs.YthmcdfjijkecfaaGreat.fix T q) := by
  obtain ⟨r, hr⟩ := bfs_pre T (Go.Proofs.YthmcdfjijkecfaaGreat.fix T) q 0 T.n
  rw [Nat.zero_add] at hr
  unfold fin
  rw [hr]; simp [bfs]
/-- A table's few states are no limit. -/
theorem fromC_few (hT : T.Ok) {q : Nat} (hq : q < T.n) (hn : T.n ≤ 16) : fromC T q = 0 := by
  rw [fromC_eq]
  exact Nat.le_trans (bfs_uniq hT (fun r hr => fix_lt r hr) q hq T.n).len hn
/-- The machine of a state does what the state does. -/
theorem Sim.of_from (hT : T.Ok) {q : Nat} (hq : q < T.n) (h3 : T.L ≤ 3) (hc : fromC T q = 0) {s : Nat} (hs : (fromM T q).S = s) : Sim (tabOf (fromM T q) T.L s) 0 T q := by
  have h16 := (fromC_eq T q).1 hc
  have hM : fromM T q = gth T (Go.Proofs.YthmcdfjijkecfaaGreat.fix T) (fin T (Go.Proofs.YthmcdfjijkecfaaGreat.fix T) q) := by unfold fromM; rw [if_pos h16]
  rw [hM] at hs ⊢
  have hcl := fin_closed hT (c := Go.Proofs.YthmcdfjijkecfaaGreat.fix T) (fun r hr => fix_lt r hr) hq
  have hf0 := fin_zero T q
  generalize fin T (Go.Proofs.YthmcdfjijkecfaaGreat.fix T) q = st at *
  have hs' : s = st.length := by
    have : ((st.length : Nat) : Int) = s := hs
    omega
  subst hs'
  have lt : ∀ {i c : Nat}, st[i]? = some c → i < st.length := fun h => (List.getElem?_eq_some_iff.1 h).1
  refine ⟨fun i a => st[i]? = some (Go.Proofs.YthmcdfjijkecfaaGreat.fix T a) ∧ a < T.n, ⟨rfl, fun h => lt h.1, fun h => h.2, fun {i a} h x hx => ?_, fun {i a} h x hx => ⟨?_, hT.nx _ x h.2 hx⟩⟩, hf0, hq⟩
  · have hi := lt h.1
    have hx' : x < T.L := hx
    show (gth T (Go.Proofs.YthmcdfjijkecfaaGreat.fix T) st).ot (i * 3 + x) = _
    unfold gth gthP
    dsimp only
    rw [if_pos (by omega), show (i * 3 + x) / 3 = i by omega, show (i * 3 + x) % 3 = x by omega, List.getD_eq_getElem?_getD, h.1]
    exact fix_ot T a x hx'
  · have hi := lt h.1
    have hx' : x < T.L := hx
    show st[(gth T (Go.Proofs.YthmcdfjijkecfaaGreat.fix T) st).nx (i * 3 + x)]? = _
    have e : (gth T (Go.Proofs.YthmcdfjijkecfaaGreat.fix T) st).nx (i * 3 + x) = st.idxOf (Go.Proofs.YthmcdfjijkecfaaGreat.fix T (T.nx a x)) := by
      unfold gth gthP
      dsimp only
      rw [if_pos (by omega), show (i * 3 + x) / 3 = i by omega, show (i * 3 + x) % 3 = x by omega, List.getD_eq_getElem?_getD, h.1]
      show st.idxOf (Go.Proofs.YthmcdfjijkecfaaGreat.fix T (T.nx (Go.Proofs.YthmcdfjijkecfaaGreat.fix T a) x)) = _
      rw [fix_nx hT h.2 hx']
    have hmem : Go.Proofs.YthmcdfjijkecfaaGreat.fix T (T.nx a x) ∈ st := by
      have := hcl _ (List.mem_of_getElem? h.1) x hx'
      rwa [fix_nx hT h.2 hx'] at this
    rw [e]
    have hlt := List.idxOf_lt_length_of_mem hmem
    rw [List.getElem?_eq_getElem hlt, List.getElem_idxOf hlt]
end

section
variable {m m' k k' : Mach} {l s s' t t' : Nat}
theorem Sim.prod {a a' b b' : Nat} (g : Good m l s) (h : Sim (tabOf m l s) a (tabOf m' l s') a') (h' : Sim (tabOf k l t) b (tabOf k' l t') b') :
    Sim (prodT m k l s t) (a * t + b) (prodT m' k' l s' t') (a' * t' + b') := by
  obtain ⟨R, h, hr⟩ := h
  obtain ⟨S, h', hs⟩ := h'
  refine ⟨fun P P' => ∃ a b a' b', R a a' ∧ S b b' ∧ P = a * t + b ∧ P' = a' * t' + b', ⟨rfl, ?_, ?_, ?_, ?_⟩, a, b, a', b', hr, hs, rfl, rfl⟩
  · rintro P P' ⟨a, b, a', b', h1, h2, rfl, rfl⟩
    exact prod_in (h.l h1) (h'.l h2)
  · rintro P P' ⟨a, b, a', b', h1, h2, rfl, rfl⟩
    exact prod_in (h.r h1) (h'.r h2)
  · rintro P P' ⟨a, b, a', b', h1, h2, rfl, rfl⟩ x hx
    have hx' : x < l := hx
    have hb : b < t := h'.l h2
    have hb' : b' < t' := h'.r h2
    rw [prod_ot m k l s x hb rfl, prod_ot m' k' l s' x hb' rfl]
    have e : m.ot (a * 3 + x) = m'.ot (a' * 3 + x) := h.ot h1 x hx'
    rw [← e]
    exact h'.ot h2 _ (g.ot a x (h.l h1) hx')
  · rintro P P' ⟨a, b, a', b', h1, h2, rfl, rfl⟩ x hx
    have hx' : x < l := hx
    have hb : b < t := h'.l h2
    have hb' : b' < t' := h'.r h2
    rw [prod_nx m k l s x hb rfl, prod_nx m' k' l s' x hb' rfl]
    have e : m.ot (a * 3 + x) = m'.ot (a' * 3 + x) := h.ot h1 x hx'
    rw [← e]
    exact ⟨_, _, _, _, h.nx h1 x hx', h'.nx h2 _ (g.ot a x (h.l h1) hx'), rfl, rfl⟩
/-- Behind a trivial state comes the other one alone. -/
theorem Sim.triv {q : Nat} (g : Good k l t) (hq : q < t) : Sim (prodT (trivM l) k l 1 t) (0 * t + q) (tabOf k l t) q := by
  refine ⟨fun P b => P = 0 * t + b ∧ b < t, ⟨rfl, ?_, fun h => h.2, ?_, ?_⟩, rfl, hq⟩
  · rintro P b ⟨rfl, hb⟩
    exact prod_in (by omega) hb
  · rintro P b ⟨rfl, hb⟩ x hx
    have hx' : x < l := hx
    rw [prod_ot (trivM l) k l 1 x hb rfl]
    show k.ot (b * 3 + (if 0 * 3 + x < l then 0 * 3 + x else 0)) = k.ot (b * 3 + x)
    rw [if_pos (by omega), show 0 * 3 + x = x by omega]
  · rintro P b ⟨rfl, hb⟩ x hx
    have hx' : x < l := hx
    rw [prod_nx (trivM l) k l 1 x hb rfl]
    refine ⟨?_, g.nx b x hb hx'⟩
    show 0 * t + k.nx (b * 3 + (if 0 * 3 + x < l then 0 * 3 + x else 0)) = 0 * t + k.nx (b * 3 + x)
    rw [if_pos (by omega), show 0 * 3 + x = x by omega]
end
end Go.Proofs.YthmcdfjijkecfaaGreat

/- PowerOfState: what the reference answers. -/
namespace Go.Proofs.YthmcdfjijkecfaaGreat
open Go.RowKit
set_option linter.unusedVariables false
set_option linter.unusedSimpArgs false

open Classical in
/-- What PowerOfState answers. -/
noncomputable def powAns (m : Mach) (q n : Int) : Mach × Int :=
  if codeI m { data := #[] } [q] = 0 then (if -16 ≤ n ∧ n ≤ 16 then powR m m.L.toNat m.S.toNat q.toNat n else (⟨0, 0, fun _ => 0, fun _ => 0⟩, 2)) else (⟨0, 0, fun _ => 0, fun _ => 0⟩, codeI m { data := #[] } [q])
theorem powAns_n {m : Mach} {q n c : Int} (h : codeI m { data := #[] } [q] = c) (hc : c ≠ 0) : powAns m q n = (⟨0, 0, fun _ => 0, fun _ => 0⟩, c) := by
  unfold powAns; rw [h, if_neg hc]
theorem powAns_r {m : Mach} {q n : Int} (h : codeI m { data := #[] } [q] = 0) (hn : ¬ (-16 ≤ n ∧ n ≤ 16)) : powAns m q n = (⟨0, 0, fun _ => 0, fun _ => 0⟩, 2) := by
  unfold powAns; rw [h, if_pos rfl, if_neg hn]
theorem powAns_0 {m : Mach} {l s q : Nat} {n : Int} (g : Good m l s) (h : codeI m { data := #[] } [(q : Int)] = 0) (hn : -16 ≤ n ∧ n ≤ 16) : powAns m q n = powR m l s q n := by
  unfold powAns; rw [h, if_pos rfl, if_pos hn, g.L, g.S]; rfl
theorem chn_cases (fs : Nat → Mach × Nat × Nat) (l : Nat) : ∀ f i now, (chn fs l f i now).2 = 0 ∨ ((chn fs l f i now).2 = 3 ∧ (chn fs l f i now).1 = ⟨0, 0, fun _ => 0, fun _ => 0⟩)
  | 0, _, _ => .inl rfl
  | f + 1, i, now => by
    by_cases h : nextC (fs i).1 l (fs i).2.1 (fs i).2.2 now = 0
    · rw [chn_0 h]; exact chn_cases fs l f (i + 1) _
    · right
      unfold chn
      rw [if_neg h]
      exact ⟨rfl, rfl⟩

end Go.Proofs.YthmcdfjijkecfaaGreat

/- AreEqualAcross: what the program and the reference answer. -/
namespace Go.Proofs.YthmcdfjijkecfaaGreat
open Go.RowKit
set_option linter.unusedVariables false
set_option linter.unusedSimpArgs false

open Classical in
/-- What AreEqualAcross answers. -/
noncomputable def acrAns (m : Mach) (q : Int) (k : Mach) (r : Int) : Bool × Int := if pairI m q k r = 0 then (decide (mcells (fromM (tabOf m m.L.toNat m.S.toNat) q.toNat) = mcells (fromM (tabOf k k.L.toNat k.S.toNat) r.toNat)), 0) else (false, pairI m q k r)
open Classical in
/-- .. and what the comparison does. -/
theorem eq_from (m k : Mach) (l s s' q r : Nat) (g : Good m l s) (g' : Good k l s') (hq : q < s) (hr : r < s') (h : pairI m q k r = 0) :
    ∃ b : Bool, acrAns m q k r = (b, 0) ∧ ∀ W : World, (Op.equalIn 10000 27 (.agg (mcells (fromM (tabOf m l s) q))) (.agg (mcells (fromM (tabOf k l s') r)))).run Tryz.prog W = .ok b W := by
  have hl : l < 1000000 := by have := g.l3; omega
  obtain ⟨a, ha, la⟩ := fromM_L (tabOf m l s) q
  obtain ⟨b, hb, lb⟩ := fromM_S (tabOf m l s) q
  obtain ⟨a', ha', la'⟩ := fromM_L (tabOf k l s') r
  obtain ⟨b', hb', lb'⟩ := fromM_S (tabOf k l s') r
  have e1 : (tabOf m l s).L = l := rfl
  have e2 : (tabOf k l s').L = l := rfl
  have hA : acrAns m q k r = (decide (mcells (fromM (tabOf m l s) q) = mcells (fromM (tabOf k l s') r)), 0) := by
    unfold acrAns; rw [if_pos h, g.L, g.S, g'.L, g'.S]; rfl
  exact ⟨_, hA, fun W => eq_mach W _ _ (fromM_ok (tabOf_ok g) hq (ot256 g)) (fromM_ok (tabOf_ok g') hr (ot256 g')) a b a' b' ha hb ha' hb' (by omega) (by omega) (by omega) (by omega) _ decide_eq_true_iff⟩
theorem acrAns_n {m : Mach} {q : Int} {k : Mach} {r c : Int} (h : pairI m q k r = c) (hc : c ≠ 0) : acrAns m q k r = (false, c) := by
  unfold acrAns; rw [h, if_neg hc]

end Go.Proofs.YthmcdfjijkecfaaGreat

/- The machine of a text: the reference's l01Read. -/
namespace Go.Proofs.YthmcdfjijkecfaaGreat
open Go.RowKit
set_option linter.unusedVariables false
set_option linter.unusedSimpArgs false
-- @LONG

/-- A text begins like a machine's. -/
def HeadOk (t : ByteArray) : Prop := 2 ≤ t.size ∧ bt t 1 = 58 ∧ (bt t 0 = 50 ∨ bt t 0 = 51)
/-- A part is that of a state. -/
def PartOk (L : Nat) (p : ByteArray) : Prop := p.size = 2 * L ∧ ∀ x, x < L → (48 ≤ bt p (2 * x) ∧ bt p (2 * x) ≤ 50) ∧ 97 ≤ bt p (2 * x + 1) ∧ bt p (2 * x + 1) ≤ 112
def bpt (ps : List ByteArray) (q : Nat) : ByteArray := ps.getD q { data := #[] }
def rdP (L : Nat) (ps : List ByteArray) (q x : Nat) : Mach := filP L ps.length (fun q x => bt (bpt ps q) (2 * x + 1) - 97) (fun q x => bt (bpt ps q) (2 * x) - 48) q x
/-- The machine of parts. -/
def rdM (L : Nat) (ps : List ByteArray) : Mach := rdP L ps ps.length 0
def rdS (t : ByteArray) : List ByteArray := splL (t.extract 2 t.size) 44
open Classical in
/-- What l01Read answers. -/
noncomputable def rdAns (t : ByteArray) : Mach × Bool :=
  if HeadOk t ∧ (rdS t).length ≤ 16 ∧ ∀ p ∈ rdS t, PartOk (bt t 0 - 48) p then (rdM (bt t 0 - 48) (rdS t), decide (IsM (rdM (bt t 0 - 48) (rdS t)))) else (zeroM, false)
theorem rdP_ok (L : Nat) (ps : List ByteArray) (q x : Nat) : (rdP L ps q x).Ok := filP_ok (fun q x => by have := bt_lt (bpt ps q) (2 * x + 1); omega) (fun q x => by have := bt_lt (bpt ps q) (2 * x); omega) q x
theorem zeroM_ok : zeroM.Ok := fun _ => ⟨by show 0 < 256; omega, by show 0 < 256; omega⟩
theorem rdAns_ok (t : ByteArray) : (rdAns t).1.Ok := by
  unfold rdAns; split
  · exact rdP_ok _ _ _ _
  · exact zeroM_ok
open Classical in
set_option maxHeartbeats 4000000 in
set_option maxRecDepth 100000 in
theorem l01Read_any (w : World) (t : ByteArray) (hs : t.size ≤ 100000) :
    Calls Tryz.prog 237 #[.string t] w fun e w' => e = .returned (.tuple #[.agg (mcells (rdAns t).1), .bool (rdAns t).2]) ∧ Below w.heap.size w w' := by
  have hz := zeroM_run
  have hS := hid ((St.start w).newMB zeroM 27)
  by_cases h2 : 2 ≤ t.size
  · have hb1 : (t[1]'(by omega)).toNat = bt t 1 := bt_eq (by omega)
    have hb0 : (t[0]'(by omega)).toNat = bt t 0 := bt_eq (by omega)
    by_cases h58 : bt t 1 = 58
    · by_cases h50 : bt t 0 = 50 ∨ bt t 0 = 51
      · rcases h50 with h50 | h50
        · have hq : bt t 0 - 48 = 2 := by omega
          have h50' : bt t 0 = 50 ∨ bt t 0 = 51 := .inl h50
          rw [h50] at hb0
          have hb0 : (t[0]'(by omega)).toNat = 50 := hb0
          have hH : HeadOk t := ⟨h2, h58, h50'⟩
          have hAf := hid (fun (h : ¬ ((rdS t).length ≤ 16 ∧ ∀ p ∈ rdS t, PartOk 2 p)) => (show rdAns t = (zeroM, false) from by unfold rdAns; rw [if_neg (fun h' => h (by have h3 := h'.2; rw [hq] at h3; exact h3))]))
          have hAt := hid (fun (h16 : (rdS t).length ≤ 16) (hp : ∀ p ∈ rdS t, PartOk 2 p) => (show rdAns t = (rdM 2 (rdS t), decide (IsM (rdM 2 (rdS t)))) from by unfold rdAns; rw [hq, if_pos ⟨hH, h16, hp⟩]))
          have hsp := hid (fun W => l01Split_any W (t.extract 2 t.size) (by rw [ByteArray.size_extract]; omega) 44)
          simp only [show ((44 : Nat) : Int) = 44 from rfl] at hsp
          have hsp' := hid (show splL (t.extract 2 t.size) 44 = rdS t from rfl)
          rw [hsp'.out] at hsp
          have hpl := hid (splL_len (t.extract 2 t.size) 44)
          have hpz := hid (splL_sz (t.extract 2 t.size) 44)
          rw [hsp'.out] at hpl hpz
          have hxz : (t.extract 2 t.size).size ≤ 100000 := by rw [ByteArray.size_extract]; omega
          have d2 : decide ((t.size : Int) < 2) = false := decide_eq_false (by omega)
          have hz2 := hid (fun L W (h : St w.heap.size w L W) => h.newMB zeroM 27)
          have hil := hid (strs_length (rdS t))
          have hpn : 1 ≤ (rdS t).length := hpl.out.2
          have hpm : (rdS t).length ≤ 100001 := by have := hpl.out.1; omega
          rw [h58] at hb1
          clear hsp' h58 hH hq h50'
          generalize rdAns t = ans at *
          generalize rdS t = ps at *
          go_enter Tryz.func237, Tryz.ntmps237
          go_upto_region 5 with (first
            | (go_at_call 262; (with_reducible refine (hsp.out _).mono ?_); rintro e w1 ⟨v, rfl, hO, hb⟩; (obtain ⟨g, c, rfl, _, _⟩ := hO.blk (fun e => by have h1 := congrArg List.length e; rw [hil.out, List.length_nil] at h1; omega)); rw [hil.out] at hO ⊢; have hle2 := hid ((hS.out.call hb).le); replace hS := hid (hz2.out _ _ (hS.out.callOwn hb hO)); clear hb hO hsp)
            | ((with_reducible refine gate (N := 38) rfl ?_); refine build_mach rfl _ _ rfl 2 (ps.length : Int) rfl rfl ?_)
            | ((with_reducible refine gateOp (op := .store 27 (.tmp 5) (.tmp 38)) rfl ?_); refine store_mach rfl _ _ rfl w1.heap.size rfl ⟨2, (ps.length : Int), fun _ => 0, fun _ => 0⟩ rfl 27 _ hS.out.m0 ?_; intro w2 p3 ho hsz hbl; replace hS := hid (hS.out.setM hle2.out p3 ho hbl); clear p3 ho hsz hbl))
          generalize w1.heap.size = b5 at *
          by_cases h16 : ps.length ≤ 16
          · have d16 : decide ((ps.length : Int) > 16) = false := decide_eq_false (by omega)
            replace hS := hid (show St w.heap.size w [Asn.mb 27 b5 (rdP 2 ps 0 0), Asn.own w.heap.size 9 (.slice (some ⟨g, 0, none⟩) ps.length c) (strs ps), Asn.mb 27 w.heap.size zeroM] w2 from by
              rw [show rdP 2 ps 0 0 = ⟨2, (ps.length : Int), fun _ => 0, fun _ => 0⟩ from filP_zero]; exact hS.out)
            go_wp2
            go_loopw [6] (fun i wr => ∃ q : Nat, q ≤ ps.length ∧ i = .int .i64 q ∧ Hid (∀ p ∈ ps.take q, PartOk 2 p) ∧ St w.heap.size w [Asn.mb 27 b5 (rdP 2 ps q 0), Asn.own w.heap.size 9 (.slice (some ⟨g, 0, none⟩) ps.length c) (strs ps), Asn.mb 27 w.heap.size zeroM] wr) (fun i _ => ps.length - (intOf i).toNat)
            case atStart => exact ⟨0, Nat.zero_le _, rfl, hid (fun p hp => by simp at hp), hS.out⟩
            case round =>
              obtain ⟨q, hq, rfl, hpk, rS⟩ := hrel
              clear hS hb0 hb1 d2 d16
              have cL : wr.cell? ⟨b5, 0, none⟩ = some (.int .i64 2) := rS.m0.cL
              replace rS := hid rS
              by_cases hlt : q < ps.length
              · have dq : decide ((q : Int) < (ps.length : Int)) = true := decide_eq_true (by omega)
                obtain ⟨p, hp⟩ : ∃ p, ps[q]? = some p := ⟨_, List.getElem?_eq_getElem hlt⟩
                have cp := rS.out.o1.cellAt q (.string p) (by simp [strs, hp])
                have hpm' := hid (List.mem_of_getElem? hp)
                have hpsz : p.size ≤ 100000 := Nat.le_trans (hpz.out p hpm'.out) hxz
                have hbp := hid (show bpt ps q = p by simp [bpt, List.getD_eq_getElem?_getD, hp])
                have q0 : (0 : Int) ≤ (q : Int) := Int.natCast_nonneg _
                have q1 : (q : Int) < (ps.length : Int) := by omega
                replace hp := hid hp
                by_cases hsz : p.size = 2 * 2
                · have dsz : ((p.size : Int) != 2 * 2) = false := by simp; omega
                  go_upto_region 10 with (fail)
                  go_quiet (fail)
                  replace rS := hid (rS.out.drewN nq)
                  generalize World.drewN wr nq = wx at *
                  clear cp cL dsz
                  go_wp2
                  go_loopw [7] (fun i wr => ∃ x : Nat, x ≤ 2 ∧ i = .int .i64 x ∧ Hid (∀ y, y < x → (48 ≤ bt p (2 * y) ∧ bt p (2 * y) ≤ 50) ∧ 97 ≤ bt p (2 * y + 1) ∧ bt p (2 * y + 1) ≤ 112) ∧ St w.heap.size w [Asn.mb 27 b5 (rdP 2 ps q x), Asn.own w.heap.size 9 (.slice (some ⟨g, 0, none⟩) ps.length c) (strs ps), Asn.mb 27 w.heap.size zeroM] wr) (fun i _ => 2 - (intOf i).toNat)
                  case atStart => exact ⟨0, Nat.zero_le _, rfl, hid (fun y hy => absurd hy (Nat.not_lt_zero y)), rS.out⟩
                  case round =>
                    obtain ⟨x, hx, rfl, hch, rS⟩ := hrel
                    have cL : wr.cell? ⟨b5, 0, none⟩ = some (.int .i64 2) := rS.m0.cL
                    have cp := rS.o1.cellAt q (.string p) (by have h := hp.out; simp [strs, h])
                    replace rS := hid rS
                    by_cases hlx : x < 2
                    · have dx : decide ((x : Int) < 2) = true := decide_eq_true (by omega)
                      have g1 : IntKind.i64.wrap (2 * (x : Int)) = ((2 * x : Nat) : Int) := by rw [IntWalk.i64_in _ (by omega)]; omega
                      have g2 : IntKind.i64.wrap (IntKind.i64.wrap (2 * (x : Int)) + 1) = ((2 * x + 1 : Nat) : Int) := by rw [g1, IntWalk.i64_in _ (by omega)]; omega
                      replace g1 := hid g1; replace g2 := hid g2
                      have k1 : 2 * x < p.size := by omega
                      have k2 : 2 * x + 1 < p.size := by omega
                      go_upto_region 15 with (fail)
                      refine wp_region_quiet_lit (by kernel_rfl) (by kernel_rfl) ?_
                      iterate 6 (quiet_step (fail))
                      refine quiet_idx rfl _ _ _ rfl Tryz.underlying9 p (2 * x) _ rfl rfl g1.out k1 ?_
                      iterate 7 (quiet_step (fail))
                      refine quiet_idx rfl _ _ _ rfl Tryz.underlying9 p (2 * x + 1) _ rfl rfl g2.out k2 ?_
                      iterate 2 (quiet_step (fail))
                      refine wpQuiet_nil ?_
                      rintro _ ⟨nr, rfl⟩
                      replace rS := hid (rS.out.drewN nr)
                      generalize World.drewN wr nr = wy at *
                      have hB1 := bt_lt p (2 * x)
                      have hB2 := bt_lt p (2 * x + 1)
                      have hch2 := hid (fun (h : (48 ≤ bt p (2 * x) ∧ bt p (2 * x) ≤ 50) ∧ 97 ≤ bt p (2 * x + 1) ∧ bt p (2 * x + 1) ≤ 112) y (hy : y < x + 1) => (show (48 ≤ bt p (2 * y) ∧ bt p (2 * y) ≤ 50) ∧ 97 ≤ bt p (2 * y + 1) ∧ bt p (2 * y + 1) ≤ 112 from by
                        by_cases e : y = x
                        · subst e; exact h
                        · exact hch.out y (by omega)))
                      have hno := hid (fun (h : ¬ ((48 ≤ bt p (2 * x) ∧ bt p (2 * x) ≤ 50) ∧ 97 ≤ bt p (2 * x + 1) ∧ bt p (2 * x + 1) ≤ 112)) => hAf.out (fun h' => h ((h'.2 p hpm'.out).2 x hlx)))
                      have hst := hid (filP_step (L := 2) (n := ps.length) (f := fun q x => bt (bpt ps q) (2 * x + 1) - 97) (g := fun q x => bt (bpt ps q) (2 * x) - 48) q x hlx (by omega))
                      simp only [hbp.out] at hst
                      clear cp cL
                      generalize bt p (2 * x) = B1 at *
                      generalize bt p (2 * x + 1) = B2 at *
                      by_cases c1 : 48 ≤ B1
                      · by_cases c2 : B1 ≤ 50
                        · by_cases c3 : 97 ≤ B2
                          · by_cases c4 : B2 ≤ 112
                            · replace hch2 := hid (hch2.out ⟨⟨c1, c2⟩, c3, c4⟩)
                              obtain ⟨y1, rfl⟩ := Nat.exists_eq_add_of_le c1
                              obtain ⟨y2, rfl⟩ := Nat.exists_eq_add_of_le c3
                              have d1 : decide ((48 + (y1 : Int)) < 48) = false := decide_eq_false (by omega)
                              have d2 : decide ((48 + (y1 : Int)) > 50) = false := decide_eq_false (by omega)
                              have d3 : decide ((97 + (y2 : Int)) < 97) = false := decide_eq_false (by omega)
                              have d4 : decide ((97 + (y2 : Int)) > 112) = false := decide_eq_false (by omega)
                              have e1 : 48 + (y1 : Int) - 48 = y1 := by omega
                              have e2 : 97 + (y2 : Int) - 97 = y2 := by omega
                              obtain ⟨vo, co⟩ : ∃ u, wy.cell? ⟨b5, 50 + q * 3 + x, none⟩ = some u := ⟨_, rS.out.m0.cot q x (by omega) (by omega)⟩
                              have fo : wy.frozen? ⟨b5, 50 + q * 3 + x, none⟩ = false := World.rowIs.frozen rS.out.m0 _
                              obtain ⟨vn, cn⟩ : ∃ u, wy.cell? ⟨b5, 2 + q * 3 + x, none⟩ = some u := ⟨_, rS.out.m0.cnx q x (by omega) (by omega)⟩
                              have fn : wy.frozen? ⟨b5, 2 + q * 3 + x, none⟩ = false := World.rowIs.frozen rS.out.m0 _
                              go_wp2
                              go_roundw
                              case rel =>
                                refine ⟨x + 1, by omega, by go_num, hid hch2.out, ?_⟩
                                have e := hst.out
                                rw [Nat.add_sub_cancel_left, Nat.add_sub_cancel_left] at e
                                rw [show rdP 2 ps q (x + 1) = { rdP 2 ps q x with nx := upd (rdP 2 ps q x).nx (q * 3 + x) y2, ot := upd (rdP 2 ps q x).ot (q * 3 + x) y1 } from e]
                                exact (rS.out.setOt hle2.out q x y1 (by omega) (by omega)).setNx hle2.out q x y2 (by omega) (by omega)
                              case measure => simp [intOf]; omega
                            · have hA := hid (hno.out (fun h => by omega))
                              have d1 : decide ((B1 : Int) < 48) = false := decide_eq_false (by omega)
                              have d2 : decide ((B1 : Int) > 50) = false := decide_eq_false (by omega)
                              have d3 : decide ((B2 : Int) < 97) = false := decide_eq_false (by omega)
                              have d4 : decide ((B2 : Int) > 112) = true := decide_eq_true (by omega)
                              go_wp2_with (first
                                | ((with_reducible refine gate (N := 94) rfl ?_); refine build_zero rfl rfl ?_)
                                | ((with_reducible refine gateOp (op := .store 27 (.tmp 2) (.tmp 94)) rfl ?_); refine store_mach rfl _ _ rfl w.heap.size rfl zeroM rfl 27 _ rS.out.m2 ?_; intro W3 p2 ho hsz hbl; have pB := hid (hbl _ _ (Nat.le_refl _) rS.out.bel); replace p2 := hid p2; clear ho hsz hbl))
                              exact ret_mach_v rfl rfl rfl p2.out rfl ⟨by rw [hA.out]; rfl, pB.out⟩
                          · have hA := hid (hno.out (fun h => by omega))
                            have d1 : decide ((B1 : Int) < 48) = false := decide_eq_false (by omega)
                            have d2 : decide ((B1 : Int) > 50) = false := decide_eq_false (by omega)
                            have d3 : decide ((B2 : Int) < 97) = true := decide_eq_true (by omega)
                            go_wp2_with (first
                              | ((with_reducible refine gate (N := 94) rfl ?_); refine build_zero rfl rfl ?_)
                              | ((with_reducible refine gateOp (op := .store 27 (.tmp 2) (.tmp 94)) rfl ?_); refine store_mach rfl _ _ rfl w.heap.size rfl zeroM rfl 27 _ rS.out.m2 ?_; intro W3 p2 ho hsz hbl; have pB := hid (hbl _ _ (Nat.le_refl _) rS.out.bel); replace p2 := hid p2; clear ho hsz hbl))
                            exact ret_mach_v rfl rfl rfl p2.out rfl ⟨by rw [hA.out]; rfl, pB.out⟩
                        · have hA := hid (hno.out (fun h => by omega))
                          have d1 : decide ((B1 : Int) < 48) = false := decide_eq_false (by omega)
                          have d2 : decide ((B1 : Int) > 50) = true := decide_eq_true (by omega)
                          go_wp2_with (first
                            | ((with_reducible refine gate (N := 94) rfl ?_); refine build_zero rfl rfl ?_)
                            | ((with_reducible refine gateOp (op := .store 27 (.tmp 2) (.tmp 94)) rfl ?_); refine store_mach rfl _ _ rfl w.heap.size rfl zeroM rfl 27 _ rS.out.m2 ?_; intro W3 p2 ho hsz hbl; have pB := hid (hbl _ _ (Nat.le_refl _) rS.out.bel); replace p2 := hid p2; clear ho hsz hbl))
                          exact ret_mach_v rfl rfl rfl p2.out rfl ⟨by rw [hA.out]; rfl, pB.out⟩
                      · have hA := hid (hno.out (fun h => by omega))
                        have d1 : decide ((B1 : Int) < 48) = true := decide_eq_true (by omega)
                        go_wp2_with (first
                          | ((with_reducible refine gate (N := 94) rfl ?_); refine build_zero rfl rfl ?_)
                          | ((with_reducible refine gateOp (op := .store 27 (.tmp 2) (.tmp 94)) rfl ?_); refine store_mach rfl _ _ rfl w.heap.size rfl zeroM rfl 27 _ rS.out.m2 ?_; intro W3 p2 ho hsz hbl; have pB := hid (hbl _ _ (Nat.le_refl _) rS.out.bel); replace p2 := hid p2; clear ho hsz hbl))
                        exact ret_mach_v rfl rfl rfl p2.out rfl ⟨by rw [hA.out]; rfl, pB.out⟩
                    · have hxl : x = 2 := by omega
                      subst hxl
                      have hpk2 := hid (show ∀ p' ∈ ps.take (q + 1), PartOk 2 p' from fun p' hp' => by
                        rw [List.take_add_one, hp.out] at hp'
                        rcases List.mem_append.1 hp' with h | h
                        · exact hpk.out p' h
                        · obtain rfl : p' = p := by simpa using h
                          exact ⟨hsz, hch.out⟩)
                      clear cp
                      go_wp2
                      go_roundw
                      case rel => exact ⟨q + 1, by omega, by go_num, hpk2, by rw [show rdP 2 ps (q + 1) 0 = rdP 2 ps q 2 from (filP_row q (by omega)).symm]; exact rS.out⟩
                      case measure => simp [intOf]; omega
                · have dsz : ((p.size : Int) != 2 * 2) = true := by simp; omega
                  have hA := hid (hAf.out (fun h => hsz (h.2 p hpm'.out).1))
                  go_upto_region 10 with (fail)
                  go_quiet (fail)
                  replace rS := hid (rS.out.drewN nq)
                  generalize World.drewN wr nq = wx at *
                  clear cp cL
                  go_wp2_with (first
                    | ((with_reducible refine gate (N := 58) rfl ?_); refine build_zero rfl rfl ?_)
                    | ((with_reducible refine gateOp (op := .store 27 (.tmp 2) (.tmp 58)) rfl ?_); refine store_mach rfl _ _ rfl w.heap.size rfl zeroM rfl 27 _ rS.out.m2 ?_; intro W3 p2 ho hsz hbl; have pB := hid (hbl _ _ (Nat.le_refl _) rS.out.bel); replace p2 := hid p2; clear ho hsz hbl))
                  exact ret_mach_v rfl rfl rfl p2.out rfl ⟨by rw [hA.out]; rfl, pB.out⟩
              · obtain rfl : q = ps.length := by omega
                have hpk3 := hpk.out
                rw [List.take_length] at hpk3
                have hA := hid (hAt.out h16 hpk3)
                have hok := hid (rdP_ok 2 ps ps.length 0)
                have hM := hid (show rdP 2 ps ps.length 0 = rdM 2 ps from rfl)
                rw [hM.out] at rS hok
                have hLS := hid (fun W => l01Is_any W (rdM 2 ps) hok.out (decide (IsM (rdM 2 ps))) decide_eq_true_iff)
                clear hM hpk hpk3 hAf hAt cL
                generalize hrm : rdM 2 ps = M at *
                generalize decide (IsM M) = bM at *
                replace hrm := hid hrm
                go_upto_region 20 with (fail)
                replace rS := hid rS.out.drew
                refine wp_region_heldL (L := [(3, (fun w' : World => MB w' 27 b5 M))]) (by kernel_rfl) (HeldL.cons (fun _ => rS.out.m0) HeldL.nil) (fun hHeld => ?_)
                generalize World.drew wr = wa at *
                refine wpAnyL_takeP (i := 0) 3 [] (v := (.agg (mcells M))) (fun w' : World => MB w' 27 b5 M) rfl (by kernel_rfl) (by kernel_rfl) (by kernel_rfl) (by rfl) (by kernel_rfl) (by simp) (fun _ _ _ h => h) (Or.inl ⟨by rfl, ?_⟩) (by assumption) ?_
                · (intro W hW; exact exec_load _ rfl rfl (load_run hW))
                intro hHeld'
                clear hHeld; have hHeld := hHeld'; clear hHeld'
                try simp only [Act.put, List.getElem_toArray, List.getElem_cons_succ, List.getElem_cons_zero, List.setIfInBounds_toArray, List.set_cons_zero, List.set_cons_succ]
                refine wpAnyL_takeP (i := 1) 3 [2] (v := (.agg (mcells M))) (fun w' : World => MB w' 27 b5 M) rfl (by kernel_rfl) (by kernel_rfl) (by kernel_rfl) (by rfl) (by kernel_rfl) (by simp) (fun _ _ _ h => h) (Or.inl ⟨by rfl, ?_⟩) (by assumption) ?_
                · (intro W hW; exact exec_load _ rfl rfl (load_run hW))
                intro hHeld'
                clear hHeld; have hHeld := hHeld'; clear hHeld'
                try simp only [Act.put, List.getElem_toArray, List.getElem_cons_succ, List.getElem_cons_zero, List.setIfInBounds_toArray, List.set_cons_zero, List.set_cons_succ]
                refine wpAnyL_ready (rs := [2]) (by kernel_rfl) (by simp) ?_
                refine AllReadyL.cons rfl (fun K hK => ?_) AllReadyL.nil
                go_simp
                (with_reducible refine (hLS.out _).mono ?_)
                rintro e w4 ⟨rfl, hb⟩
                replace rS := hid (rS.out.call hb)
                clear hb
                go_simp
                refine hK.out _ _ (HeldL.cons (fun _ => rS.out.m0) HeldL.nil) (fun hHeld' => ?_)
                clear hK K hHeld; have hHeld := hHeld'; clear hHeld'
                try simp only [Act.put, List.getElem_toArray, List.getElem_cons_succ, List.getElem_cons_zero, List.setIfInBounds_toArray, List.set_cons_zero, List.set_cons_succ]
                refine wpAnyL_ready (rs := [3]) (by kernel_rfl) (by simp) ?_
                refine AllReadyL.cons rfl (fun K hK => ?_) AllReadyL.nil
                refine step_store_mach rfl _ _ rfl _ rfl M rfl _ _ rS.out.m2 ?_
                intro W9 p2 ho hbl
                have pB := hid (hbl _ _ (Nat.le_refl _) rS.out.bel)
                replace p2 := hid p2
                clear ho hbl
                refine hK.out _ _ (HeldL.cons (fun h => absurd h (by decide +kernel)) HeldL.nil) (fun hHeld' => ?_)
                clear hK K hHeld; have hHeld := hHeld'; clear hHeld'
                try simp only [Act.put, List.getElem_toArray, List.getElem_cons_succ, List.getElem_cons_zero, List.setIfInBounds_toArray, List.set_cons_zero, List.set_cons_succ]
                refine wpAnyL_take0 (i := 4) (v := ?_) rfl (by kernel_rfl) (by kernel_rfl) (by kernel_rfl) (by rfl) (fun _ _ _ h => h) (Or.inl ⟨by rfl, ?_⟩) (by assumption) ?_
                rotate_left
                · (intro W _; go_simp; (with_reducible rfl))
                intro hHeld'
                clear hHeld; have hHeld := hHeld'; clear hHeld'
                try simp only [Act.put, List.getElem_toArray, List.getElem_cons_succ, List.getElem_cons_zero, List.setIfInBounds_toArray, List.set_cons_zero, List.set_cons_succ]
                refine wpAnyL_done (by kernel_rfl) ?_ _
                go_wp2
                exact ret_mach_v rfl rfl rfl p2.out rfl ⟨by rw [hA.out]; rfl, pB.out⟩
          · have hA := hid (hAf.out (fun h => h16 h.1))
            have d16 : decide ((ps.length : Int) > 16) = true := decide_eq_true (by omega)
            go_wp2_with (first
              | ((with_reducible refine gate (N := 42) rfl ?_); refine build_zero rfl rfl ?_)
              | ((with_reducible refine gateOp (op := .store 27 (.tmp 2) (.tmp 42)) rfl ?_); refine store_mach rfl _ _ rfl w.heap.size rfl zeroM rfl 27 _ hS.out.m2 ?_; intro W3 p2 ho hsz hbl; have pB := hid (hbl _ _ (Nat.le_refl _) hS.out.bel); replace p2 := hid p2; clear ho hsz hbl))
            exact ret_mach_v rfl rfl rfl p2.out rfl ⟨by rw [hA.out]; rfl, pB.out⟩
        · have hq : bt t 0 - 48 = 3 := by omega
          have h50' : bt t 0 = 50 ∨ bt t 0 = 51 := .inr h50
          rw [h50] at hb0
          have hb0 : (t[0]'(by omega)).toNat = 51 := hb0
          have hH : HeadOk t := ⟨h2, h58, h50'⟩
          have hAf := hid (fun (h : ¬ ((rdS t).length ≤ 16 ∧ ∀ p ∈ rdS t, PartOk 3 p)) => (show rdAns t = (zeroM, false) from by unfold rdAns; rw [if_neg (fun h' => h (by have h3 := h'.2; rw [hq] at h3; exact h3))]))
          have hAt := hid (fun (h16 : (rdS t).length ≤ 16) (hp : ∀ p ∈ rdS t, PartOk 3 p) => (show rdAns t = (rdM 3 (rdS t), decide (IsM (rdM 3 (rdS t)))) from by unfold rdAns; rw [hq, if_pos ⟨hH, h16, hp⟩]))
          have hsp := hid (fun W => l01Split_any W (t.extract 2 t.size) (by rw [ByteArray.size_extract]; omega) 44)
          simp only [show ((44 : Nat) : Int) = 44 from rfl] at hsp
          have hsp' := hid (show splL (t.extract 2 t.size) 44 = rdS t from rfl)
          rw [hsp'.out] at hsp
          have hpl := hid (splL_len (t.extract 2 t.size) 44)
          have hpz := hid (splL_sz (t.extract 2 t.size) 44)
          rw [hsp'.out] at hpl hpz
          have hxz : (t.extract 2 t.size).size ≤ 100000 := by rw [ByteArray.size_extract]; omega
          have d2 : decide ((t.size : Int) < 2) = false := decide_eq_false (by omega)
          have hz2 := hid (fun L W (h : St w.heap.size w L W) => h.newMB zeroM 27)
          have hil := hid (strs_length (rdS t))
          have hpn : 1 ≤ (rdS t).length := hpl.out.2
          have hpm : (rdS t).length ≤ 100001 := by have := hpl.out.1; omega
          rw [h58] at hb1
          clear hsp' h58 hH hq h50'
          generalize rdAns t = ans at *
          generalize rdS t = ps at *
          go_enter Tryz.func237, Tryz.ntmps237
          go_upto_region 5 with (first
            | (go_at_call 262; (with_reducible refine (hsp.out _).mono ?_); rintro e w1 ⟨v, rfl, hO, hb⟩; (obtain ⟨g, c, rfl, _, _⟩ := hO.blk (fun e => by have h1 := congrArg List.length e; rw [hil.out, List.length_nil] at h1; omega)); rw [hil.out] at hO ⊢; have hle2 := hid ((hS.out.call hb).le); replace hS := hid (hz2.out _ _ (hS.out.callOwn hb hO)); clear hb hO hsp)
            | ((with_reducible refine gate (N := 38) rfl ?_); refine build_mach rfl _ _ rfl 3 (ps.length : Int) rfl rfl ?_)
            | ((with_reducible refine gateOp (op := .store 27 (.tmp 5) (.tmp 38)) rfl ?_); refine store_mach rfl _ _ rfl w1.heap.size rfl ⟨3, (ps.length : Int), fun _ => 0, fun _ => 0⟩ rfl 27 _ hS.out.m0 ?_; intro w2 p3 ho hsz hbl; replace hS := hid (hS.out.setM hle2.out p3 ho hbl); clear p3 ho hsz hbl))
          generalize w1.heap.size = b5 at *
          by_cases h16 : ps.length ≤ 16
          · have d16 : decide ((ps.length : Int) > 16) = false := decide_eq_false (by omega)
            replace hS := hid (show St w.heap.size w [Asn.mb 27 b5 (rdP 3 ps 0 0), Asn.own w.heap.size 9 (.slice (some ⟨g, 0, none⟩) ps.length c) (strs ps), Asn.mb 27 w.heap.size zeroM] w2 from by
              rw [show rdP 3 ps 0 0 = ⟨3, (ps.length : Int), fun _ => 0, fun _ => 0⟩ from filP_zero]; exact hS.out)
            go_wp2
            go_loopw [6] (fun i wr => ∃ q : Nat, q ≤ ps.length ∧ i = .int .i64 q ∧ Hid (∀ p ∈ ps.take q, PartOk 3 p) ∧ St w.heap.size w [Asn.mb 27 b5 (rdP 3 ps q 0), Asn.own w.heap.size 9 (.slice (some ⟨g, 0, none⟩) ps.length c) (strs ps), Asn.mb 27 w.heap.size zeroM] wr) (fun i _ => ps.length - (intOf i).toNat)
            case atStart => exact ⟨0, Nat.zero_le _, rfl, hid (fun p hp => by simp at hp), hS.out⟩
            case round =>
              obtain ⟨q, hq, rfl, hpk, rS⟩ := hrel
              clear hS hb0 hb1 d2 d16
              have cL : wr.cell? ⟨b5, 0, none⟩ = some (.int .i64 3) := rS.m0.cL
              replace rS := hid rS
              by_cases hlt : q < ps.length
              · have dq : decide ((q : Int) < (ps.length : Int)) = true := decide_eq_true (by omega)
                obtain ⟨p, hp⟩ : ∃ p, ps[q]? = some p := ⟨_, List.getElem?_eq_getElem hlt⟩
                have cp := rS.out.o1.cellAt q (.string p) (by simp [strs, hp])
                have hpm' := hid (List.mem_of_getElem? hp)
                have hpsz : p.size ≤ 100000 := Nat.le_trans (hpz.out p hpm'.out) hxz
                have hbp := hid (show bpt ps q = p by simp [bpt, List.getD_eq_getElem?_getD, hp])
                have q0 : (0 : Int) ≤ (q : Int) := Int.natCast_nonneg _
                have q1 : (q : Int) < (ps.length : Int) := by omega
                replace hp := hid hp
                by_cases hsz : p.size = 2 * 3
                · have dsz : ((p.size : Int) != 2 * 3) = false := by simp; omega
                  go_upto_region 10 with (fail)
                  go_quiet (fail)
                  replace rS := hid (rS.out.drewN nq)
                  generalize World.drewN wr nq = wx at *
                  clear cp cL dsz
                  go_wp2
                  go_loopw [7] (fun i wr => ∃ x : Nat, x ≤ 3 ∧ i = .int .i64 x ∧ Hid (∀ y, y < x → (48 ≤ bt p (2 * y) ∧ bt p (2 * y) ≤ 50) ∧ 97 ≤ bt p (2 * y + 1) ∧ bt p (2 * y + 1) ≤ 112) ∧ St w.heap.size w [Asn.mb 27 b5 (rdP 3 ps q x), Asn.own w.heap.size 9 (.slice (some ⟨g, 0, none⟩) ps.length c) (strs ps), Asn.mb 27 w.heap.size zeroM] wr) (fun i _ => 3 - (intOf i).toNat)
                  case atStart => exact ⟨0, Nat.zero_le _, rfl, hid (fun y hy => absurd hy (Nat.not_lt_zero y)), rS.out⟩
                  case round =>
                    obtain ⟨x, hx, rfl, hch, rS⟩ := hrel
                    have cL : wr.cell? ⟨b5, 0, none⟩ = some (.int .i64 3) := rS.m0.cL
                    have cp := rS.o1.cellAt q (.string p) (by have h := hp.out; simp [strs, h])
                    replace rS := hid rS
                    by_cases hlx : x < 3
                    · have dx : decide ((x : Int) < 3) = true := decide_eq_true (by omega)
                      have g1 : IntKind.i64.wrap (2 * (x : Int)) = ((2 * x : Nat) : Int) := by rw [IntWalk.i64_in _ (by omega)]; omega
                      have g2 : IntKind.i64.wrap (IntKind.i64.wrap (2 * (x : Int)) + 1) = ((2 * x + 1 : Nat) : Int) := by rw [g1, IntWalk.i64_in _ (by omega)]; omega
                      replace g1 := hid g1; replace g2 := hid g2
                      have k1 : 2 * x < p.size := by omega
                      have k2 : 2 * x + 1 < p.size := by omega
                      go_upto_region 15 with (fail)
                      refine wp_region_quiet_lit (by kernel_rfl) (by kernel_rfl) ?_
                      iterate 6 (quiet_step (fail))
                      refine quiet_idx rfl _ _ _ rfl Tryz.underlying9 p (2 * x) _ rfl rfl g1.out k1 ?_
                      iterate 7 (quiet_step (fail))
                      refine quiet_idx rfl _ _ _ rfl Tryz.underlying9 p (2 * x + 1) _ rfl rfl g2.out k2 ?_
                      iterate 2 (quiet_step (fail))
                      refine wpQuiet_nil ?_
                      rintro _ ⟨nr, rfl⟩
                      replace rS := hid (rS.out.drewN nr)
                      generalize World.drewN wr nr = wy at *
                      have hB1 := bt_lt p (2 * x)
                      have hB2 := bt_lt p (2 * x + 1)
                      have hch2 := hid (fun (h : (48 ≤ bt p (2 * x) ∧ bt p (2 * x) ≤ 50) ∧ 97 ≤ bt p (2 * x + 1) ∧ bt p (2 * x + 1) ≤ 112) y (hy : y < x + 1) => (show (48 ≤ bt p (2 * y) ∧ bt p (2 * y) ≤ 50) ∧ 97 ≤ bt p (2 * y + 1) ∧ bt p (2 * y + 1) ≤ 112 from by
                        by_cases e : y = x
                        · subst e; exact h
                        · exact hch.out y (by omega)))
                      have hno := hid (fun (h : ¬ ((48 ≤ bt p (2 * x) ∧ bt p (2 * x) ≤ 50) ∧ 97 ≤ bt p (2 * x + 1) ∧ bt p (2 * x + 1) ≤ 112)) => hAf.out (fun h' => h ((h'.2 p hpm'.out).2 x hlx)))
                      have hst := hid (filP_step (L := 3) (n := ps.length) (f := fun q x => bt (bpt ps q) (2 * x + 1) - 97) (g := fun q x => bt (bpt ps q) (2 * x) - 48) q x hlx (by omega))
                      simp only [hbp.out] at hst
                      clear cp cL
                      generalize bt p (2 * x) = B1 at *
                      generalize bt p (2 * x + 1) = B2 at *
                      by_cases c1 : 48 ≤ B1
                      · by_cases c2 : B1 ≤ 50
                        · by_cases c3 : 97 ≤ B2
                          · by_cases c4 : B2 ≤ 112
                            · replace hch2 := hid (hch2.out ⟨⟨c1, c2⟩, c3, c4⟩)
                              obtain ⟨y1, rfl⟩ := Nat.exists_eq_add_of_le c1
                              obtain ⟨y2, rfl⟩ := Nat.exists_eq_add_of_le c3
                              have d1 : decide ((48 + (y1 : Int)) < 48) = false := decide_eq_false (by omega)
                              have d2 : decide ((48 + (y1 : Int)) > 50) = false := decide_eq_false (by omega)
                              have d3 : decide ((97 + (y2 : Int)) < 97) = false := decide_eq_false (by omega)
                              have d4 : decide ((97 + (y2 : Int)) > 112) = false := decide_eq_false (by omega)
                              have e1 : 48 + (y1 : Int) - 48 = y1 := by omega
                              have e2 : 97 + (y2 : Int) - 97 = y2 := by omega
                              obtain ⟨vo, co⟩ : ∃ u, wy.cell? ⟨b5, 50 + q * 3 + x, none⟩ = some u := ⟨_, rS.out.m0.cot q x (by omega) (by omega)⟩
                              have fo : wy.frozen? ⟨b5, 50 + q * 3 + x, none⟩ = false := World.rowIs.frozen rS.out.m0 _
                              obtain ⟨vn, cn⟩ : ∃ u, wy.cell? ⟨b5, 2 + q * 3 + x, none⟩ = some u := ⟨_, rS.out.m0.cnx q x (by omega) (by omega)⟩
                              have fn : wy.frozen? ⟨b5, 2 + q * 3 + x, none⟩ = false := World.rowIs.frozen rS.out.m0 _
                              go_wp2
                              go_roundw
                              case rel =>
                                refine ⟨x + 1, by omega, by go_num, hid hch2.out, ?_⟩
                                have e := hst.out
                                rw [Nat.add_sub_cancel_left, Nat.add_sub_cancel_left] at e
                                rw [show rdP 3 ps q (x + 1) = { rdP 3 ps q x with nx := upd (rdP 3 ps q x).nx (q * 3 + x) y2, ot := upd (rdP 3 ps q x).ot (q * 3 + x) y1 } from e]
                                exact (rS.out.setOt hle2.out q x y1 (by omega) (by omega)).setNx hle2.out q x y2 (by omega) (by omega)
                              case measure => simp [intOf]; omega
                            · have hA := hid (hno.out (fun h => by omega))
                              have d1 : decide ((B1 : Int) < 48) = false := decide_eq_false (by omega)
                              have d2 : decide ((B1 : Int) > 50) = false := decide_eq_false (by omega)
                              have d3 : decide ((B2 : Int) < 97) = false := decide_eq_false (by omega)
                              have d4 : decide ((B2 : Int) > 112) = true := decide_eq_true (by omega)
                              go_wp2_with (first
                                | ((with_reducible refine gate (N := 94) rfl ?_); refine build_zero rfl rfl ?_)
                                | ((with_reducible refine gateOp (op := .store 27 (.tmp 2) (.tmp 94)) rfl ?_); refine store_mach rfl _ _ rfl w.heap.size rfl zeroM rfl 27 _ rS.out.m2 ?_; intro W3 p2 ho hsz hbl; have pB := hid (hbl _ _ (Nat.le_refl _) rS.out.bel); replace p2 := hid p2; clear ho hsz hbl))
                              exact ret_mach_v rfl rfl rfl p2.out rfl ⟨by rw [hA.out]; rfl, pB.out⟩
                          · have hA := hid (hno.out (fun h => by omega))
                            have d1 : decide ((B1 : Int) < 48) = false := decide_eq_false (by omega)
                            have d2 : decide ((B1 : Int) > 50) = false := decide_eq_false (by omega)
                            have d3 : decide ((B2 : Int) < 97) = true := decide_eq_true (by omega)
                            go_wp2_with (first
                              | ((with_reducible refine gate (N := 94) rfl ?_); refine build_zero rfl rfl ?_)
                              | ((with_reducible refine gateOp (op := .store 27 (.tmp 2) (.tmp 94)) rfl ?_); refine store_mach rfl _ _ rfl w.heap.size rfl zeroM rfl 27 _ rS.out.m2 ?_; intro W3 p2 ho hsz hbl; have pB := hid (hbl _ _ (Nat.le_refl _) rS.out.bel); replace p2 := hid p2; clear ho hsz hbl))
                            exact ret_mach_v rfl rfl rfl p2.out rfl ⟨by rw [hA.out]; rfl, pB.out⟩
                        · have hA := hid (hno.out (fun h => by omega))
                          have d1 : decide ((B1 : Int) < 48) = false := decide_eq_false (by omega)
                          have d2 : decide ((B1 : Int) > 50) = true := decide_eq_true (by omega)
                          go_wp2_with (first
                            | ((with_reducible refine gate (N := 94) rfl ?_); refine build_zero rfl rfl ?_)
                            | ((with_reducible refine gateOp (op := .store 27 (.tmp 2) (.tmp 94)) rfl ?_); refine store_mach rfl _ _ rfl w.heap.size rfl zeroM rfl 27 _ rS.out.m2 ?_; intro W3 p2 ho hsz hbl; have pB := hid (hbl _ _ (Nat.le_refl _) rS.out.bel); replace p2 := hid p2; clear ho hsz hbl))
                          exact ret_mach_v rfl rfl rfl p2.out rfl ⟨by rw [hA.out]; rfl, pB.out⟩
                      · have hA := hid (hno.out (fun h => by omega))
                        have d1 : decide ((B1 : Int) < 48) = true := decide_eq_true (by omega)
                        go_wp2_with (first
                          | ((with_reducible refine gate (N := 94) rfl ?_); refine build_zero rfl rfl ?_)
                          | ((with_reducible refine gateOp (op := .store 27 (.tmp 2) (.tmp 94)) rfl ?_); refine store_mach rfl _ _ rfl w.heap.size rfl zeroM rfl 27 _ rS.out.m2 ?_; intro W3 p2 ho hsz hbl; have pB := hid (hbl _ _ (Nat.le_refl _) rS.out.bel); replace p2 := hid p2; clear ho hsz hbl))
                        exact ret_mach_v rfl rfl rfl p2.out rfl ⟨by rw [hA.out]; rfl, pB.out⟩
                    · have hxl : x = 3 := by omega
                      subst hxl
                      have hpk2 := hid (show ∀ p' ∈ ps.take (q + 1), PartOk 3 p' from fun p' hp' => by
                        rw [List.take_add_one, hp.out] at hp'
                        rcases List.mem_append.1 hp' with h | h
                        · exact hpk.out p' h
                        · obtain rfl : p' = p := by simpa using h
                          exact ⟨hsz, hch.out⟩)
                      clear cp
                      go_wp2
                      go_roundw
                      case rel => exact ⟨q + 1, by omega, by go_num, hpk2, by rw [show rdP 3 ps (q + 1) 0 = rdP 3 ps q 3 from (filP_row q (by omega)).symm]; exact rS.out⟩
                      case measure => simp [intOf]; omega
                · have dsz : ((p.size : Int) != 2 * 3) = true := by simp; omega
                  have hA := hid (hAf.out (fun h => hsz (h.2 p hpm'.out).1))
                  go_upto_region 10 with (fail)
                  go_quiet (fail)
                  replace rS := hid (rS.out.drewN nq)
                  generalize World.drewN wr nq = wx at *
                  clear cp cL
                  go_wp2_with (first
                    | ((with_reducible refine gate (N := 58) rfl ?_); refine build_zero rfl rfl ?_)
                    | ((with_reducible refine gateOp (op := .store 27 (.tmp 2) (.tmp 58)) rfl ?_); refine store_mach rfl _ _ rfl w.heap.size rfl zeroM rfl 27 _ rS.out.m2 ?_; intro W3 p2 ho hsz hbl; have pB := hid (hbl _ _ (Nat.le_refl _) rS.out.bel); replace p2 := hid p2; clear ho hsz hbl))
                  exact ret_mach_v rfl rfl rfl p2.out rfl ⟨by rw [hA.out]; rfl, pB.out⟩
              · obtain rfl : q = ps.length := by omega
                have hpk3 := hpk.out
                rw [List.take_length] at hpk3
                have hA := hid (hAt.out h16 hpk3)
                have hok := hid (rdP_ok 3 ps ps.length 0)
                have hM := hid (show rdP 3 ps ps.length 0 = rdM 3 ps from rfl)
                rw [hM.out] at rS hok
                have hLS := hid (fun W => l01Is_any W (rdM 3 ps) hok.out (decide (IsM (rdM 3 ps))) decide_eq_true_iff)
                clear hM hpk hpk3 hAf hAt cL
                generalize hrm : rdM 3 ps = M at *
                generalize decide (IsM M) = bM at *
                replace hrm := hid hrm
                go_upto_region 20 with (fail)
                replace rS := hid rS.out.drew
                refine wp_region_heldL (L := [(3, (fun w' : World => MB w' 27 b5 M))]) (by kernel_rfl) (HeldL.cons (fun _ => rS.out.m0) HeldL.nil) (fun hHeld => ?_)
                generalize World.drew wr = wa at *
                refine wpAnyL_takeP (i := 0) 3 [] (v := (.agg (mcells M))) (fun w' : World => MB w' 27 b5 M) rfl (by kernel_rfl) (by kernel_rfl) (by kernel_rfl) (by rfl) (by kernel_rfl) (by simp) (fun _ _ _ h => h) (Or.inl ⟨by rfl, ?_⟩) (by assumption) ?_
                · (intro W hW; exact exec_load _ rfl rfl (load_run hW))
                intro hHeld'
                clear hHeld; have hHeld := hHeld'; clear hHeld'
                try simp only [Act.put, List.getElem_toArray, List.getElem_cons_succ, List.getElem_cons_zero, List.setIfInBounds_toArray, List.set_cons_zero, List.set_cons_succ]
                refine wpAnyL_takeP (i := 1) 3 [2] (v := (.agg (mcells M))) (fun w' : World => MB w' 27 b5 M) rfl (by kernel_rfl) (by kernel_rfl) (by kernel_rfl) (by rfl) (by kernel_rfl) (by simp) (fun _ _ _ h => h) (Or.inl ⟨by rfl, ?_⟩) (by assumption) ?_
                · (intro W hW; exact exec_load _ rfl rfl (load_run hW))
                intro hHeld'
                clear hHeld; have hHeld := hHeld'; clear hHeld'
                try simp only [Act.put, List.getElem_toArray, List.getElem_cons_succ, List.getElem_cons_zero, List.setIfInBounds_toArray, List.set_cons_zero, List.set_cons_succ]
                refine wpAnyL_ready (rs := [2]) (by kernel_rfl) (by simp) ?_
                refine AllReadyL.cons rfl (fun K hK => ?_) AllReadyL.nil
                go_simp
                (with_reducible refine (hLS.out _).mono ?_)
                rintro e w4 ⟨rfl, hb⟩
                replace rS := hid (rS.out.call hb)
                clear hb
                go_simp
                refine hK.out _ _ (HeldL.cons (fun _ => rS.out.m0) HeldL.nil) (fun hHeld' => ?_)
                clear hK K hHeld; have hHeld := hHeld'; clear hHeld'
                try simp only [Act.put, List.getElem_toArray, List.getElem_cons_succ, List.getElem_cons_zero, List.setIfInBounds_toArray, List.set_cons_zero, List.set_cons_succ]
                refine wpAnyL_ready (rs := [3]) (by kernel_rfl) (by simp) ?_
                refine AllReadyL.cons rfl (fun K hK => ?_) AllReadyL.nil
                refine step_store_mach rfl _ _ rfl _ rfl M rfl _ _ rS.out.m2 ?_
                intro W9 p2 ho hbl
                have pB := hid (hbl _ _ (Nat.le_refl _) rS.out.bel)
                replace p2 := hid p2
                clear ho hbl
                refine hK.out _ _ (HeldL.cons (fun h => absurd h (by decide +kernel)) HeldL.nil) (fun hHeld' => ?_)
                clear hK K hHeld; have hHeld := hHeld'; clear hHeld'
                try simp only [Act.put, List.getElem_toArray, List.getElem_cons_succ, List.getElem_cons_zero, List.setIfInBounds_toArray, List.set_cons_zero, List.set_cons_succ]
                refine wpAnyL_take0 (i := 4) (v := ?_) rfl (by kernel_rfl) (by kernel_rfl) (by kernel_rfl) (by rfl) (fun _ _ _ h => h) (Or.inl ⟨by rfl, ?_⟩) (by assumption) ?_
                rotate_left
                · (intro W _; go_simp; (with_reducible rfl))
                intro hHeld'
                clear hHeld; have hHeld := hHeld'; clear hHeld'
                try simp only [Act.put, List.getElem_toArray, List.getElem_cons_succ, List.getElem_cons_zero, List.setIfInBounds_toArray, List.set_cons_zero, List.set_cons_succ]
                refine wpAnyL_done (by kernel_rfl) ?_ _
                go_wp2
                exact ret_mach_v rfl rfl rfl p2.out rfl ⟨by rw [hA.out]; rfl, pB.out⟩
          · have hA := hid (hAf.out (fun h => h16 h.1))
            have d16 : decide ((ps.length : Int) > 16) = true := decide_eq_true (by omega)
            go_wp2_with (first
              | ((with_reducible refine gate (N := 42) rfl ?_); refine build_zero rfl rfl ?_)
              | ((with_reducible refine gateOp (op := .store 27 (.tmp 2) (.tmp 42)) rfl ?_); refine store_mach rfl _ _ rfl w.heap.size rfl zeroM rfl 27 _ hS.out.m2 ?_; intro W3 p2 ho hsz hbl; have pB := hid (hbl _ _ (Nat.le_refl _) hS.out.bel); replace p2 := hid p2; clear ho hsz hbl))
            exact ret_mach_v rfl rfl rfl p2.out rfl ⟨by rw [hA.out]; rfl, pB.out⟩
      · have hA := hid (show rdAns t = (zeroM, false) by unfold rdAns; rw [if_neg (fun h => h50 h.1.2.2)])
        rw [hA.out]
        have hn0 : ¬ bt t 0 = 50 := fun h => h50 (.inl h)
        have hn1 : ¬ bt t 0 = 51 := fun h => h50 (.inr h)
        have d2 : decide ((t.size : Int) < 2) = false := decide_eq_false (by omega)
        rw [h58] at hb1
        generalize bt t 0 = b0 at *
        have e0 : ((b0 : Int) != 50) = true := by simp; omega
        have e1 : ((b0 : Int) != 51) = true := by simp; omega
        clear h58 hn0 hn1 h50
        go_enter Tryz.func237, Tryz.ntmps237
        go_wp2_with (first
          | ((with_reducible refine gate (N := 28) rfl ?_); refine build_zero rfl rfl ?_)
          | ((with_reducible refine gateOp (op := .store 27 (.tmp 2) (.tmp 28)) rfl ?_); refine store_mach rfl _ _ rfl w.heap.size rfl zeroM rfl 27 _ hS.out.m0 ?_; intro W3 p2 ho hsz hbl; have pB := hid (hbl _ _ (Nat.le_refl _) hS.out.bel); replace p2 := hid p2; clear ho hsz hbl))
        exact ret_mach_v rfl rfl rfl p2.out rfl ⟨rfl, pB.out⟩
    · have hA := hid (show rdAns t = (zeroM, false) by unfold rdAns; rw [if_neg (fun h => h58 h.1.2.1)])
      rw [hA.out]
      have d2 : decide ((t.size : Int) < 2) = false := decide_eq_false (by omega)
      clear hb0
      generalize bt t 1 = b1 at *
      have e0 : ((b1 : Int) != 58) = true := by simp; omega
      clear h58
      go_enter Tryz.func237, Tryz.ntmps237
      go_wp2_with (first
        | ((with_reducible refine gate (N := 28) rfl ?_); refine build_zero rfl rfl ?_)
        | ((with_reducible refine gateOp (op := .store 27 (.tmp 2) (.tmp 28)) rfl ?_); refine store_mach rfl _ _ rfl w.heap.size rfl zeroM rfl 27 _ hS.out.m0 ?_; intro W3 p2 ho hsz hbl; have pB := hid (hbl _ _ (Nat.le_refl _) hS.out.bel); replace p2 := hid p2; clear ho hsz hbl))
      exact ret_mach_v rfl rfl rfl p2.out rfl ⟨rfl, pB.out⟩
  · have hA := hid (show rdAns t = (zeroM, false) by unfold rdAns; rw [if_neg (fun h => h2 h.1.1)])
    rw [hA.out]
    have d2 : decide ((t.size : Int) < 2) = true := decide_eq_true (by omega)
    go_enter Tryz.func237, Tryz.ntmps237
    go_wp2_with (first
      | ((with_reducible refine gate (N := 28) rfl ?_); refine build_zero rfl rfl ?_)
      | ((with_reducible refine gateOp (op := .store 27 (.tmp 2) (.tmp 28)) rfl ?_); refine store_mach rfl _ _ rfl w.heap.size rfl zeroM rfl 27 _ hS.out.m0 ?_; intro W3 p2 ho hsz hbl; have pB := hid (hbl _ _ (Nat.le_refl _) hS.out.bel); replace p2 := hid p2; clear ho hsz hbl))
    exact ret_mach_v rfl rfl rfl p2.out rfl ⟨rfl, pB.out⟩
end Go.Proofs.YthmcdfjijkecfaaGreat
