/- What the proof of FnDuals leans on, part 22 of 26. -/
import Derived.Test.YtbmkkaecfogmoaaZFnDualsU
/- OrderByPowers: what the program and the reference answer. -/
namespace Go.Proofs.Ytbmkkaecfogmoaa
open Go.RowKit
set_option linter.unusedVariables false
set_option linter.unusedSimpArgs false

/-- The next power, and its code. -/
def nextM (m : Mach) (l s q : Nat) (now : Mach) : Mach := fromM (prodT now m l now.S.toNat s) (0 * s + q)
def nextC (m : Mach) (l s q : Nat) (now : Mach) : Int := fromC (prodT now m l now.S.toNat s) (0 * s + q)
open Classical in
/-- The search. -/
noncomputable def ordGo (m : Mach) (l s q : Nat) : Nat → Nat → Mach → Int × Int
  | 0, _, _ => (0, 4)
  | f + 1, k, now => if nextC m l s q now = 0 then (if mcells (nextM m l s q now) = mcells (trivM l) then ((k : Int), 0) else ordGo m l s q f (k + 1) (nextM m l s q now)) else (0, 3)
open Classical in
noncomputable def obpAns (m : Mach) (q n : Int) : Int × Int :=
  if codeI m { data := #[] } [q] = 0 then (if 1 ≤ n ∧ n ≤ 16 then ordGo m m.L.toNat m.S.toNat q.toNat n.toNat 1 (trivM m.L.toNat) else (0, 2)) else (0, codeI m { data := #[] } [q])
theorem obpAns_n {m : Mach} {q n c : Int} (h : codeI m { data := #[] } [q] = c) (hc : c ≠ 0) : obpAns m q n = (0, c) := by
  unfold obpAns; rw [h, if_neg hc]
theorem obpAns_r {m : Mach} {q n : Int} (h : codeI m { data := #[] } [q] = 0) (hn : ¬ (1 ≤ n ∧ n ≤ 16)) : obpAns m q n = (0, 2) := by
  unfold obpAns; rw [h, if_pos rfl, if_neg hn]
theorem obpAns_0 {m : Mach} {l s q : Nat} {n : Nat} (g : Good m l s) (h : codeI m { data := #[] } [(q : Int)] = 0) (hn : 1 ≤ n ∧ n ≤ 16) : obpAns m q n = ordGo m l s q n 1 (trivM l) := by
  unfold obpAns; rw [h, if_pos rfl, if_pos (by omega), g.L, g.S]; rfl
theorem next_cases (m : Mach) (l s q : Nat) (hq : q < s) (g : Good m l s) (now : Mach) (sN : Nat) (gN : Good now l sN) :
    (nextC m l s q now = 3 ∧ fromB (prodT now m l sN s) (0 * s + q) = false) ∨ (nextC m l s q now = 0 ∧ fromB (prodT now m l sN s) (0 * s + q) = true ∧ ∃ s2, Good (nextM m l s q now) l s2 ∧ (nextM m l s q now).Ok) := by
  have e : now.S.toNat = sN := by rw [gN.S]; rfl
  have hin := prod_in (s' := s) (show 0 < sN from gN.s1) hq
  rcases from_cases (prodT now m l sN s) (0 * s + q) with ⟨h1, h2⟩ | ⟨h1, h2, _⟩
  · refine .inr ⟨by unfold nextC; rw [e]; exact h2, h1, ?_⟩
    obtain ⟨s2, g2⟩ := fromM_good (prod_ok gN g) hin g.l2 g.l3 (prod_o gN g) (prod_inj gN g) h2
    exact ⟨s2, by unfold nextM; rw [e]; exact g2, by unfold nextM; rw [e]; exact fromM_ok (prod_ok gN g) hin (prod_o256 gN g)⟩
  · exact .inl ⟨by unfold nextC; rw [e]; exact h2, h1⟩
theorem next_M (m : Mach) (l s q : Nat) (now : Mach) (sN : Nat) (gN : Good now l sN) : fromM (prodT now m l sN s) (0 * s + q) = nextM m l s q now ∧ fromC (prodT now m l sN s) (0 * s + q) = nextC m l s q now := by
  have e : now.S.toNat = sN := by rw [gN.S]; rfl
  unfold nextM nextC; rw [e]; exact ⟨rfl, rfl⟩
open Classical in
theorem eq_triv (m : Mach) (l s2 : Nat) (g : Good m l s2) (hk : m.Ok) : ∃ b : Bool, Hid (b = true ↔ mcells m = mcells (trivM l)) ∧ ∀ W : World, (Op.equalIn 10000 27 (.agg (mcells m)) (.agg (mcells (trivM l)))).run Try.prog W = .ok b W := by
  have l3 := g.l3; have s16 := g.s16
  exact ⟨_, hid decide_eq_true_iff, fun W => eq_mach W m (trivM l) hk (trivM_ok l l3) l s2 l 1 g.L g.S rfl rfl (by omega) (by omega) (by omega) (by omega) _ decide_eq_true_iff⟩
theorem ordGo_3 {m : Mach} {l s q f k : Nat} {now : Mach} (h : nextC m l s q now = 3) : ordGo m l s q (f + 1) k now = (0, 3) := by
  unfold ordGo; rw [h, if_neg (by decide)]
theorem ordGo_t {m : Mach} {l s q f k : Nat} {now : Mach} (h : nextC m l s q now = 0) (he : mcells (nextM m l s q now) = mcells (trivM l)) : ordGo m l s q (f + 1) k now = ((k : Int), 0) := by
  unfold ordGo; rw [if_pos h, if_pos he]
theorem ordGo_n {m : Mach} {l s q f k : Nat} {now : Mach} (h : nextC m l s q now = 0) (he : ¬ mcells (nextM m l s q now) = mcells (trivM l)) : ordGo m l s q (f + 1) k now = ordGo m l s q f (k + 1) (nextM m l s q now) := by
  conv => lhs; unfold ordGo
  rw [if_pos h, if_neg he]

set_option maxHeartbeats 8000000 in
set_option maxRecDepth 4000 in
theorem implObp_any (w : World) (m : Mach) (hkm : m.Ok) (q n : Int) :
    Calls Try.prog 71 #[.agg (mcells m), .int .i64 q, .int .i64 n] w fun e w' => e = .returned (.tuple #[.int .i64 (obpAns m q n).1, .int .i64 (obpAns m q n).2]) ∧ Below w.heap.size w w' := by
  have hz := zero_mach
  have hS := hid ((St.start w).newMB m 27)
  have hcode := hid (fun W base v h => codeOf_any W m hkm { data := #[] } (by decide) base v [q] h (by simp))
  have hown := hid (hS.out.newOwn [Value.int .i64 q] 2 (by simp))
  simp only [heap_alloc_size] at hown
  rcases codeI_cases m q with h | h | ⟨l, s, q, g, rfl, hq, h⟩
  · rw [obpAns_n h (by decide)]
    rw [h] at hcode
    replace hkm := hid hkm; clear h
    go_enter Try.func71, Try.ntmps71
    go_wp2_with (first
      | ((with_reducible refine gate (N := 13) rfl ?_); refine load_mach rfl _ rfl w.heap.size rfl m hS.out.m0 ?_)
      | (go_at_call 87; (with_reducible refine (hcode.out _ _ _ hown.out.o0).mono ?_); rintro e w1 ⟨rfl, hb⟩; replace hS := hid (hown.out.call hb).drop; clear hb hcode hown))
    go_ret2
    exact ⟨rfl, hS.out.bel⟩
  · rw [obpAns_n h (by decide)]
    rw [h] at hcode
    replace hkm := hid hkm; clear h
    go_enter Try.func71, Try.ntmps71
    go_wp2_with (first
      | ((with_reducible refine gate (N := 13) rfl ?_); refine load_mach rfl _ rfl w.heap.size rfl m hS.out.m0 ?_)
      | (go_at_call 87; (with_reducible refine (hcode.out _ _ _ hown.out.o0).mono ?_); rintro e w1 ⟨rfl, hb⟩; replace hS := hid (hown.out.call hb).drop; clear hb hcode hown))
    go_ret2
    exact ⟨rfl, hS.out.bel⟩
  · by_cases hn : 1 ≤ n ∧ n ≤ 16
    · obtain ⟨n, rfl⟩ := Int.eq_ofNat_of_zero_le (show 0 ≤ n by omega)
      have hw := hid (show true = decide (1 ≤ (n : Int) ∧ (n : Int) ≤ 16) from (decide_eq_true hn).symm)
      rw [obpAns_0 g h (by omega)]
      rw [h] at hcode
      have gL := hid g.L
      have l2 := g.l2; have l3 := g.l3
      have htr := hid (fun W => trivialMachine_any W l l3)
      have hpr := hid (fun b W now sN (gN : Good now l sN) hb hm => (by have h := product_any b w.heap.size W now m hb hm l sN s gN g 0 q gN.s1 hq; rw [(next_M m l s q now sN gN).1, (next_M m l s q now sN gN).2] at h; exact h : Calls Try.prog 170 #[.pointer (some ⟨b, 0, none⟩), .int .i64 0, .pointer (some ⟨w.heap.size, 0, none⟩), .int .i64 (q : Nat)] W fun e w' => e = .returned (.tuple #[.agg (mcells (nextM m l s q now)), .int .i64 (nextC m l s q now)]) ∧ Below W.heap.size W w'))
      have hnc := hid (next_cases m l s q hq g)
      have htg := hid (trivM_good l l2 l3)
      have heqt := hid (fun M s2 (gM : Good M l s2) (hM : M.Ok) => eq_triv M l s2 gM hM)
      obtain ⟨ans, hans⟩ : ∃ a, a = ordGo m l s q n 1 (trivM l) := ⟨_, rfl⟩
      rw [← hans]
      replace hans := hid hans
      have hN := hid (fun L W M (h : St w.heap.size w L W) => h.newMB M 27)
      have hz2 := hid (fun L W (h : St w.heap.size w L W) => h.newMB ⟨0, 0, fun _ => 0, fun _ => 0⟩ 27)
      have hgd := guard_mach
      have hn1 : n ≤ 16 := by omega
      replace hkm := hid hkm; clear h; replace g := hid g; replace hn := hid hn
      generalize mcells ⟨0, 0, fun _ => 0, fun _ => 0⟩ = zs at *
      go_enter Try.func71, Try.ntmps71
      go_upto_region 6 with (first
        | ((with_reducible refine gate (N := 13) rfl ?_); refine load_mach rfl _ rfl w.heap.size rfl m hS.out.m0 ?_)
        | (go_at_call 87; (with_reducible refine (hcode.out _ _ _ hown.out.o0).mono ?_); rintro e w1 ⟨rfl, hb⟩; replace hS := hid (hown.out.call hb).drop; clear hb hcode hown)
        | (go_at_call 124; (with_reducible refine (within_any _ _ _ true hw.out _).mono ?_); rintro e w' ⟨rfl, rfl⟩))
      have cL := hS.out.m0.cL
      rw [gL.out] at cL
      go_upto_region 7 with (first
        | (go_at_call 169; (with_reducible refine (htr.out _).mono ?_); rintro e w2 ⟨rfl, hb⟩; have hle2 := hid (hS.out.call hb).le; replace hS := hid (hz2.out _ _ (hS.out.call hb)); clear hb cL)
        | ((with_reducible refine gateOp (op := .store 27 (.tmp 9) (.tmp 25)) rfl ?_); refine store_mach rfl _ _ rfl w2.heap.size rfl (trivM l) rfl 27 _ hS.out.m0 ?_; intro W1 p3 ho hsz hbl; replace hS := hid (hS.out.setM hle2.out p3 ho hbl); clear p3 ho hsz hbl))
      generalize w2.heap.size = b9 at *
      have hle3 := hid hS.out.le
      have hS0 := hS
      replace hS := hid (hz2.out _ _ hS.out)
      have hld := hid hS0.out.m0
      clear hS0
      go_upto_region 8 with (first
        | ((with_reducible refine gate (N := 26) rfl ?_); refine load_mach rfl _ rfl b9 rfl (trivM l) hld.out ?_)
        | ((with_reducible refine gateOp (op := .store 27 (.tmp 10) (.tmp 26)) rfl ?_); refine store_mach rfl _ _ rfl W1.heap.size rfl (trivM l) rfl 27 _ hS.out.m0 ?_; intro W2 p3 ho hsz hbl; replace hS := hid (hS.out.setM hle3.out p3 ho hbl); clear p3 ho hsz hbl hld))
      generalize W1.heap.size = b10 at *
      go_wp2
      go_loopw [11] (fun i wr => ∃ (c f : Nat) (now : Mach) (sN : Nat), i = .int .i64 c ∧ c + f = n + 1 ∧ Hid (Good now l sN) ∧ Hid (ans = ordGo m l s q f c now) ∧ St w.heap.size w [Asn.mb 27 b10 now, Asn.mb 27 b9 (trivM l), Asn.mb 27 w.heap.size m] wr) (fun i _ => n + 1 - (intOf i).toNat)
      case atStart => exact ⟨1, n, _, _, rfl, Nat.add_comm _ _, htg, hans, hS.out⟩
      case round =>
        obtain ⟨c, f, now, sN, rfl, hcf, gN, ha, rS⟩ := hrel
        clear hS hans
        replace rS := hid rS
        rcases f with _ | f
        · have dc : decide ((c : Int) ≤ (n : Int)) = false := decide_eq_false (by omega)
          have hA := hid (show ans = (0, 4) from ha.out)
          go_wp2
          go_ret2
          exact ⟨by first | (rw [hA.out]; done) | (rw [hA.out]; rfl), rS.out.bel⟩
        · have dc : decide ((c : Int) ≤ (n : Int)) = true := decide_eq_true (by omega)
          have hpn := hid (fun W hb hm => hpr.out b10 W now sN gN.out hb hm)
          rcases hnc.out now sN gN.out with ⟨h3, hB⟩ | ⟨h0, hB, s2, g2, k2⟩
          · have hA := hid (show ans = (0, 3) from ha.out.trans (ordGo_3 h3))
            rw [h3] at hpn
            clear h3 hB ha
            generalize nextM m l s q now = nx at *
            go_wp2_with (first
              | (go_at_call 170; (with_reducible refine (hpn.out _ rS.out.m0 rS.out.m2).mono ?_); rintro e w3 ⟨rfl, hb⟩; replace rS := hid (rS.out.call hb); clear hb hpn)
              | ((with_reducible refine gateOp (op := .store 27 (.tmp 10) (.tmp 35)) rfl ?_); refine store_mach rfl _ _ rfl b10 rfl nx rfl 27 _ rS.out.m0 ?_; intro W5 p3 ho hsz hbl; replace rS := hid (rS.out.setM hle3.out p3 ho hbl); clear p3 ho hsz hbl)
              | ((with_reducible refine gate (N := 42) rfl ?_); refine load_mach rfl _ rfl b10 rfl nx rS.out.m0 ?_)
              | ((with_reducible refine gate (N := 43) rfl ?_); refine load_mach rfl _ rfl b9 rfl (trivM l) rS.out.m1 ?_))
            go_ret2
            exact ⟨by first | (rw [hA.out]; done) | (rw [hA.out]; rfl), rS.out.bel⟩
          · obtain ⟨b, hb, heq⟩ := heqt.out _ _ g2 k2
            rw [h0] at hpn
            cases b with
            | true =>
              have hA := hid (show ans = ((c : Int), 0) from ha.out.trans (ordGo_t h0 (hb.out.1 rfl)))
              clear h0 hB ha hb g2 k2
              generalize nextM m l s q now = nx at *
              go_wp2_with (first
                | (go_at_call 170; (with_reducible refine (hpn.out _ rS.out.m0 rS.out.m2).mono ?_); rintro e w3 ⟨rfl, hb⟩; replace rS := hid (rS.out.call hb); clear hb hpn)
                | ((with_reducible refine gateOp (op := .store 27 (.tmp 10) (.tmp 35)) rfl ?_); refine store_mach rfl _ _ rfl b10 rfl nx rfl 27 _ rS.out.m0 ?_; intro W5 p3 ho hsz hbl; replace rS := hid (rS.out.setM hle3.out p3 ho hbl); clear p3 ho hsz hbl)
                | ((with_reducible refine gate (N := 42) rfl ?_); refine load_mach rfl _ rfl b10 rfl nx rS.out.m0 ?_)
                | ((with_reducible refine gate (N := 43) rfl ?_); refine load_mach rfl _ rfl b9 rfl (trivM l) rS.out.m1 ?_))
              go_ret2
              exact ⟨by first | (rw [hA.out]; done) | (rw [hA.out]; rfl), rS.out.bel⟩
            | false =>
              have hA := hid (ha.out.trans (ordGo_n h0 (fun h => by have := hb.out.2 h; cases this)))
              replace g2 := hid g2
              clear h0 hB ha hb k2
              generalize nextM m l s q now = nx at *
              go_wp2_with (first
                | (go_at_call 170; (with_reducible refine (hpn.out _ rS.out.m0 rS.out.m2).mono ?_); rintro e w3 ⟨rfl, hb⟩; replace rS := hid (rS.out.call hb); clear hb hpn)
                | ((with_reducible refine gateOp (op := .store 27 (.tmp 10) (.tmp 35)) rfl ?_); refine store_mach rfl _ _ rfl b10 rfl nx rfl 27 _ rS.out.m0 ?_; intro W5 p3 ho hsz hbl; replace rS := hid (rS.out.setM hle3.out p3 ho hbl); clear p3 ho hsz hbl)
                | ((with_reducible refine gate (N := 42) rfl ?_); refine load_mach rfl _ rfl b10 rfl nx rS.out.m0 ?_)
                | ((with_reducible refine gate (N := 43) rfl ?_); refine load_mach rfl _ rfl b9 rfl (trivM l) rS.out.m1 ?_))
              go_roundw
              case rel => exact ⟨c + 1, f, nx, s2, by go_num, by omega, g2, hA, rS.out⟩
              case measure => simp [intOf]; omega
    · rw [obpAns_r h hn]
      have hw := hid (show false = decide (1 ≤ n ∧ n ≤ 16) from (decide_eq_false hn).symm)
      rw [h] at hcode
      replace hkm := hid hkm; clear h hn; replace g := hid g
      go_enter Try.func71, Try.ntmps71
      go_wp2_with (first
        | ((with_reducible refine gate (N := 13) rfl ?_); refine load_mach rfl _ rfl w.heap.size rfl m hS.out.m0 ?_)
        | (go_at_call 87; (with_reducible refine (hcode.out _ _ _ hown.out.o0).mono ?_); rintro e w1 ⟨rfl, hb⟩; replace hS := hid (hown.out.call hb).drop; clear hb hcode hown)
        | (go_at_call 124; (with_reducible refine (within_any _ _ _ false hw.out _).mono ?_); rintro e w' ⟨rfl, rfl⟩))
      go_ret2
      exact ⟨rfl, hS.out.bel⟩
set_option maxHeartbeats 8000000 in
set_option maxRecDepth 4000 in
theorem specObp_any (w : World) (m : Mach) (hkm : m.Ok) (q n : Int) :
    Calls Try.prog 72 #[.agg (mcells m), .int .i64 q, .int .i64 n] w fun e w' => e = .returned (.tuple #[.int .i64 (obpAns m q n).1, .int .i64 (obpAns m q n).2]) ∧ Below w.heap.size w w' := by
  have hz := zero_mach
  have hS := hid ((St.start w).newMB m 27)
  have hcode := hid (fun W => l07State_any W m hkm q)
  rcases codeI_cases m q with h | h | ⟨l, s, q, g, rfl, hq, h⟩
  · rw [obpAns_n h (by decide)]
    rw [h] at hcode
    replace hkm := hid hkm; clear h
    go_enter Try.func72, Try.ntmps72
    go_wp2_with (first
      | ((with_reducible refine gate (N := 14) rfl ?_); refine load_mach rfl _ rfl w.heap.size rfl m hS.out.m0 ?_)
      | (go_at_call 171; (with_reducible refine (hcode.out _).mono ?_); rintro e w1 ⟨rfl, hb⟩; replace hS := hid (hS.out.call hb); clear hb hcode))
    go_ret2
    exact ⟨rfl, hS.out.bel⟩
  · rw [obpAns_n h (by decide)]
    rw [h] at hcode
    replace hkm := hid hkm; clear h
    go_enter Try.func72, Try.ntmps72
    go_wp2_with (first
      | ((with_reducible refine gate (N := 14) rfl ?_); refine load_mach rfl _ rfl w.heap.size rfl m hS.out.m0 ?_)
      | (go_at_call 171; (with_reducible refine (hcode.out _).mono ?_); rintro e w1 ⟨rfl, hb⟩; replace hS := hid (hS.out.call hb); clear hb hcode))
    go_ret2
    exact ⟨rfl, hS.out.bel⟩
  · by_cases hn : 1 ≤ n ∧ n ≤ 16
    · obtain ⟨n, rfl⟩ := Int.eq_ofNat_of_zero_le (show 0 ≤ n by omega)
      have hw := hid (show true = decide (1 ≤ (n : Int) ∧ (n : Int) ≤ 16) from (decide_eq_true hn).symm)
      rw [obpAns_0 g h (by omega)]
      rw [h] at hcode
      have gL := hid g.L
      have l2 := g.l2; have l3 := g.l3
      have htr := hid (fun W => l07Trivial_any W l l3)
      have hpr := hid (fun W now sN (gN : Good now l sN) => (by have h := l07Product_any W now m l sN s gN g 0 q gN.s1 hq; rw [(next_M m l s q now sN gN).1] at h; exact h : Calls Try.prog 173 #[.agg (mcells now), .int .i64 0, .agg (mcells m), .int .i64 (q : Nat)] W fun e w' => e = .returned (.tuple #[.agg (mcells (nextM m l s q now)), .bool (fromB (prodT now m l sN s) (0 * s + q))]) ∧ Below W.heap.size W w'))
      have hnc := hid (next_cases m l s q hq g)
      have htg := hid (trivM_good l l2 l3)
      have heqt := hid (fun M s2 (gM : Good M l s2) (hM : M.Ok) => eq_triv M l s2 gM hM)
      obtain ⟨ans, hans⟩ : ∃ a, a = ordGo m l s q n 1 (trivM l) := ⟨_, rfl⟩
      rw [← hans]
      replace hans := hid hans
      have hN := hid (fun L W M (h : St w.heap.size w L W) => h.newMB M 27)
      have hz2 := hid (fun L W (h : St w.heap.size w L W) => h.newMB ⟨0, 0, fun _ => 0, fun _ => 0⟩ 27)
      have hgd := guard_mach
      have hn1 : n ≤ 16 := by omega
      replace hkm := hid hkm; clear h; replace g := hid g; replace hn := hid hn
      generalize mcells ⟨0, 0, fun _ => 0, fun _ => 0⟩ = zs at *
      go_enter Try.func72, Try.ntmps72
      go_upto_region 6 with (first
        | ((with_reducible refine gate (N := 14) rfl ?_); refine load_mach rfl _ rfl w.heap.size rfl m hS.out.m0 ?_)
        | (go_at_call 171; (with_reducible refine (hcode.out _).mono ?_); rintro e w1 ⟨rfl, hb⟩; replace hS := hid (hS.out.call hb); clear hb hcode)
        | (go_at_call 91; (with_reducible refine (l01In_any n 1 16 true hw.out _).mono ?_); rintro e w' ⟨rfl, rfl⟩))
      have cL := hS.out.m0.cL
      rw [gL.out] at cL
      go_upto_region 7 with (first
        | (go_at_call 172; (with_reducible refine (htr.out _).mono ?_); rintro e w2 ⟨rfl, hb⟩; have hle2 := hid (hS.out.call hb).le; replace hS := hid (hz2.out _ _ (hS.out.call hb)); clear hb cL)
        | ((with_reducible refine gateOp (op := .store 27 (.tmp 9) (.tmp 29)) rfl ?_); refine store_mach rfl _ _ rfl w2.heap.size rfl (trivM l) rfl 27 _ hS.out.m0 ?_; intro W1 p3 ho hsz hbl; replace hS := hid (hS.out.setM hle2.out p3 ho hbl); clear p3 ho hsz hbl))
      generalize w2.heap.size = b9 at *
      have hle3 := hid hS.out.le
      have hS0 := hS
      replace hS := hid (hz2.out _ _ hS.out)
      have hld := hid hS0.out.m0
      clear hS0
      go_upto_region 8 with (first
        | ((with_reducible refine gate (N := 30) rfl ?_); refine load_mach rfl _ rfl b9 rfl (trivM l) hld.out ?_)
        | ((with_reducible refine gateOp (op := .store 27 (.tmp 10) (.tmp 30)) rfl ?_); refine store_mach rfl _ _ rfl W1.heap.size rfl (trivM l) rfl 27 _ hS.out.m0 ?_; intro W2 p3 ho hsz hbl; replace hS := hid (hS.out.setM hle3.out p3 ho hbl); clear p3 ho hsz hbl hld))
      generalize W1.heap.size = b10 at *
      go_wp2
      go_loopw [11] (fun i wr => ∃ (c f : Nat) (now : Mach) (sN : Nat), i = .int .i64 c ∧ c + f = n + 1 ∧ Hid (Good now l sN) ∧ Hid (ans = ordGo m l s q f c now) ∧ St w.heap.size w [Asn.mb 27 b10 now, Asn.mb 27 b9 (trivM l), Asn.mb 27 w.heap.size m] wr) (fun i _ => n + 1 - (intOf i).toNat)
      case atStart => exact ⟨1, n, _, _, rfl, Nat.add_comm _ _, htg, hans, hS.out⟩
      case round =>
        obtain ⟨c, f, now, sN, rfl, hcf, gN, ha, rS⟩ := hrel
        clear hS hans
        replace rS := hid rS
        rcases f with _ | f
        · have dc : decide ((c : Int) ≤ (n : Int)) = false := decide_eq_false (by omega)
          have hA := hid (show ans = (0, 4) from ha.out)
          go_wp2
          go_ret2
          exact ⟨by first | (rw [hA.out]; done) | (rw [hA.out]; rfl), rS.out.bel⟩
        · have dc : decide ((c : Int) ≤ (n : Int)) = true := decide_eq_true (by omega)
          have hpn := hid (fun W => hpr.out W now sN gN.out)
          rcases hnc.out now sN gN.out with ⟨h3, hB⟩ | ⟨h0, hB, s2, g2, k2⟩
          · have hA := hid (show ans = (0, 3) from ha.out.trans (ordGo_3 h3))
            rw [hB] at hpn
            clear h3 hB ha
            generalize nextM m l s q now = nx at *
            go_wp2_with (first
              | ((with_reducible refine gate (N := 37) rfl ?_); refine load_mach rfl _ rfl b10 rfl now rS.out.m0 ?_)
              | ((with_reducible refine gate (N := 38) rfl ?_); refine load_mach rfl _ rfl w.heap.size rfl m rS.out.m2 ?_)
              | (go_at_call 173; (with_reducible refine (hpn.out _).mono ?_); rintro e w3 ⟨rfl, hb⟩; have hle5 := hid (rS.out.call hb).le; replace rS := hid (hz2.out _ _ (rS.out.call hb)); clear hb hpn)
              | ((with_reducible refine gateOp (op := .store 27 (.tmp 12) (.tmp 41)) rfl ?_); refine store_mach rfl _ _ rfl w3.heap.size rfl nx rfl 27 _ rS.out.m0 ?_; intro W5 p3 ho hsz hbl; replace rS := hid (rS.out.setM hle5.out p3 ho hbl); clear p3 ho hsz hbl)
              | ((with_reducible refine gate (N := 45) rfl ?_); refine load_mach rfl _ rfl w3.heap.size rfl nx rS.out.m0 ?_)
              | ((with_reducible refine gate (N := 46) rfl ?_); refine load_mach rfl _ rfl b9 rfl (trivM l) rS.out.m2 ?_))
            go_ret2
            exact ⟨by first | (rw [hA.out]; done) | (rw [hA.out]; rfl), rS.out.bel⟩
          · obtain ⟨b, hb, heq⟩ := heqt.out _ _ g2 k2
            rw [hB] at hpn
            cases b with
            | true =>
              have hA := hid (show ans = ((c : Int), 0) from ha.out.trans (ordGo_t h0 (hb.out.1 rfl)))
              clear h0 hB ha hb g2 k2
              generalize nextM m l s q now = nx at *
              go_wp2_with (first
                | ((with_reducible refine gate (N := 37) rfl ?_); refine load_mach rfl _ rfl b10 rfl now rS.out.m0 ?_)
                | ((with_reducible refine gate (N := 38) rfl ?_); refine load_mach rfl _ rfl w.heap.size rfl m rS.out.m2 ?_)
                | (go_at_call 173; (with_reducible refine (hpn.out _).mono ?_); rintro e w3 ⟨rfl, hb⟩; have hle5 := hid (rS.out.call hb).le; replace rS := hid (hz2.out _ _ (rS.out.call hb)); clear hb hpn)
                | ((with_reducible refine gateOp (op := .store 27 (.tmp 12) (.tmp 41)) rfl ?_); refine store_mach rfl _ _ rfl w3.heap.size rfl nx rfl 27 _ rS.out.m0 ?_; intro W5 p3 ho hsz hbl; replace rS := hid (rS.out.setM hle5.out p3 ho hbl); clear p3 ho hsz hbl)
                | ((with_reducible refine gate (N := 45) rfl ?_); refine load_mach rfl _ rfl w3.heap.size rfl nx rS.out.m0 ?_)
                | ((with_reducible refine gate (N := 46) rfl ?_); refine load_mach rfl _ rfl b9 rfl (trivM l) rS.out.m2 ?_))
              go_ret2
              exact ⟨by first | (rw [hA.out]; done) | (rw [hA.out]; rfl), rS.out.bel⟩
            | false =>
              have hA := hid (ha.out.trans (ordGo_n h0 (fun h => by have := hb.out.2 h; cases this)))
              replace g2 := hid g2
              clear h0 hB ha hb k2
              generalize nextM m l s q now = nx at *
              go_wp2_with (first
                | ((with_reducible refine gate (N := 37) rfl ?_); refine load_mach rfl _ rfl b10 rfl now rS.out.m0 ?_)
                | ((with_reducible refine gate (N := 38) rfl ?_); refine load_mach rfl _ rfl w.heap.size rfl m rS.out.m2 ?_)
                | (go_at_call 173; (with_reducible refine (hpn.out _).mono ?_); rintro e w3 ⟨rfl, hb⟩; have hle5 := hid (rS.out.call hb).le; replace rS := hid (hz2.out _ _ (rS.out.call hb)); clear hb hpn)
                | ((with_reducible refine gateOp (op := .store 27 (.tmp 12) (.tmp 41)) rfl ?_); refine store_mach rfl _ _ rfl w3.heap.size rfl nx rfl 27 _ rS.out.m0 ?_; intro W5 p3 ho hsz hbl; replace rS := hid (rS.out.setM hle5.out p3 ho hbl); clear p3 ho hsz hbl)
                | ((with_reducible refine gate (N := 45) rfl ?_); refine load_mach rfl _ rfl w3.heap.size rfl nx rS.out.m0 ?_)
                | ((with_reducible refine gate (N := 46) rfl ?_); refine load_mach rfl _ rfl b9 rfl (trivM l) rS.out.m2 ?_)
                | ((with_reducible refine gate (N := 49) rfl ?_); refine load_mach rfl _ rfl w3.heap.size rfl nx rS.out.m0 ?_)
                | ((with_reducible refine gateOp (op := .store 27 (.tmp 10) (.tmp 49)) rfl ?_); refine store_mach rfl _ _ rfl b10 rfl nx rfl 27 _ rS.out.m1 ?_; intro W6 p3 ho hsz hbl; replace rS := hid (rS.out.drop.setM hle3.out p3 ho hbl); clear p3 ho hsz hbl))
              go_roundw
              case rel => exact ⟨c + 1, f, nx, s2, by go_num, by omega, g2, hA, rS.out⟩
              case measure => simp [intOf]; omega
    · rw [obpAns_r h hn]
      have hw := hid (show false = decide (1 ≤ n ∧ n ≤ 16) from (decide_eq_false hn).symm)
      rw [h] at hcode
      replace hkm := hid hkm; clear h hn; replace g := hid g
      go_enter Try.func72, Try.ntmps72
      go_wp2_with (first
        | ((with_reducible refine gate (N := 14) rfl ?_); refine load_mach rfl _ rfl w.heap.size rfl m hS.out.m0 ?_)
        | (go_at_call 171; (with_reducible refine (hcode.out _).mono ?_); rintro e w1 ⟨rfl, hb⟩; replace hS := hid (hS.out.call hb); clear hb hcode)
        | (go_at_call 91; (with_reducible refine (l01In_any n 1 16 false hw.out _).mono ?_); rintro e w' ⟨rfl, rfl⟩))
      go_ret2
      exact ⟨rfl, hS.out.bel⟩
end Go.Proofs.Ytbmkkaecfogmoaa

/- Products of lists of states: the program's productOf. -/
namespace Go.Proofs.Ytbmkkaecfogmoaa
open Go.RowKit
set_option linter.unusedVariables false
set_option linter.unusedSimpArgs false

/-- The product of a list, from what has been made: fs i is (machine, its states, the state). -/
def chn (fs : Nat → Mach × Nat × Nat) (l : Nat) : Nat → Nat → Mach → Mach × Int
  | 0, _, now => (now, 0)
  | f + 1, i, now => if nextC (fs i).1 l (fs i).2.1 (fs i).2.2 now = 0 then chn fs l f (i + 1) (nextM (fs i).1 l (fs i).2.1 (fs i).2.2 now) else (⟨0, 0, fun _ => 0, fun _ => 0⟩, 3)
theorem chn_3 {fs : Nat → Mach × Nat × Nat} {l f i : Nat} {now : Mach} (h : nextC (fs i).1 l (fs i).2.1 (fs i).2.2 now = 3) : chn fs l (f + 1) i now = (⟨0, 0, fun _ => 0, fun _ => 0⟩, 3) := by
  unfold chn; rw [h, if_neg (by decide)]
theorem chn_0 {fs : Nat → Mach × Nat × Nat} {l f i : Nat} {now : Mach} (h : nextC (fs i).1 l (fs i).2.1 (fs i).2.2 now = 0) : chn fs l (f + 1) i now = chn fs l f (i + 1) (nextM (fs i).1 l (fs i).2.1 (fs i).2.2 now) := by
  conv => lhs; unfold chn
  rw [if_pos h]

theorem sz_factor : (Try.prog.info? 181).map (·.size) = some 2 := by kernel_rfl
set_option maxHeartbeats 4000000 in
set_option maxRecDepth 4000 in
theorem productOf_any (w : World) (g cap n l : Nat) (fs : Nat → Mach × Nat × Nat) (bs : Nat → Nat) (l2 : 2 ≤ l) (l3 : l ≤ 3) (hn : n ≤ 1000)
    (hrd : ∀ W, Below w.heap.size w W → ∀ i, i < n → W.rangeAt g (i * 2) [.pointer (some ⟨bs i, 0, none⟩), .int .i64 ((fs i).2.2 : Nat)] ∧ MB W 27 (bs i) (fs i).1)
    (hgd : ∀ i, i < n → Good (fs i).1 l (fs i).2.1 ∧ (fs i).2.2 < (fs i).2.1) :
    Calls Try.prog 174 #[.int .i64 l, .slice (some ⟨g, 0, none⟩) n cap] w fun e w' => e = .returned (.tuple #[.agg (mcells (chn fs l n 0 (trivM l)).1), .int .i64 (chn fs l n 0 (trivM l)).2]) ∧ Below w.heap.size w w' := by
  have hz := zero_mach
  have hS := hid ((St.start w).newMB ⟨0, 0, fun _ => 0, fun _ => 0⟩ 27)
  replace hrd := hid hrd
  replace hgd := hid hgd
  have htr := hid (fun W => trivialMachine_any W l l3)
  have hpr := hid (fun i (hi : i < n) b W now sN (gN : Good now l sN) hb hm => (by have h := product_any b (bs i) W now (fs i).1 hb hm l sN (fs i).2.1 gN (hgd.out i hi).1 0 (fs i).2.2 gN.s1 (hgd.out i hi).2; rw [(next_M (fs i).1 l (fs i).2.1 (fs i).2.2 now sN gN).1, (next_M (fs i).1 l (fs i).2.1 (fs i).2.2 now sN gN).2] at h; exact h : Calls Try.prog 170 #[.pointer (some ⟨b, 0, none⟩), .int .i64 0, .pointer (some ⟨bs i, 0, none⟩), .int .i64 ((fs i).2.2 : Nat)] W fun e w' => e = .returned (.tuple #[.agg (mcells (nextM (fs i).1 l (fs i).2.1 (fs i).2.2 now)), .int .i64 (nextC (fs i).1 l (fs i).2.1 (fs i).2.2 now)]) ∧ Below W.heap.size W w'))
  have hnc := hid (fun i (hi : i < n) now sN gN => next_cases (fs i).1 l (fs i).2.1 (fs i).2.2 (hgd.out i hi).2 (hgd.out i hi).1 now sN gN)
  have htg := hid (trivM_good l l2 l3)
  have hz2 := hid (fun L W (h : St w.heap.size w L W) => h.newMB ⟨0, 0, fun _ => 0, fun _ => 0⟩ 27)
  obtain ⟨ans, hans⟩ : ∃ a, a = chn fs l n 0 (trivM l) := ⟨_, rfl⟩
  rw [← hans]
  replace hans := hid hans
  generalize hzs : mcells ⟨0, 0, fun _ => 0, fun _ => 0⟩ = zs at *
  replace hzs := hid hzs
  go_enter Try.func174, Try.ntmps174
  go_upto_region 2 with (first
    | (go_at_call 169; (with_reducible refine (htr.out _).mono ?_); rintro e w2 ⟨rfl, hb⟩; have hle2 := hid (hS.out.call hb).le; replace hS := hid (hz2.out _ _ (hS.out.call hb)); clear hb)
    | ((with_reducible refine gateOp (op := .store 27 (.tmp 6) (.tmp 11)) rfl ?_); refine store_mach rfl _ _ rfl w2.heap.size rfl (trivM l) rfl 27 _ hS.out.m0 ?_; intro W1 p3 ho hsz hbl; replace hS := hid (hS.out.setM hle2.out p3 ho hbl); clear p3 ho hsz hbl))
  generalize w2.heap.size = b6 at *
  go_wp2
  go_loopw [14] (fun j wr => ∃ (i f : Nat) (now : Mach) (sN : Nat), j = .int .i64 i ∧ i + f = n ∧ Hid (Good now l sN) ∧ Hid (ans = chn fs l f i now) ∧ St w.heap.size w [Asn.mb 27 b6 now, Asn.mb 27 w.heap.size ⟨0, 0, fun _ => 0, fun _ => 0⟩] wr) (fun j _ => n - (intOf j).toNat)
  case atStart => exact ⟨0, n, _, _, rfl, Nat.zero_add _, htg, hans, hS.out⟩
  case round =>
    obtain ⟨i, f, now, sN, rfl, hcf, gN, ha, rS⟩ := hrel
    clear hS hans
    replace rS := hid rS
    rcases f with _ | f
    · have dc : decide ((i : Int) < (n : Int)) = false := decide_eq_false (by omega)
      have hA := hid (show ans = (now, 0) from ha.out)
      go_wp2_with (first
        | ((with_reducible refine gate (N := 31) rfl ?_); refine load_mach rfl _ rfl b6 rfl now rS.out.m0 ?_)
        | ((with_reducible refine gateOp (op := .store 27 (.tmp 4) (.tmp 31)) rfl ?_); refine store_mach rfl _ _ rfl w.heap.size rfl now rfl 27 _ rS.out.m1 ?_; intro W3 p2 ho hsz hbl; have pB := hid (hbl _ _ (Nat.le_refl _) rS.out.bel); replace p2 := hid p2; clear ho hsz hbl))
      exact ret_mach_i rfl rfl rfl p2.out rfl ⟨by rw [hA.out], pB.out⟩
    · have dc : decide ((i : Int) < (n : Int)) = true := decide_eq_true (by omega)
      have hin : i < n := by omega
      have i0 : (0 : Int) ≤ (i : Int) := Int.natCast_nonneg _
      have i1 : (i : Int) < (n : Int) := by omega
      have rg := hid (hrd.out _ rS.out.bel i hin).1
      have hmb := hid (fun W hW => (hrd.out W hW i hin).2)
      have hpn := hid (fun W hb hm => hpr.out i hin b6 W now sN gN.out hb hm)
      have hle6 := hid (show w.heap.size ≤ b6 from hle2.out)
      rcases hnc.out i hin now sN gN.out with ⟨h3, hB⟩ | ⟨h0, hB, s2, g2, k2⟩
      · have hA := hid (show ans = _ from ha.out.trans (chn_3 h3))
        rw [h3] at hpn
        clear h3 hB ha
        generalize nextM (fs i).1 l (fs i).2.1 (fs i).2.2 now = nx at *
        generalize (fs i).2.2 = qi at *
        generalize bs i = bi at *
        go_wp2_with (first
          | ((with_reducible refine gate (N := 17) rfl ?_); refine wpList_load_mid rfl 181 _ rfl g (i * 2) rfl _ _ rg.out Try.underlying181 rfl sz_factor ?_; replace rS := hid (rS.out.newBlk #[.pointer (some ⟨bi, 0, none⟩), .int .i64 (qi : Int)] 181); clear rg)
          | (go_at_call 170; (with_reducible refine (hpn.out _ rS.out.m1 (hmb.out _ rS.out.bel)).mono ?_); rintro e w3 ⟨rfl, hb⟩; replace rS := hid (rS.out.call hb).drop; clear hb hpn)
          | ((with_reducible refine gateOp (op := .store 27 (.tmp 6) (.tmp 24)) rfl ?_); refine store_mach rfl _ _ rfl b6 rfl nx rfl 27 _ rS.out.m0 ?_; intro W5 p3 ho hsz hbl; replace rS := hid (rS.out.setM hle6.out p3 ho hbl); clear p3 ho hsz hbl)
          | ((with_reducible refine gate (N := 28) rfl ?_); refine build_zero rfl rfl ?_)
          | ((with_reducible refine gateOp (op := .store 27 (.tmp 4) (.tmp 28)) rfl ?_); refine store_mach rfl _ _ rfl w.heap.size rfl ⟨0, 0, fun _ => 0, fun _ => 0⟩ rfl 27 _ rS.out.m1 ?_; intro W3 p2 ho hsz hbl; have pB := hid (hbl _ _ (Nat.le_refl _) rS.out.bel); replace p2 := hid p2; clear ho hsz hbl))
        exact ret_mach_i rfl rfl rfl p2.out rfl ⟨by rw [hA.out], pB.out⟩
      · have hA := hid (ha.out.trans (chn_0 h0))
        replace g2 := hid g2
        rw [h0] at hpn
        clear h0 hB ha k2
        generalize nextM (fs i).1 l (fs i).2.1 (fs i).2.2 now = nx at *
        generalize (fs i).2.2 = qi at *
        generalize bs i = bi at *
        go_wp2_with (first
          | ((with_reducible refine gate (N := 17) rfl ?_); refine wpList_load_mid rfl 181 _ rfl g (i * 2) rfl _ _ rg.out Try.underlying181 rfl sz_factor ?_; replace rS := hid (rS.out.newBlk #[.pointer (some ⟨bi, 0, none⟩), .int .i64 (qi : Int)] 181); clear rg)
          | (go_at_call 170; (with_reducible refine (hpn.out _ rS.out.m1 (hmb.out _ rS.out.bel)).mono ?_); rintro e w3 ⟨rfl, hb⟩; replace rS := hid (rS.out.call hb).drop; clear hb hpn)
          | ((with_reducible refine gateOp (op := .store 27 (.tmp 6) (.tmp 24)) rfl ?_); refine store_mach rfl _ _ rfl b6 rfl nx rfl 27 _ rS.out.m0 ?_; intro W5 p3 ho hsz hbl; replace rS := hid (rS.out.setM hle6.out p3 ho hbl); clear p3 ho hsz hbl))
        go_roundw
        case rel => exact ⟨i + 1, f, nx, s2, by go_num, by omega, g2, hA, rS.out⟩
        case measure => simp [intOf]; omega
end Go.Proofs.Ytbmkkaecfogmoaa

/- Powers: the reference's l07Power. -/
namespace Go.Proofs.Ytbmkkaecfogmoaa
open Go.RowKit
set_option linter.unusedVariables false
set_option linter.unusedSimpArgs false

/-- The machine whose powers are made. -/
def powB (m : Mach) (l s : Nat) (n : Int) : Mach := if n < 0 then inv m l s else m
theorem powB_good {m : Mach} {l s : Nat} (g : Good m l s) (n : Int) : Good (powB m l s n) l s := by
  unfold powB; split
  · exact inv_good g
  · exact g
/-- A power. -/
def powR (m : Mach) (l s q : Nat) (n : Int) : Mach × Int := chn (fun _ => (powB m l s n, s, q)) l n.natAbs 0 (trivM l)

end Go.Proofs.Ytbmkkaecfogmoaa

/- PowerOfState: what the reference answers. -/
namespace Go.Proofs.Ytbmkkaecfogmoaa
open Go.RowKit
set_option linter.unusedVariables false
set_option linter.unusedSimpArgs false

open Classical in
/-- What PowerOfState answers. -/
noncomputable def powAns (m : Mach) (q n : Int) : Mach × Int :=
  if codeI m { data := #[] } [q] = 0 then (if -16 ≤ n ∧ n ≤ 16 then powR m m.L.toNat m.S.toNat q.toNat n else (⟨0, 0, fun _ => 0, fun _ => 0⟩, 2)) else (⟨0, 0, fun _ => 0, fun _ => 0⟩, codeI m { data := #[] } [q])
theorem powAns_n {m : Mach} {q n c : Int} (h : codeI m { data := #[] } [q] = c) (hc : c ≠ 0) : powAns m q n = (⟨0, 0, fun _ => 0, fun _ => 0⟩, c) := by
  unfold powAns; rw [h, if_neg hc]
theorem powAns_r {m : Mach} {q n : Int} (h : codeI m { data := #[] } [q] = 0) (hn : ¬ (-16 ≤ n ∧ n ≤ 16)) : powAns m q n = (⟨0, 0, fun _ => 0, fun _ => 0⟩, 2) := by
  unfold powAns; rw [h, if_pos rfl, if_neg hn]
theorem powAns_0 {m : Mach} {l s q : Nat} {n : Int} (g : Good m l s) (h : codeI m { data := #[] } [(q : Int)] = 0) (hn : -16 ≤ n ∧ n ≤ 16) : powAns m q n = powR m l s q n := by
  unfold powAns; rw [h, if_pos rfl, if_pos hn, g.L, g.S]; rfl
theorem chn_cases (fs : Nat → Mach × Nat × Nat) (l : Nat) : ∀ f i now, (chn fs l f i now).2 = 0 ∨ ((chn fs l f i now).2 = 3 ∧ (chn fs l f i now).1 = ⟨0, 0, fun _ => 0, fun _ => 0⟩)
  | 0, _, _ => .inl rfl
  | f + 1, i, now => by
    by_cases h : nextC (fs i).1 l (fs i).2.1 (fs i).2.2 now = 0
    · rw [chn_0 h]; exact chn_cases fs l f (i + 1) _
    · right
      unfold chn
      rw [if_neg h]
      exact ⟨rfl, rfl⟩

end Go.Proofs.Ytbmkkaecfogmoaa

/- DifferentActions: plain. -/
namespace Go.Proofs.Ytbmkkaecfogmoaa
open Go.RowKit
set_option linter.unusedVariables false
set_option linter.unusedSimpArgs false

/-- The cells of a list of machines. -/
def mfl (A : List Mach) : List Value := A.flatMap fun k => (mcells k).toList
theorem mfl_len (A : List Mach) : (mfl A).length = A.length * 98 := by
  induction A with
  | nil => rfl
  | cons a A ih => unfold mfl at *; rw [List.flatMap_cons, List.length_append, ih, List.length_cons, Array.length_toList, size_mcells]; omega
theorem mfl_app (A : List Mach) (p : Mach) : mfl (A ++ [p]) = mfl A ++ (mcells p).toList := by simp [mfl]
theorem mfl_get : ∀ (A : List Mach) (i : Nat) (k : Mach) (j : Nat), A[i]? = some k → j < 98 → (mfl A)[i * 98 + j]? = some (mf k j)
  | [], _, _, _, h, _ => by simp at h
  | a :: A, 0, k, j, h, hj => by
    have e : a = k := by simpa using h
    subst e
    have h1 := mcells_get a j hj
    rw [← Array.getElem?_toList] at h1
    show ((mcells a).toList ++ mfl A)[0 * 98 + j]? = _
    rw [List.getElem?_append_left (by rw [Array.length_toList, size_mcells]; omega), Nat.zero_mul, Nat.zero_add]; exact h1
  | a :: A, i + 1, k, j, h, hj => by
    have h1 := mfl_get A i k j (by simpa using h) hj
    show ((mcells a).toList ++ mfl A)[(i + 1) * 98 + j]? = _
    rw [List.getElem?_append_right (by rw [Array.length_toList, size_mcells]; omega), Array.length_toList, size_mcells, show (i + 1) * 98 + j - 98 = i * 98 + j by omega]; exact h1
section
variable {w : World} {base t g n cap : Nat} {A : List Mach}
theorem OwnN.mo (h : OwnN w base t 98 (.slice (some ⟨g, 0, none⟩) n cap) n (mfl A)) {i : Nat} {k : Mach} (hk : A[i]? = some k) : MO w g (i * 98) k := by
  refine ⟨(h.lt g rfl).2, fun j hj => ?_⟩
  exact h.cellAt _ _ (mfl_get A i k j hk hj)
theorem MO.range {b o : Nat} {m : Mach} (h : MO w b o m) : w.rangeAt b o (mcells m).toList := fun j v hv => by
  have hj : j < 98 := by have := (List.getElem?_eq_some_iff.1 hv).1; rwa [Array.length_toList, size_mcells] at this
  rw [Array.getElem?_toList, mcells_get m j hj] at hv
  rw [h.2 j hj]; exact hv
theorem load_mo {b o : Nat} {m : Mach} (h : MO w b o m) : (loadVar 27 ⟨b, o, none⟩).run Try.prog w = .ok (.agg (mcells m)) w :=
  run_loadVar_mid (P := Try.prog) w b o 27 (mcells m).toList _ h.range Try.underlying27 rfl (by rw [Array.length_toList, size_mcells]; exact sz_mach)
end
/-- Machines of l letters. -/
def GL (l : Nat) (A : List Mach) : Prop := ∀ k ∈ A, k.Ok ∧ ∃ sk, Good k l sk
theorem GL.nil {l : Nat} : GL l [] := fun k h => by simp at h
theorem GL.app {l : Nat} {A : List Mach} {p : Mach} (h : GL l A) (hk : p.Ok) {s : Nat} (g : Good p l s) : GL l (A ++ [p]) := fun k hk' => by
  rcases List.mem_append.1 hk' with h1 | h1
  · exact h k h1
  · have e : k = p := by simpa using h1
    subst e; exact ⟨hk, s, g⟩
def hasM (A : List Mach) (p : Mach) : Prop := ∃ k ∈ A, mcells k = mcells p
section
open Classical
noncomputable def hasB (A : List Mach) (p : Mach) : Bool := decide (hasM A p)
theorem hasB_iff (A : List Mach) (p : Mach) : hasB A p = true ↔ hasM A p := decide_eq_true_iff
noncomputable def stpD (m : Mach) (l s : Nat) (k : Mach) (q : Nat) (A : List Mach) : Option (List Mach) :=
  if nextC m l s q k = 0 then some (if hasB A (nextM m l s q k) then A else A ++ [nextM m l s q k]) else none
noncomputable def dfQ (m : Mach) (l s : Nat) (k : Mach) (A : List Mach) : Nat → Option (List Mach)
  | 0 => some A
  | q + 1 => (dfQ m l s k A q).bind (stpD m l s k q)
noncomputable def dfI (m : Mach) (l s : Nat) (lst : List Mach) : Nat → Option (List Mach)
  | 0 => some []
  | i + 1 => (dfI m l s lst i).bind fun A => dfQ m l s (lst.getD i (trivM l)) A s
noncomputable def dfN (m : Mach) (l s : Nat) : Nat → Option (List Mach)
  | 0 => some [trivM l]
  | n + 1 => (dfN m l s n).bind fun lst => dfI m l s lst lst.length
noncomputable def difAns (m : Mach) (n : Int) : Int × Int :=
  if IsM m then (if 0 ≤ n ∧ n ≤ 16 ∧ m.S.toNat ^ n.toNat ≤ 300 then (match dfN m m.L.toNat m.S.toNat n.toNat with | none => (0, 3) | some A => ((A.length : Int), 0)) else (0, 2)) else (0, 1)
end
section
variable {m : Mach} {l s : Nat}
theorem dfQ_none {k : Mach} {A : List Mach} {q q' : Nat} (h : dfQ m l s k A q = none) (hq : q ≤ q') : dfQ m l s k A q' = none := by
  induction q' with
  | zero => have e : q = 0 := by omega
            subst e; exact h
  | succ q' ih =>
    by_cases e : q = q' + 1
    · subst e; exact h
    · show (dfQ m l s k A q').bind _ = none
      rw [ih (by omega)]; rfl
theorem dfI_none {lst : List Mach} {i i' : Nat} (h : dfI m l s lst i = none) (hi : i ≤ i') : dfI m l s lst i' = none := by
  induction i' with
  | zero => have e : i = 0 := by omega
            subst e; exact h
  | succ i' ih =>
    by_cases e : i = i' + 1
    · subst e; exact h
    · show (dfI m l s lst i').bind _ = none
      rw [ih (by omega)]; rfl
theorem dfN_none {n n' : Nat} (h : dfN m l s n = none) (hn : n ≤ n') : dfN m l s n' = none := by
  induction n' with
  | zero => have e : n = 0 := by omega
            subst e; exact h
  | succ n' ih =>
    by_cases e : n = n' + 1
    · subst e; exact h
    · show (dfN m l s n').bind _ = none
      rw [ih (by omega)]; rfl
theorem stpD_len {k : Mach} {q : Nat} {A B : List Mach} (h : stpD m l s k q A = some B) : B.length ≤ A.length + 1 := by
  unfold stpD at h
  split at h
  · injection h with h
    subst h
    split <;> simp
  · exact absurd h (by simp)
theorem stpD_gl (g : Good m l s) {k : Mach} {q : Nat} (hq : q < s) {sk : Nat} (gk : Good k l sk) {A B : List Mach} (hA : GL l A) (h : stpD m l s k q A = some B) : GL l B := by
  unfold stpD at h
  split at h
  · rename_i hc
    injection h with h
    subst h
    rcases next_cases m l s q hq g k sk gk with ⟨h1, _⟩ | ⟨_, _, s2, g2, k2⟩
    · rw [hc] at h1; exact absurd h1 (by decide)
    · split
      · exact hA
      · exact hA.app k2 g2
  · exact absurd h (by simp)
theorem dfQ_fac (g : Good m l s) {k : Mach} {sk : Nat} (gk : Good k l sk) {A : List Mach} (hA : GL l A) : ∀ {q : Nat} {B : List Mach}, q ≤ s → dfQ m l s k A q = some B → B.length ≤ A.length + q ∧ GL l B
  | 0, B, _, h => by
    have e : A = B := by simpa [dfQ] using h
    subst e; exact ⟨by omega, hA⟩
  | q + 1, B, hq, h => by
    cases hd : dfQ m l s k A q with
    | none => rw [show dfQ m l s k A (q + 1) = (dfQ m l s k A q).bind (stpD m l s k q) from rfl, hd] at h; exact absurd h (by simp)
    | some C =>
      obtain ⟨h1, h2⟩ := dfQ_fac g gk hA (by omega) hd
      rw [show dfQ m l s k A (q + 1) = (dfQ m l s k A q).bind (stpD m l s k q) from rfl, hd] at h
      have h3 : stpD m l s k q C = some B := h
      exact ⟨by have := stpD_len h3; omega, stpD_gl g (by omega) gk h2 h3⟩
theorem GL.at {A : List Mach} (h : GL l A) {i : Nat} (hi : i < A.length) (d : Mach) : ∃ k, A[i]? = some k ∧ A.getD i d = k ∧ k.Ok ∧ ∃ sk, Good k l sk := by
  refine ⟨A[i], List.getElem?_eq_getElem hi, ?_, h _ (List.getElem_mem hi)⟩
  rw [List.getD_eq_getElem?_getD, List.getElem?_eq_getElem hi]; rfl
theorem dfI_fac (g : Good m l s) {lst : List Mach} (hL : GL l lst) : ∀ {i : Nat} {B : List Mach}, i ≤ lst.length → dfI m l s lst i = some B → B.length ≤ i * s ∧ GL l B
  | 0, B, _, h => by
    have e : [] = B := by simpa [dfI] using h
    subst e; exact ⟨by simp, GL.nil⟩
  | i + 1, B, hi, h => by
    cases hd : dfI m l s lst i with
    | none => rw [show dfI m l s lst (i + 1) = (dfI m l s lst i).bind (fun A => dfQ m l s (lst.getD i (trivM l)) A s) from rfl, hd] at h; exact absurd h (by simp)
    | some C =>
      obtain ⟨h1, h2⟩ := dfI_fac g hL (by omega) hd
      rw [show dfI m l s lst (i + 1) = (dfI m l s lst i).bind (fun A => dfQ m l s (lst.getD i (trivM l)) A s) from rfl, hd] at h
      have h3 : dfQ m l s (lst.getD i (trivM l)) C s = some B := h
      obtain ⟨k, _, e, _, sk, gk⟩ := hL.at (i := i) (by omega) (trivM l)
      rw [e] at h3
      obtain ⟨h4, h5⟩ := dfQ_fac g gk h2 (Nat.le_refl _) h3
      exact ⟨by rw [Nat.succ_mul]; omega, h5⟩
theorem dfN_fac (g : Good m l s) : ∀ {n : Nat} {B : List Mach}, dfN m l s n = some B → B.length ≤ s ^ n ∧ GL l B
  | 0, B, h => by
    have e : [trivM l] = B := by simpa [dfN] using h
    subst e
    refine ⟨by simp, fun k hk => ?_⟩
    have e : k = trivM l := by simpa using hk
    subst e; exact ⟨trivM_ok l g.l3, 1, trivM_good l g.l2 g.l3⟩
  | n + 1, B, h => by
    cases hd : dfN m l s n with
    | none => rw [show dfN m l s (n + 1) = (dfN m l s n).bind (fun lst => dfI m l s lst lst.length) from rfl, hd] at h; exact absurd h (by simp)
    | some C =>
      obtain ⟨h1, h2⟩ := dfN_fac g hd
      rw [show dfN m l s (n + 1) = (dfN m l s n).bind (fun lst => dfI m l s lst lst.length) from rfl, hd] at h
      obtain ⟨h4, h5⟩ := dfI_fac g h2 (Nat.le_refl _) h
      exact ⟨Nat.le_trans h4 (by rw [Nat.pow_succ]; exact Nat.mul_le_mul_right _ h1), h5⟩
theorem difAns_0 (g : Good m l s) {n : Nat} (hn : n ≤ 16) (hp : s ^ n ≤ 300) : difAns m n = (match dfN m l s n with | none => (0, 3) | some A => ((A.length : Int), 0)) := by
  have e1 : m.L.toNat = l := by rw [g.L]; rfl
  have e2 : m.S.toNat = s := by rw [g.S]; rfl
  unfold difAns
  rw [if_pos g.isM, e1, e2, if_pos ⟨by omega, by omega, hp⟩]; rfl
theorem difAns_n (g : Good m l s) {n : Nat} (hn : n ≤ 16) (hp : s ^ n ≤ 300) {n' : Nat} (hn' : n' ≤ n) (h : dfN m l s n' = none) : difAns m n = (0, 3) := by
  rw [difAns_0 g hn hp, dfN_none h hn']
theorem difAns_s (g : Good m l s) {n : Nat} (hn : n ≤ 16) (hp : s ^ n ≤ 300) {A : List Mach} (h : dfN m l s n = some A) : difAns m n = ((A.length : Int), 0) := by
  rw [difAns_0 g hn hp, h]
theorem difAns_2 (g : Good m l s) {n : Int} (h : ¬ (0 ≤ n ∧ n ≤ 16 ∧ s ^ n.toNat ≤ 300)) : difAns m n = (0, 2) := by
  have e2 : m.S.toNat = s := by rw [g.S]; rfl
  unfold difAns
  rw [if_pos g.isM, e2, if_neg h]
theorem difAns_1 {n : Int} (h : ¬ IsM m) : difAns m n = (0, 1) := by unfold difAns; rw [if_neg h]
end
end Go.Proofs.Ytbmkkaecfogmoaa

/- FnDuals: more plain laws. -/
namespace Go.Proofs.Ytbmkkaecfogmoaa
open Go.RowKit
set_option linter.unusedVariables false
set_option linter.unusedSimpArgs false
-- @LONG

theorem bi_rev {m : Mach} (h : (biAns m).1 = true) : (revAns m).1 = true := by
  classical
  by_cases hm : IsM m
  · obtain ⟨l, s, g⟩ := hm.good
    rw [biAns_good g (decide (RevP m l s)) (decide (RevP (inv m l s) l s)) decide_eq_true_iff decide_eq_true_iff] at h
    have h1 : decide (RevP m l s) = true := ((Bool.and_eq_true _ _).mp h).1
    rw [revAns_good g true (iff_of_true rfl (of_decide_eq_true h1))]
  · unfold biAns at h
    rw [if_neg hm] at h
    exact absurd h (by decide)
theorem ordGo_chn {m : Mach} {l s q : Nat} : ∀ (f k i : Nat) (now : Mach) (c : Int), ordGo m l s q f k now = (c, 0) → ∃ (j : Nat) (P : Mach), c = ((k + j : Nat) : Int) ∧ j < f ∧ chn (fun _ => (m, s, q)) l (j + 1) i now = (P, 0) ∧ mcells P = mcells (trivM l)
  | 0, k, i, now, c, h => by
    have : (4 : Int) = 0 := congrArg Prod.snd (show ((0 : Int), (4 : Int)) = (c, 0) from h)
    exact absurd this (by decide)
  | f + 1, k, i, now, c, h => by
    by_cases h0 : nextC m l s q now = 0
    · by_cases he : mcells (nextM m l s q now) = mcells (trivM l)
      · rw [ordGo_t h0 he] at h
        have e : (k : Int) = c := congrArg Prod.fst h
        refine ⟨0, _, by rw [← e]; rfl, by omega, chn_0 (fs := fun _ => (m, s, q)) h0, he⟩
      · rw [ordGo_n h0 he] at h
        obtain ⟨j, P, e1, e2, e3, e4⟩ := ordGo_chn f (k + 1) (i + 1) _ c h
        refine ⟨j + 1, P, by rw [e1]; congr 1; omega, by omega, ?_, e4⟩
        rw [chn_0 (fs := fun _ => (m, s, q)) h0]; exact e3
    · unfold ordGo at h
      rw [if_neg h0] at h
      have : (3 : Int) = 0 := congrArg Prod.snd h
      exact absurd this (by decide)
theorem obp_law {m : Mach} {q n : Int} (h : (obpAns m q n).2 = 0) : ∃ (k : Nat), (obpAns m q n).1 = (k : Int) ∧ 1 ≤ k ∧ (k : Int) ≤ n ∧ (powAns m q (k : Int)).2 = 0 ∧ (powAns m q (k : Int)).1.S = 1 := by
  rcases codeI_cases m q with hc | hc | ⟨l, s, q, g, rfl, hq, hc⟩
  · rw [obpAns_n hc (by decide)] at h; exact absurd h (by decide)
  · rw [obpAns_n hc (by decide)] at h; exact absurd h (by decide)
  · by_cases hn : 1 ≤ n ∧ n ≤ 16
    · obtain ⟨n, rfl⟩ := Int.eq_ofNat_of_zero_le (show 0 ≤ n by omega)
      rw [obpAns_0 g hc (by omega)] at h ⊢
      obtain ⟨j, P, e1, e2, e3, e4⟩ := ordGo_chn n 1 0 (trivM l) (ordGo m l s q n 1 (trivM l)).1 (by rw [← h])
      have hp : powAns m (q : Int) ((1 + j : Nat) : Int) = (P, 0) := by
        rw [powAns_0 g hc (by omega)]
        unfold powR powB
        rw [if_neg (by omega), show (((1 + j : Nat) : Int)).natAbs = j + 1 by omega]
        exact e3
      refine ⟨1 + j, e1, by omega, by omega, by rw [hp], ?_⟩
      rw [hp]
      have h1 := mcells_S P
      rw [e4, mcells_S] at h1
      have h2 : (trivM l).S = P.S := by injection h1 with h1; injection h1
      exact h2.symm
    · rw [obpAns_r hc hn] at h; exact absurd h (by decide)
section
variable {m : Mach} {l s : Nat}
theorem stpD_pos {k : Mach} {q : Nat} {A B : List Mach} (h : stpD m l s k q A = some B) : 1 ≤ B.length := by
  unfold stpD at h
  split at h
  · injection h with h
    subst h
    by_cases hb : hasB A (nextM m l s q k) = true
    · rw [if_pos hb]
      obtain ⟨x, hx, _⟩ := (hasB_iff _ _).1 hb
      exact List.length_pos_of_mem hx
    · rw [if_neg hb, List.length_append, List.length_singleton]; omega
  · exact absurd h (by simp)
theorem dfQ_pos {k : Mach} {A B : List Mach} {q : Nat} (h : dfQ m l s k A (q + 1) = some B) : 1 ≤ B.length := by
  cases hd : dfQ m l s k A q with
  | none => rw [show dfQ m l s k A (q + 1) = (dfQ m l s k A q).bind (stpD m l s k q) from rfl, hd] at h; exact absurd h (by simp)
  | some C =>
    rw [show dfQ m l s k A (q + 1) = (dfQ m l s k A q).bind (stpD m l s k q) from rfl, hd] at h
    exact stpD_pos (show stpD m l s k q C = some B from h)
theorem dfI_pos (hs : 1 ≤ s) {lst B : List Mach} {i : Nat} (h : dfI m l s lst (i + 1) = some B) : 1 ≤ B.length := by
  cases hd : dfI m l s lst i with
  | none => rw [show dfI m l s lst (i + 1) = (dfI m l s lst i).bind (fun A => dfQ m l s (lst.getD i (trivM l)) A s) from rfl, hd] at h; exact absurd h (by simp)
  | some C =>
    rw [show dfI m l s lst (i + 1) = (dfI m l s lst i).bind (fun A => dfQ m l s (lst.getD i (trivM l)) A s) from rfl, hd] at h
    obtain ⟨r, rfl⟩ : ∃ r, s = r + 1 := ⟨s - 1, by omega⟩
    exact dfQ_pos (show dfQ m l (r + 1) (lst.getD i (trivM l)) C (r + 1) = some B from h)
theorem dfN_pos (hs : 1 ≤ s) : ∀ {n : Nat} {B : List Mach}, dfN m l s n = some B → 1 ≤ B.length
  | 0, B, h => by
    have e : [trivM l] = B := by simpa [dfN] using h
    subst e; simp
  | n + 1, B, h => by
    cases hd : dfN m l s n with
    | none => rw [show dfN m l s (n + 1) = (dfN m l s n).bind (fun lst => dfI m l s lst lst.length) from rfl, hd] at h; exact absurd h (by simp)
    | some C =>
      have h1 := dfN_pos hs hd
      rw [show dfN m l s (n + 1) = (dfN m l s n).bind (fun lst => dfI m l s lst lst.length) from rfl, hd] at h
      have h2 : dfI m l s C C.length = some B := h
      obtain ⟨r, hr⟩ : ∃ r, C.length = r + 1 := ⟨C.length - 1, by omega⟩
      rw [hr] at h2
      exact dfI_pos hs h2
end
theorem dif_law {m : Mach} {n : Int} (h : (difAns m n).2 = 0) : 1 ≤ (difAns m n).1 := by
  by_cases hm : IsM m
  · obtain ⟨l, s, g⟩ := hm.good
    by_cases hn : 0 ≤ n ∧ n ≤ 16 ∧ s ^ n.toNat ≤ 300
    · obtain ⟨n, rfl⟩ := Int.eq_ofNat_of_zero_le hn.1
      rw [difAns_0 g (n := n) (by omega) hn.2.2] at h ⊢
      cases hd : dfN m l s n with
      | none => rw [hd] at h; exact absurd h (by decide)
      | some A =>
        have := dfN_pos g.s1 hd
        dsimp only
        omega
    · rw [difAns_2 g hn] at h; exact absurd h (by decide)
  · rw [difAns_1 hm] at h; exact absurd h (by decide)
end Go.Proofs.Ytbmkkaecfogmoaa
