/- OrderByPowers: what the program and the reference answer. -/
import Derived.Test.YthempofohidlnaaTriv
import Derived.Test.YthempofohidlnaaPos
namespace Go.Proofs.Ythempofohidlnaa
open Go.RowKit
set_option linter.unusedVariables false
set_option linter.unusedSimpArgs false

/-- The next power, and its code. -/
def nextM (m : Mach) (l s q : Nat) (now : Mach) : Mach := fromM (prodT now m l now.S.toNat s) (0 * s + q)
def nextC (m : Mach) (l s q : Nat) (now : Mach) : Int := fromC (prodT now m l now.S.toNat s) (0 * s + q)
open Classical in
/-- The search. -/
noncomputable def ordGo (m : Mach) (l s q : Nat) : Nat → Nat → Mach → Int × Int
  | 0, _, _ => (0, 4)
  | f + 1, k, now => if nextC m l s q now = 0 then (if mcells (nextM m l s q now) = mcells (trivM l) then ((k : Int), 0) else ordGo m l s q f (k + 1) (nextM m l s q now)) else (0, 3)
open Classical in
noncomputable def obpAns (m : Mach) (q n : Int) : Int × Int :=
  if codeI m { data := #[] } [q] = 0 then (if 1 ≤ n ∧ n ≤ 16 then ordGo m m.L.toNat m.S.toNat q.toNat n.toNat 1 (trivM m.L.toNat) else (0, 2)) else (0, codeI m { data := #[] } [q])
theorem obpAns_n {m : Mach} {q n c : Int} (h : codeI m { data := #[] } [q] = c) (hc : c ≠ 0) : obpAns m q n = (0, c) := by
  unfold obpAns; rw [h, if_neg hc]
theorem obpAns_r {m : Mach} {q n : Int} (h : codeI m { data := #[] } [q] = 0) (hn : ¬ (1 ≤ n ∧ n ≤ 16)) : obpAns m q n = (0, 2) := by
  unfold obpAns; rw [h, if_pos rfl, if_neg hn]
theorem obpAns_0 {m : Mach} {l s q : Nat} {n : Nat} (g : Good m l s) (h : codeI m { data := #[] } [(q : Int)] = 0) (hn : 1 ≤ n ∧ n ≤ 16) : obpAns m q n = ordGo m l s q n 1 (trivM l) := by
  unfold obpAns; rw [h, if_pos rfl, if_pos (by omega), g.L, g.S]; rfl
theorem next_cases (m : Mach) (l s q : Nat) (hq : q < s) (g : Good m l s) (now : Mach) (sN : Nat) (gN : Good now l sN) :
    (nextC m l s q now = 3 ∧ fromB (prodT now m l sN s) (0 * s + q) = false) ∨ (nextC m l s q now = 0 ∧ fromB (prodT now m l sN s) (0 * s + q) = true ∧ ∃ s2, Good (nextM m l s q now) l s2 ∧ (nextM m l s q now).Ok) := by
  have e : now.S.toNat = sN := by rw [gN.S]; rfl
  have hin := prod_in (s' := s) (show 0 < sN from gN.s1) hq
  rcases from_cases (prodT now m l sN s) (0 * s + q) with ⟨h1, h2⟩ | ⟨h1, h2, _⟩
  · refine .inr ⟨by unfold nextC; rw [e]; exact h2, h1, ?_⟩
    obtain ⟨s2, g2⟩ := fromM_good (prod_ok gN g) hin g.l2 g.l3 (prod_o gN g) (prod_inj gN g) h2
    exact ⟨s2, by unfold nextM; rw [e]; exact g2, by unfold nextM; rw [e]; exact fromM_ok (prod_ok gN g) hin (prod_o256 gN g)⟩
  · exact .inl ⟨by unfold nextC; rw [e]; exact h2, h1⟩
theorem next_M (m : Mach) (l s q : Nat) (now : Mach) (sN : Nat) (gN : Good now l sN) : fromM (prodT now m l sN s) (0 * s + q) = nextM m l s q now ∧ fromC (prodT now m l sN s) (0 * s + q) = nextC m l s q now := by
  have e : now.S.toNat = sN := by rw [gN.S]; rfl
  unfold nextM nextC; rw [e]; exact ⟨rfl, rfl⟩
open Classical in
theorem eq_triv (m : Mach) (l s2 : Nat) (g : Good m l s2) (hk : m.Ok) : ∃ b : Bool, Hid (b = true ↔ mcells m = mcells (trivM l)) ∧ ∀ W : World, (Op.equalIn 10000 34 (.agg (mcells m)) (.agg (mcells (trivM l)))).run Try.prog W = .ok b W := by
  have l3 := g.l3; have s16 := g.s16
  exact ⟨_, hid decide_eq_true_iff, fun W => eq_mach W m (trivM l) hk (trivM_ok l l3) l s2 l 1 g.L g.S rfl rfl (by omega) (by omega) (by omega) (by omega) _ decide_eq_true_iff⟩
theorem ordGo_3 {m : Mach} {l s q f k : Nat} {now : Mach} (h : nextC m l s q now = 3) : ordGo m l s q (f + 1) k now = (0, 3) := by
  unfold ordGo; rw [h, if_neg (by decide)]
theorem ordGo_t {m : Mach} {l s q f k : Nat} {now : Mach} (h : nextC m l s q now = 0) (he : mcells (nextM m l s q now) = mcells (trivM l)) : ordGo m l s q (f + 1) k now = ((k : Int), 0) := by
  unfold ordGo; rw [if_pos h, if_pos he]
theorem ordGo_n {m : Mach} {l s q f k : Nat} {now : Mach} (h : nextC m l s q now = 0) (he : ¬ mcells (nextM m l s q now) = mcells (trivM l)) : ordGo m l s q (f + 1) k now = ordGo m l s q f (k + 1) (nextM m l s q now) := by
  conv => lhs; unfold ordGo
  rw [if_pos h, if_neg he]

set_option maxHeartbeats 8000000 in
set_option maxRecDepth 4000 in
theorem implObp_any (w : World) (m : Mach) (hkm : m.Ok) (q n : Int) :
    Calls Try.prog 25 #[.agg (mcells m), .int .i64 q, .int .i64 n] w fun e w' => e = .returned (.tuple #[.int .i64 (obpAns m q n).1, .int .i64 (obpAns m q n).2]) ∧ Below w.heap.size w w' := by
  have hz := zero_mach
  have hS := hid ((St.start w).newMB m 34)
  have hcode := hid (fun W base v h => codeOf_any W m hkm { data := #[] } (by decide) base v [q] h (by simp))
  have hown := hid (hS.out.newOwn [Value.int .i64 q] 2 (by simp))
  simp only [heap_alloc_size] at hown
  rcases codeI_cases m q with h | h | ⟨l, s, q, g, rfl, hq, h⟩
  · rw [obpAns_n h (by decide)]
    rw [h] at hcode
    replace hkm := hid hkm; clear h
    go_enter Try.func25, Try.ntmps25
    go_wp2_with (first
      | ((with_reducible refine gate (N := 13) rfl ?_); refine load_mach rfl _ rfl w.heap.size rfl m hS.out.m0 ?_)
      | (go_at_call 61; (with_reducible refine (hcode.out _ _ _ hown.out.o0).mono ?_); rintro e w1 ⟨rfl, hb⟩; replace hS := hid (hown.out.call hb).drop; clear hb hcode hown))
    go_ret2
    exact ⟨rfl, hS.out.bel⟩
  · rw [obpAns_n h (by decide)]
    rw [h] at hcode
    replace hkm := hid hkm; clear h
    go_enter Try.func25, Try.ntmps25
    go_wp2_with (first
      | ((with_reducible refine gate (N := 13) rfl ?_); refine load_mach rfl _ rfl w.heap.size rfl m hS.out.m0 ?_)
      | (go_at_call 61; (with_reducible refine (hcode.out _ _ _ hown.out.o0).mono ?_); rintro e w1 ⟨rfl, hb⟩; replace hS := hid (hown.out.call hb).drop; clear hb hcode hown))
    go_ret2
    exact ⟨rfl, hS.out.bel⟩
  · by_cases hn : 1 ≤ n ∧ n ≤ 16
    · obtain ⟨n, rfl⟩ := Int.eq_ofNat_of_zero_le (show 0 ≤ n by omega)
      have hw := hid (show true = decide (1 ≤ (n : Int) ∧ (n : Int) ≤ 16) from (decide_eq_true hn).symm)
      rw [obpAns_0 g h (by omega)]
      rw [h] at hcode
      have gL := hid g.L
      have l2 := g.l2; have l3 := g.l3
      have htr := hid (fun W => trivialMachine_any W l l3)
      have hpr := hid (fun b W now sN (gN : Good now l sN) hb hm => (by have h := product_any b w.heap.size W now m hb hm l sN s gN g 0 q gN.s1 hq; rw [(next_M m l s q now sN gN).1, (next_M m l s q now sN gN).2] at h; exact h : Calls Try.prog 71 #[.pointer (some ⟨b, 0, none⟩), .int .i64 0, .pointer (some ⟨w.heap.size, 0, none⟩), .int .i64 (q : Nat)] W fun e w' => e = .returned (.tuple #[.agg (mcells (nextM m l s q now)), .int .i64 (nextC m l s q now)]) ∧ Below W.heap.size W w'))
      have hnc := hid (next_cases m l s q hq g)
      have htg := hid (trivM_good l l2 l3)
      have heqt := hid (fun M s2 (gM : Good M l s2) (hM : M.Ok) => eq_triv M l s2 gM hM)
      obtain ⟨ans, hans⟩ : ∃ a, a = ordGo m l s q n 1 (trivM l) := ⟨_, rfl⟩
      rw [← hans]
      replace hans := hid hans
      have hN := hid (fun L W M (h : St w.heap.size w L W) => h.newMB M 34)
      have hz2 := hid (fun L W (h : St w.heap.size w L W) => h.newMB ⟨0, 0, fun _ => 0, fun _ => 0⟩ 34)
      have hgd := guard_mach
      have hn1 : n ≤ 16 := by omega
      replace hkm := hid hkm; clear h; replace g := hid g; replace hn := hid hn
      generalize mcells ⟨0, 0, fun _ => 0, fun _ => 0⟩ = zs at *
      go_enter Try.func25, Try.ntmps25
      go_upto_region 6 with (first
        | ((with_reducible refine gate (N := 13) rfl ?_); refine load_mach rfl _ rfl w.heap.size rfl m hS.out.m0 ?_)
        | (go_at_call 61; (with_reducible refine (hcode.out _ _ _ hown.out.o0).mono ?_); rintro e w1 ⟨rfl, hb⟩; replace hS := hid (hown.out.call hb).drop; clear hb hcode hown)
        | (go_at_call 62; (with_reducible refine (within_any _ _ _ true hw.out _).mono ?_); rintro e w' ⟨rfl, rfl⟩))
      have cL := hS.out.m0.cL
      rw [gL.out] at cL
      go_upto_region 7 with (first
        | (go_at_call 70; (with_reducible refine (htr.out _).mono ?_); rintro e w2 ⟨rfl, hb⟩; have hle2 := hid (hS.out.call hb).le; replace hS := hid (hz2.out _ _ (hS.out.call hb)); clear hb cL)
        | ((with_reducible refine gateOp (op := .store 34 (.tmp 9) (.tmp 25)) rfl ?_); refine store_mach rfl _ _ rfl w2.heap.size rfl (trivM l) rfl 34 _ hS.out.m0 ?_; intro W1 p3 ho hsz hbl; replace hS := hid (hS.out.setM hle2.out p3 ho hbl); clear p3 ho hsz hbl))
      generalize w2.heap.size = b9 at *
      have hle3 := hid hS.out.le
      have hS0 := hS
      replace hS := hid (hz2.out _ _ hS.out)
      have hld := hid hS0.out.m0
      clear hS0
      go_upto_region 8 with (first
        | ((with_reducible refine gate (N := 26) rfl ?_); refine load_mach rfl _ rfl b9 rfl (trivM l) hld.out ?_)
        | ((with_reducible refine gateOp (op := .store 34 (.tmp 10) (.tmp 26)) rfl ?_); refine store_mach rfl _ _ rfl W1.heap.size rfl (trivM l) rfl 34 _ hS.out.m0 ?_; intro W2 p3 ho hsz hbl; replace hS := hid (hS.out.setM hle3.out p3 ho hbl); clear p3 ho hsz hbl hld))
      generalize W1.heap.size = b10 at *
      go_wp2
      go_loopw [11] (fun i wr => ∃ (c f : Nat) (now : Mach) (sN : Nat), i = .int .i64 c ∧ c + f = n + 1 ∧ Hid (Good now l sN) ∧ Hid (ans = ordGo m l s q f c now) ∧ St w.heap.size w [Asn.mb 34 b10 now, Asn.mb 34 b9 (trivM l), Asn.mb 34 w.heap.size m] wr) (fun i _ => n + 1 - (intOf i).toNat)
      case atStart => exact ⟨1, n, _, _, rfl, Nat.add_comm _ _, htg, hans, hS.out⟩
      case round =>
        obtain ⟨c, f, now, sN, rfl, hcf, gN, ha, rS⟩ := hrel
        clear hS hans
        replace rS := hid rS
        rcases f with _ | f
        · have dc : decide ((c : Int) ≤ (n : Int)) = false := decide_eq_false (by omega)
          have hA := hid (show ans = (0, 4) from ha.out)
          go_wp2
          go_ret2
          exact ⟨by first | (rw [hA.out]; done) | (rw [hA.out]; rfl), rS.out.bel⟩
        · have dc : decide ((c : Int) ≤ (n : Int)) = true := decide_eq_true (by omega)
          have hpn := hid (fun W hb hm => hpr.out b10 W now sN gN.out hb hm)
          rcases hnc.out now sN gN.out with ⟨h3, hB⟩ | ⟨h0, hB, s2, g2, k2⟩
          · have hA := hid (show ans = (0, 3) from ha.out.trans (ordGo_3 h3))
            rw [h3] at hpn
            clear h3 hB ha
            generalize nextM m l s q now = nx at *
            go_wp2_with (first
              | (go_at_call 71; (with_reducible refine (hpn.out _ rS.out.m0 rS.out.m2).mono ?_); rintro e w3 ⟨rfl, hb⟩; replace rS := hid (rS.out.call hb); clear hb hpn)
              | ((with_reducible refine gateOp (op := .store 34 (.tmp 10) (.tmp 35)) rfl ?_); refine store_mach rfl _ _ rfl b10 rfl nx rfl 34 _ rS.out.m0 ?_; intro W5 p3 ho hsz hbl; replace rS := hid (rS.out.setM hle3.out p3 ho hbl); clear p3 ho hsz hbl)
              | ((with_reducible refine gate (N := 42) rfl ?_); refine load_mach rfl _ rfl b10 rfl nx rS.out.m0 ?_)
              | ((with_reducible refine gate (N := 43) rfl ?_); refine load_mach rfl _ rfl b9 rfl (trivM l) rS.out.m1 ?_))
            go_ret2
            exact ⟨by first | (rw [hA.out]; done) | (rw [hA.out]; rfl), rS.out.bel⟩
          · obtain ⟨b, hb, heq⟩ := heqt.out _ _ g2 k2
            rw [h0] at hpn
            cases b with
            | true =>
              have hA := hid (show ans = ((c : Int), 0) from ha.out.trans (ordGo_t h0 (hb.out.1 rfl)))
              clear h0 hB ha hb g2 k2
              generalize nextM m l s q now = nx at *
              go_wp2_with (first
                | (go_at_call 71; (with_reducible refine (hpn.out _ rS.out.m0 rS.out.m2).mono ?_); rintro e w3 ⟨rfl, hb⟩; replace rS := hid (rS.out.call hb); clear hb hpn)
                | ((with_reducible refine gateOp (op := .store 34 (.tmp 10) (.tmp 35)) rfl ?_); refine store_mach rfl _ _ rfl b10 rfl nx rfl 34 _ rS.out.m0 ?_; intro W5 p3 ho hsz hbl; replace rS := hid (rS.out.setM hle3.out p3 ho hbl); clear p3 ho hsz hbl)
                | ((with_reducible refine gate (N := 42) rfl ?_); refine load_mach rfl _ rfl b10 rfl nx rS.out.m0 ?_)
                | ((with_reducible refine gate (N := 43) rfl ?_); refine load_mach rfl _ rfl b9 rfl (trivM l) rS.out.m1 ?_))
              go_ret2
              exact ⟨by first | (rw [hA.out]; done) | (rw [hA.out]; rfl), rS.out.bel⟩
            | false =>
              have hA := hid (ha.out.trans (ordGo_n h0 (fun h => by have := hb.out.2 h; cases this)))
              replace g2 := hid g2
              clear h0 hB ha hb k2
              generalize nextM m l s q now = nx at *
              go_wp2_with (first
                | (go_at_call 71; (with_reducible refine (hpn.out _ rS.out.m0 rS.out.m2).mono ?_); rintro e w3 ⟨rfl, hb⟩; replace rS := hid (rS.out.call hb); clear hb hpn)
                | ((with_reducible refine gateOp (op := .store 34 (.tmp 10) (.tmp 35)) rfl ?_); refine store_mach rfl _ _ rfl b10 rfl nx rfl 34 _ rS.out.m0 ?_; intro W5 p3 ho hsz hbl; replace rS := hid (rS.out.setM hle3.out p3 ho hbl); clear p3 ho hsz hbl)
                | ((with_reducible refine gate (N := 42) rfl ?_); refine load_mach rfl _ rfl b10 rfl nx rS.out.m0 ?_)
                | ((with_reducible refine gate (N := 43) rfl ?_); refine load_mach rfl _ rfl b9 rfl (trivM l) rS.out.m1 ?_))
              go_roundw
              case rel => exact ⟨c + 1, f, nx, s2, by go_num, by omega, g2, hA, rS.out⟩
              case measure => simp [intOf]; omega
    · rw [obpAns_r h hn]
      have hw := hid (show false = decide (1 ≤ n ∧ n ≤ 16) from (decide_eq_false hn).symm)
      rw [h] at hcode
      replace hkm := hid hkm; clear h hn; replace g := hid g
      go_enter Try.func25, Try.ntmps25
      go_wp2_with (first
        | ((with_reducible refine gate (N := 13) rfl ?_); refine load_mach rfl _ rfl w.heap.size rfl m hS.out.m0 ?_)
        | (go_at_call 61; (with_reducible refine (hcode.out _ _ _ hown.out.o0).mono ?_); rintro e w1 ⟨rfl, hb⟩; replace hS := hid (hown.out.call hb).drop; clear hb hcode hown)
        | (go_at_call 62; (with_reducible refine (within_any _ _ _ false hw.out _).mono ?_); rintro e w' ⟨rfl, rfl⟩))
      go_ret2
      exact ⟨rfl, hS.out.bel⟩
set_option maxHeartbeats 8000000 in
set_option maxRecDepth 4000 in
theorem specObp_any (w : World) (m : Mach) (hkm : m.Ok) (q n : Int) :
    Calls Try.prog 24 #[.agg (mcells m), .int .i64 q, .int .i64 n] w fun e w' => e = .returned (.tuple #[.int .i64 (obpAns m q n).1, .int .i64 (obpAns m q n).2]) ∧ Below w.heap.size w w' := by
  have hz := zero_mach
  have hS := hid ((St.start w).newMB m 34)
  have hcode := hid (fun W => l07State_any W m hkm q)
  rcases codeI_cases m q with h | h | ⟨l, s, q, g, rfl, hq, h⟩
  · rw [obpAns_n h (by decide)]
    rw [h] at hcode
    replace hkm := hid hkm; clear h
    go_enter Try.func24, Try.ntmps24
    go_wp2_with (first
      | ((with_reducible refine gate (N := 14) rfl ?_); refine load_mach rfl _ rfl w.heap.size rfl m hS.out.m0 ?_)
      | (go_at_call 67; (with_reducible refine (hcode.out _).mono ?_); rintro e w1 ⟨rfl, hb⟩; replace hS := hid (hS.out.call hb); clear hb hcode))
    go_ret2
    exact ⟨rfl, hS.out.bel⟩
  · rw [obpAns_n h (by decide)]
    rw [h] at hcode
    replace hkm := hid hkm; clear h
    go_enter Try.func24, Try.ntmps24
    go_wp2_with (first
      | ((with_reducible refine gate (N := 14) rfl ?_); refine load_mach rfl _ rfl w.heap.size rfl m hS.out.m0 ?_)
      | (go_at_call 67; (with_reducible refine (hcode.out _).mono ?_); rintro e w1 ⟨rfl, hb⟩; replace hS := hid (hS.out.call hb); clear hb hcode))
    go_ret2
    exact ⟨rfl, hS.out.bel⟩
  · by_cases hn : 1 ≤ n ∧ n ≤ 16
    · obtain ⟨n, rfl⟩ := Int.eq_ofNat_of_zero_le (show 0 ≤ n by omega)
      have hw := hid (show true = decide (1 ≤ (n : Int) ∧ (n : Int) ≤ 16) from (decide_eq_true hn).symm)
      rw [obpAns_0 g h (by omega)]
      rw [h] at hcode
      have gL := hid g.L
      have l2 := g.l2; have l3 := g.l3
      have htr := hid (fun W => l07Trivial_any W l l3)
      have hpr := hid (fun W now sN (gN : Good now l sN) => (by have h := l07Product_any W now m l sN s gN g 0 q gN.s1 hq; rw [(next_M m l s q now sN gN).1] at h; exact h : Calls Try.prog 69 #[.agg (mcells now), .int .i64 0, .agg (mcells m), .int .i64 (q : Nat)] W fun e w' => e = .returned (.tuple #[.agg (mcells (nextM m l s q now)), .bool (fromB (prodT now m l sN s) (0 * s + q))]) ∧ Below W.heap.size W w'))
      have hnc := hid (next_cases m l s q hq g)
      have htg := hid (trivM_good l l2 l3)
      have heqt := hid (fun M s2 (gM : Good M l s2) (hM : M.Ok) => eq_triv M l s2 gM hM)
      obtain ⟨ans, hans⟩ : ∃ a, a = ordGo m l s q n 1 (trivM l) := ⟨_, rfl⟩
      rw [← hans]
      replace hans := hid hans
      have hN := hid (fun L W M (h : St w.heap.size w L W) => h.newMB M 34)
      have hz2 := hid (fun L W (h : St w.heap.size w L W) => h.newMB ⟨0, 0, fun _ => 0, fun _ => 0⟩ 34)
      have hgd := guard_mach
      have hn1 : n ≤ 16 := by omega
      replace hkm := hid hkm; clear h; replace g := hid g; replace hn := hid hn
      generalize mcells ⟨0, 0, fun _ => 0, fun _ => 0⟩ = zs at *
      go_enter Try.func24, Try.ntmps24
      go_upto_region 6 with (first
        | ((with_reducible refine gate (N := 14) rfl ?_); refine load_mach rfl _ rfl w.heap.size rfl m hS.out.m0 ?_)
        | (go_at_call 67; (with_reducible refine (hcode.out _).mono ?_); rintro e w1 ⟨rfl, hb⟩; replace hS := hid (hS.out.call hb); clear hb hcode)
        | (go_at_call 58; (with_reducible refine (l01In_any n 1 16 true hw.out _).mono ?_); rintro e w' ⟨rfl, rfl⟩))
      have cL := hS.out.m0.cL
      rw [gL.out] at cL
      go_upto_region 7 with (first
        | (go_at_call 68; (with_reducible refine (htr.out _).mono ?_); rintro e w2 ⟨rfl, hb⟩; have hle2 := hid (hS.out.call hb).le; replace hS := hid (hz2.out _ _ (hS.out.call hb)); clear hb cL)
        | ((with_reducible refine gateOp (op := .store 34 (.tmp 9) (.tmp 29)) rfl ?_); refine store_mach rfl _ _ rfl w2.heap.size rfl (trivM l) rfl 34 _ hS.out.m0 ?_; intro W1 p3 ho hsz hbl; replace hS := hid (hS.out.setM hle2.out p3 ho hbl); clear p3 ho hsz hbl))
      generalize w2.heap.size = b9 at *
      have hle3 := hid hS.out.le
      have hS0 := hS
      replace hS := hid (hz2.out _ _ hS.out)
      have hld := hid hS0.out.m0
      clear hS0
      go_upto_region 8 with (first
        | ((with_reducible refine gate (N := 30) rfl ?_); refine load_mach rfl _ rfl b9 rfl (trivM l) hld.out ?_)
        | ((with_reducible refine gateOp (op := .store 34 (.tmp 10) (.tmp 30)) rfl ?_); refine store_mach rfl _ _ rfl W1.heap.size rfl (trivM l) rfl 34 _ hS.out.m0 ?_; intro W2 p3 ho hsz hbl; replace hS := hid (hS.out.setM hle3.out p3 ho hbl); clear p3 ho hsz hbl hld))
      generalize W1.heap.size = b10 at *
      go_wp2
      go_loopw [11] (fun i wr => ∃ (c f : Nat) (now : Mach) (sN : Nat), i = .int .i64 c ∧ c + f = n + 1 ∧ Hid (Good now l sN) ∧ Hid (ans = ordGo m l s q f c now) ∧ St w.heap.size w [Asn.mb 34 b10 now, Asn.mb 34 b9 (trivM l), Asn.mb 34 w.heap.size m] wr) (fun i _ => n + 1 - (intOf i).toNat)
      case atStart => exact ⟨1, n, _, _, rfl, Nat.add_comm _ _, htg, hans, hS.out⟩
      case round =>
        obtain ⟨c, f, now, sN, rfl, hcf, gN, ha, rS⟩ := hrel
        clear hS hans
        replace rS := hid rS
        rcases f with _ | f
        · have dc : decide ((c : Int) ≤ (n : Int)) = false := decide_eq_false (by omega)
          have hA := hid (show ans = (0, 4) from ha.out)
          go_wp2
          go_ret2
          exact ⟨by first | (rw [hA.out]; done) | (rw [hA.out]; rfl), rS.out.bel⟩
        · have dc : decide ((c : Int) ≤ (n : Int)) = true := decide_eq_true (by omega)
          have hpn := hid (fun W => hpr.out W now sN gN.out)
          rcases hnc.out now sN gN.out with ⟨h3, hB⟩ | ⟨h0, hB, s2, g2, k2⟩
          · have hA := hid (show ans = (0, 3) from ha.out.trans (ordGo_3 h3))
            rw [hB] at hpn
            clear h3 hB ha
            generalize nextM m l s q now = nx at *
            go_wp2_with (first
              | ((with_reducible refine gate (N := 37) rfl ?_); refine load_mach rfl _ rfl b10 rfl now rS.out.m0 ?_)
              | ((with_reducible refine gate (N := 38) rfl ?_); refine load_mach rfl _ rfl w.heap.size rfl m rS.out.m2 ?_)
              | (go_at_call 69; (with_reducible refine (hpn.out _).mono ?_); rintro e w3 ⟨rfl, hb⟩; have hle5 := hid (rS.out.call hb).le; replace rS := hid (hz2.out _ _ (rS.out.call hb)); clear hb hpn)
              | ((with_reducible refine gateOp (op := .store 34 (.tmp 12) (.tmp 41)) rfl ?_); refine store_mach rfl _ _ rfl w3.heap.size rfl nx rfl 34 _ rS.out.m0 ?_; intro W5 p3 ho hsz hbl; replace rS := hid (rS.out.setM hle5.out p3 ho hbl); clear p3 ho hsz hbl)
              | ((with_reducible refine gate (N := 45) rfl ?_); refine load_mach rfl _ rfl w3.heap.size rfl nx rS.out.m0 ?_)
              | ((with_reducible refine gate (N := 46) rfl ?_); refine load_mach rfl _ rfl b9 rfl (trivM l) rS.out.m2 ?_))
            go_ret2
            exact ⟨by first | (rw [hA.out]; done) | (rw [hA.out]; rfl), rS.out.bel⟩
          · obtain ⟨b, hb, heq⟩ := heqt.out _ _ g2 k2
            rw [hB] at hpn
            cases b with
            | true =>
              have hA := hid (show ans = ((c : Int), 0) from ha.out.trans (ordGo_t h0 (hb.out.1 rfl)))
              clear h0 hB ha hb g2 k2
              generalize nextM m l s q now = nx at *
              go_wp2_with (first
                | ((with_reducible refine gate (N := 37) rfl ?_); refine load_mach rfl _ rfl b10 rfl now rS.out.m0 ?_)
                | ((with_reducible refine gate (N := 38) rfl ?_); refine load_mach rfl _ rfl w.heap.size rfl m rS.out.m2 ?_)
                | (go_at_call 69; (with_reducible refine (hpn.out _).mono ?_); rintro e w3 ⟨rfl, hb⟩; have hle5 := hid (rS.out.call hb).le; replace rS := hid (hz2.out _ _ (rS.out.call hb)); clear hb hpn)
                | ((with_reducible refine gateOp (op := .store 34 (.tmp 12) (.tmp 41)) rfl ?_); refine store_mach rfl _ _ rfl w3.heap.size rfl nx rfl 34 _ rS.out.m0 ?_; intro W5 p3 ho hsz hbl; replace rS := hid (rS.out.setM hle5.out p3 ho hbl); clear p3 ho hsz hbl)
                | ((with_reducible refine gate (N := 45) rfl ?_); refine load_mach rfl _ rfl w3.heap.size rfl nx rS.out.m0 ?_)
                | ((with_reducible refine gate (N := 46) rfl ?_); refine load_mach rfl _ rfl b9 rfl (trivM l) rS.out.m2 ?_))
              go_ret2
              exact ⟨by first | (rw [hA.out]; done) | (rw [hA.out]; rfl), rS.out.bel⟩
            | false =>
              have hA := hid (ha.out.trans (ordGo_n h0 (fun h => by have := hb.out.2 h; cases this)))
              replace g2 := hid g2
              clear h0 hB ha hb k2
              generalize nextM m l s q now = nx at *
              go_wp2_with (first
                | ((with_reducible refine gate (N := 37) rfl ?_); refine load_mach rfl _ rfl b10 rfl now rS.out.m0 ?_)
                | ((with_reducible refine gate (N := 38) rfl ?_); refine load_mach rfl _ rfl w.heap.size rfl m rS.out.m2 ?_)
                | (go_at_call 69; (with_reducible refine (hpn.out _).mono ?_); rintro e w3 ⟨rfl, hb⟩; have hle5 := hid (rS.out.call hb).le; replace rS := hid (hz2.out _ _ (rS.out.call hb)); clear hb hpn)
                | ((with_reducible refine gateOp (op := .store 34 (.tmp 12) (.tmp 41)) rfl ?_); refine store_mach rfl _ _ rfl w3.heap.size rfl nx rfl 34 _ rS.out.m0 ?_; intro W5 p3 ho hsz hbl; replace rS := hid (rS.out.setM hle5.out p3 ho hbl); clear p3 ho hsz hbl)
                | ((with_reducible refine gate (N := 45) rfl ?_); refine load_mach rfl _ rfl w3.heap.size rfl nx rS.out.m0 ?_)
                | ((with_reducible refine gate (N := 46) rfl ?_); refine load_mach rfl _ rfl b9 rfl (trivM l) rS.out.m2 ?_)
                | ((with_reducible refine gate (N := 49) rfl ?_); refine load_mach rfl _ rfl w3.heap.size rfl nx rS.out.m0 ?_)
                | ((with_reducible refine gateOp (op := .store 34 (.tmp 10) (.tmp 49)) rfl ?_); refine store_mach rfl _ _ rfl b10 rfl nx rfl 34 _ rS.out.m1 ?_; intro W6 p3 ho hsz hbl; replace rS := hid (rS.out.drop.setM hle3.out p3 ho hbl); clear p3 ho hsz hbl))
              go_roundw
              case rel => exact ⟨c + 1, f, nx, s2, by go_num, by omega, g2, hA, rS.out⟩
              case measure => simp [intOf]; omega
    · rw [obpAns_r h hn]
      have hw := hid (show false = decide (1 ≤ n ∧ n ≤ 16) from (decide_eq_false hn).symm)
      rw [h] at hcode
      replace hkm := hid hkm; clear h hn; replace g := hid g
      go_enter Try.func24, Try.ntmps24
      go_wp2_with (first
        | ((with_reducible refine gate (N := 14) rfl ?_); refine load_mach rfl _ rfl w.heap.size rfl m hS.out.m0 ?_)
        | (go_at_call 67; (with_reducible refine (hcode.out _).mono ?_); rintro e w1 ⟨rfl, hb⟩; replace hS := hid (hS.out.call hb); clear hb hcode)
        | (go_at_call 58; (with_reducible refine (l01In_any n 1 16 false hw.out _).mono ?_); rintro e w' ⟨rfl, rfl⟩))
      go_ret2
      exact ⟨rfl, hS.out.bel⟩
end Go.Proofs.Ythempofohidlnaa
