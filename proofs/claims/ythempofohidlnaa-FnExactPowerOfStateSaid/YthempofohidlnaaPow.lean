/- Powers: the reference's l07Power. -/
import Derived.Test.YthempofohidlnaaPof
namespace Go.Proofs.Ythempofohidlnaa
open Go.RowKit
set_option linter.unusedVariables false
set_option linter.unusedSimpArgs false

/-- The machine whose powers are made. -/
def powB (m : Mach) (l s : Nat) (n : Int) : Mach := if n < 0 then inv m l s else m
theorem powB_good {m : Mach} {l s : Nat} (g : Good m l s) (n : Int) : Good (powB m l s n) l s := by
  unfold powB; split
  · exact inv_good g
  · exact g
/-- A power. -/
def powR (m : Mach) (l s q : Nat) (n : Int) : Mach × Int := chn (fun _ => (powB m l s n, s, q)) l n.natAbs 0 (trivM l)

set_option maxHeartbeats 8000000 in
set_option maxRecDepth 4000 in
theorem l07Power_any (w : World) (m : Mach) (hk : m.Ok) (l s q : Nat) (g : Good m l s) (hq : q < s) (n : Int) (hn : -16 ≤ n ∧ n ≤ 16) :
    Calls Try.prog 76 #[.agg (mcells m), .int .i64 q, .int .i64 n] w fun e w' => e = .returned (.tuple #[.agg (mcells (powR m l s q n).1), .bool (decide ((powR m l s q n).2 = 0))]) ∧ Below w.heap.size w w' := by
  have hz := zero_mach
  have hS := hid (((St.start w).newMB m 34).newMB ⟨0, 0, fun _ => 0, fun _ => 0⟩ 34)
  rw [heap_alloc_size] at hS
  have l2 := g.l2; have l3 := g.l3
  have gB := powB_good g n
  have gL := hid gB.L
  have htr := hid (fun W => l07Trivial_any W l l3)
  have hpr := hid (fun W now sN (gN : Good now l sN) => (by have h := l07Product_any W now (powB m l s n) l sN s gN gB 0 q gN.s1 hq; rw [(next_M (powB m l s n) l s q now sN gN).1] at h; exact h : Calls Try.prog 69 #[.agg (mcells now), .int .i64 0, .agg (mcells (powB m l s n)), .int .i64 (q : Nat)] W fun e w' => e = .returned (.tuple #[.agg (mcells (nextM (powB m l s n) l s q now)), .bool (fromB (prodT now (powB m l s n) l sN s) (0 * s + q))]) ∧ Below W.heap.size W w'))
  have hnc := hid (next_cases (powB m l s n) l s q hq gB)
  have htg := hid (trivM_good l l2 l3)
  have hz2 := hid (fun L W (h : St w.heap.size w L W) => h.newMB ⟨0, 0, fun _ => 0, fun _ => 0⟩ 34)
  have hin := hid (fun W => l01Inverse_any W m l s g hk)
  have hans : powR m l s q n = chn (fun _ => (powB m l s n, s, q)) l n.natAbs 0 (trivM l) := rfl
  generalize powR m l s q n = ans at *
  clear g gB hk
  generalize hzs : mcells ⟨0, 0, fun _ => 0, fun _ => 0⟩ = zs at *
  replace hzs := hid hzs
  by_cases hneg : n < 0
  · have hB : powB m l s n = inv m l s := if_pos hneg
    rw [hB] at hpr hnc hans gL
    have hn0 : decide (n < 0) = true := decide_eq_true hneg
    clear hB
    obtain ⟨f0, hf0⟩ : ∃ f0 : Nat, -n = f0 := ⟨n.natAbs, by omega⟩
    have e0 : n.natAbs = f0 := by omega
    have e1 : IntKind.i64.wrap (-n) = (f0 : Int) := by rw [hf0]; exact IntWalk.i64_in _ (by omega)
    rw [e0] at hans
    have h16 : f0 ≤ 16 := by omega
    clear e0 hneg
    replace hans := hid hans
    replace hf0 := hid hf0
    go_enter Try.func76, Try.ntmps76
    go_upto_region 4 with (first
      | ((with_reducible refine gate (N := 13) rfl ?_); refine load_mach rfl _ rfl w.heap.size rfl m hS.out.m1 ?_)
      | (go_at_call 72; (with_reducible refine (hin.out _).mono ?_); rintro e w1 ⟨rfl, hb⟩; replace hS := hid (hS.out.call hb).f1; clear hb hin)
      | ((with_reducible refine gateOp (op := .store 34 (.tmp 3) (.tmp 14)) rfl ?_); refine store_mach rfl _ _ rfl w.heap.size rfl (inv m l s) rfl 34 _ hS.out.m0 ?_; intro W1 p3 ho hsz hbl; replace hS := hid (hS.out.setM (Nat.le_refl _) p3 ho hbl).f1; clear p3 ho hsz hbl))
    have cL := hS.out.m1.cL
    rw [gL.out] at cL
    go_wp2_with (first
      | (go_at_call 68; (with_reducible refine (htr.out _).mono ?_); rintro e w2 ⟨rfl, hb⟩; have hle2 := hid (hS.out.call hb).le; replace hS := hid (hz2.out _ _ (hS.out.call hb)); clear hb cL)
      | ((with_reducible refine gateOp (op := .store 34 (.tmp 8) (.tmp 19)) rfl ?_); refine store_mach rfl _ _ rfl w2.heap.size rfl (trivM l) rfl 34 _ hS.out.m0 ?_; intro W2 p3 ho hsz hbl; replace hS := hid (hS.out.setM hle2.out p3 ho hbl); clear p3 ho hsz hbl))
    generalize w2.heap.size = b8 at *
    simp only [Act.put]
    go_loopw [2] (fun j wr => ∃ (i f : Nat) (now : Mach) (sN : Nat), j = .int .i64 f ∧ i + f = f0 ∧ Hid (Good now l sN) ∧ Hid (ans = chn (fun _ => ((inv m l s), s, q)) l f i now) ∧ St w.heap.size w [Asn.mb 34 b8 now, Asn.mb 34 (w.heap.size + 1) ⟨0, 0, fun _ => 0, fun _ => 0⟩, Asn.mb 34 w.heap.size (inv m l s)] wr) (fun j _ => (intOf j).toNat)
    case atStart => exact ⟨0, f0, _, _, rfl, Nat.zero_add _, htg, hans, hS.out⟩
    case round =>
      obtain ⟨i, f, now, sN, rfl, hcf, gN, ha, rS⟩ := hrel
      clear hS hans
      replace rS := hid rS
      have hle6 := hid (show w.heap.size ≤ b8 from hle2.out)
      rcases f with _ | f
      · have hA := hid (show ans = (now, 0) from ha.out)
        go_wp2_with (first
          | ((with_reducible refine gate (N := 35) rfl ?_); refine load_mach rfl _ rfl b8 rfl now rS.out.m0 ?_)
          | ((with_reducible refine gateOp (op := .store 34 (.tmp 6) (.tmp 35)) rfl ?_); refine store_mach rfl _ _ rfl (w.heap.size + 1) rfl now rfl 34 _ rS.out.m1 ?_; intro W3 p2 ho hsz hbl; have pB := hid (hbl _ _ (Nat.le_succ _) rS.out.bel); replace p2 := hid p2; clear ho hsz hbl))
        exact ret_mach_v rfl rfl rfl p2.out rfl ⟨by rw [hA.out]; rfl, pB.out⟩
      · have dc : decide ((0 : Int) < ((f + 1 : Nat) : Int)) = true := decide_eq_true (by omega)
        have hpn := hid (fun W => hpr.out W now sN gN.out)
        rcases hnc.out now sN gN.out with ⟨h3, hB⟩ | ⟨h0, hB, s2, g2, k2⟩
        · have hA := hid (show ans = _ from ha.out.trans (chn_3 h3))
          rw [hB] at hpn
          clear h3 hB ha
          generalize nextM (inv m l s) l s q now = nx at *
          go_wp2_with (first
            | ((with_reducible refine gate (N := 25) rfl ?_); refine load_mach rfl _ rfl b8 rfl now rS.out.m0 ?_)
            | ((with_reducible refine gate (N := 26) rfl ?_); refine load_mach rfl _ rfl w.heap.size rfl (inv m l s) rS.out.m2 ?_)
            | (go_at_call 69; (with_reducible refine (hpn.out _).mono ?_); rintro e w3 ⟨rfl, hb⟩; have hle5 := hid (rS.out.call hb).le; replace rS := hid (hz2.out _ _ (rS.out.call hb)); clear hb hpn)
            | ((with_reducible refine gateOp (op := .store 34 (.tmp 9) (.tmp 29)) rfl ?_); refine store_mach rfl _ _ rfl w3.heap.size rfl nx rfl 34 _ rS.out.m0 ?_; intro W5 p3 ho hsz hbl; replace rS := hid (rS.out.setM hle5.out p3 ho hbl); clear p3 ho hsz hbl)
            | ((with_reducible refine gate (N := 33) rfl ?_); refine build_zero rfl rfl ?_)
            | ((with_reducible refine gateOp (op := .store 34 (.tmp 6) (.tmp 33)) rfl ?_); refine store_mach rfl _ _ rfl (w.heap.size + 1) rfl ⟨0, 0, fun _ => 0, fun _ => 0⟩ rfl 34 _ rS.out.m2 ?_; intro W3 p2 ho hsz hbl; have pB := hid (hbl _ _ (Nat.le_succ _) rS.out.bel); replace p2 := hid p2; clear ho hsz hbl))
          exact ret_mach_v rfl rfl rfl p2.out rfl ⟨by rw [hA.out]; rfl, pB.out⟩
        · have hA := hid (ha.out.trans (chn_0 h0))
          replace g2 := hid g2
          rw [hB] at hpn
          clear h0 hB ha k2
          have hsub := hid (show ((f + 1 : Nat) : Int) - 1 = (f : Int) by omega)
          generalize nextM (inv m l s) l s q now = nx at *
          go_wp2_with (first
            | ((with_reducible refine gate (N := 25) rfl ?_); refine load_mach rfl _ rfl b8 rfl now rS.out.m0 ?_)
            | ((with_reducible refine gate (N := 26) rfl ?_); refine load_mach rfl _ rfl w.heap.size rfl (inv m l s) rS.out.m2 ?_)
            | (go_at_call 69; (with_reducible refine (hpn.out _).mono ?_); rintro e w3 ⟨rfl, hb⟩; have hle5 := hid (rS.out.call hb).le; replace rS := hid (hz2.out _ _ (rS.out.call hb)); clear hb hpn)
            | ((with_reducible refine gateOp (op := .store 34 (.tmp 9) (.tmp 29)) rfl ?_); refine store_mach rfl _ _ rfl w3.heap.size rfl nx rfl 34 _ rS.out.m0 ?_; intro W5 p3 ho hsz hbl; replace rS := hid (rS.out.setM hle5.out p3 ho hbl); clear p3 ho hsz hbl)
            | ((with_reducible refine gate (N := 34) rfl ?_); refine load_mach rfl _ rfl w3.heap.size rfl nx rS.out.m0 ?_)
            | ((with_reducible refine gateOp (op := .store 34 (.tmp 8) (.tmp 34)) rfl ?_); refine store_mach rfl _ _ rfl b8 rfl nx rfl 34 _ rS.out.m1 ?_; intro W6 p3 ho hsz hbl; replace rS := hid (rS.out.drop.setM hle6.out p3 ho hbl); clear p3 ho hsz hbl))
          go_roundw
          case rel => exact ⟨i + 1, f, nx, s2, by go_num, by omega, g2, hA, rS.out⟩
          case measure => simp [intOf] <;> omega
  · have hB : powB m l s n = m := if_neg hneg
    rw [hB] at hpr hnc hans gL
    have hn0 : decide (n < 0) = false := decide_eq_false hneg
    clear hB
    obtain ⟨f0, hf0⟩ : ∃ f0 : Nat, n = f0 := ⟨n.natAbs, by omega⟩
    have e0 : n.natAbs = f0 := by omega
    rw [e0] at hans
    have h16 : f0 ≤ 16 := by omega
    clear e0 hneg
    subst hf0
    replace hans := hid hans
    go_enter Try.func76, Try.ntmps76
    go_upto_region 4 with (fail)
    have cL := hS.out.m1.cL
    rw [gL.out] at cL
    go_wp2_with (first
      | (go_at_call 68; (with_reducible refine (htr.out _).mono ?_); rintro e w2 ⟨rfl, hb⟩; have hle2 := hid (hS.out.call hb).le; replace hS := hid (hz2.out _ _ (hS.out.call hb)); clear hb cL)
      | ((with_reducible refine gateOp (op := .store 34 (.tmp 8) (.tmp 19)) rfl ?_); refine store_mach rfl _ _ rfl w2.heap.size rfl (trivM l) rfl 34 _ hS.out.m0 ?_; intro W2 p3 ho hsz hbl; replace hS := hid (hS.out.setM hle2.out p3 ho hbl); clear p3 ho hsz hbl))
    generalize w2.heap.size = b8 at *
    simp only [Act.put]
    go_loopw [2] (fun j wr => ∃ (i f : Nat) (now : Mach) (sN : Nat), j = .int .i64 f ∧ i + f = f0 ∧ Hid (Good now l sN) ∧ Hid (ans = chn (fun _ => (m, s, q)) l f i now) ∧ St w.heap.size w [Asn.mb 34 b8 now, Asn.mb 34 (w.heap.size + 1) ⟨0, 0, fun _ => 0, fun _ => 0⟩, Asn.mb 34 w.heap.size m] wr) (fun j _ => (intOf j).toNat)
    case atStart => exact ⟨0, f0, _, _, rfl, Nat.zero_add _, htg, hans, hS.out⟩
    case round =>
      obtain ⟨i, f, now, sN, rfl, hcf, gN, ha, rS⟩ := hrel
      clear hS hans
      replace rS := hid rS
      have hle6 := hid (show w.heap.size ≤ b8 from hle2.out)
      rcases f with _ | f
      · have hA := hid (show ans = (now, 0) from ha.out)
        go_wp2_with (first
          | ((with_reducible refine gate (N := 35) rfl ?_); refine load_mach rfl _ rfl b8 rfl now rS.out.m0 ?_)
          | ((with_reducible refine gateOp (op := .store 34 (.tmp 6) (.tmp 35)) rfl ?_); refine store_mach rfl _ _ rfl (w.heap.size + 1) rfl now rfl 34 _ rS.out.m1 ?_; intro W3 p2 ho hsz hbl; have pB := hid (hbl _ _ (Nat.le_succ _) rS.out.bel); replace p2 := hid p2; clear ho hsz hbl))
        exact ret_mach_v rfl rfl rfl p2.out rfl ⟨by rw [hA.out]; rfl, pB.out⟩
      · have dc : decide ((0 : Int) < ((f + 1 : Nat) : Int)) = true := decide_eq_true (by omega)
        have hpn := hid (fun W => hpr.out W now sN gN.out)
        rcases hnc.out now sN gN.out with ⟨h3, hB⟩ | ⟨h0, hB, s2, g2, k2⟩
        · have hA := hid (show ans = _ from ha.out.trans (chn_3 h3))
          rw [hB] at hpn
          clear h3 hB ha
          generalize nextM m l s q now = nx at *
          go_wp2_with (first
            | ((with_reducible refine gate (N := 25) rfl ?_); refine load_mach rfl _ rfl b8 rfl now rS.out.m0 ?_)
            | ((with_reducible refine gate (N := 26) rfl ?_); refine load_mach rfl _ rfl w.heap.size rfl m rS.out.m2 ?_)
            | (go_at_call 69; (with_reducible refine (hpn.out _).mono ?_); rintro e w3 ⟨rfl, hb⟩; have hle5 := hid (rS.out.call hb).le; replace rS := hid (hz2.out _ _ (rS.out.call hb)); clear hb hpn)
            | ((with_reducible refine gateOp (op := .store 34 (.tmp 9) (.tmp 29)) rfl ?_); refine store_mach rfl _ _ rfl w3.heap.size rfl nx rfl 34 _ rS.out.m0 ?_; intro W5 p3 ho hsz hbl; replace rS := hid (rS.out.setM hle5.out p3 ho hbl); clear p3 ho hsz hbl)
            | ((with_reducible refine gate (N := 33) rfl ?_); refine build_zero rfl rfl ?_)
            | ((with_reducible refine gateOp (op := .store 34 (.tmp 6) (.tmp 33)) rfl ?_); refine store_mach rfl _ _ rfl (w.heap.size + 1) rfl ⟨0, 0, fun _ => 0, fun _ => 0⟩ rfl 34 _ rS.out.m2 ?_; intro W3 p2 ho hsz hbl; have pB := hid (hbl _ _ (Nat.le_succ _) rS.out.bel); replace p2 := hid p2; clear ho hsz hbl))
          exact ret_mach_v rfl rfl rfl p2.out rfl ⟨by rw [hA.out]; rfl, pB.out⟩
        · have hA := hid (ha.out.trans (chn_0 h0))
          replace g2 := hid g2
          rw [hB] at hpn
          clear h0 hB ha k2
          have hsub := hid (show ((f + 1 : Nat) : Int) - 1 = (f : Int) by omega)
          generalize nextM m l s q now = nx at *
          go_wp2_with (first
            | ((with_reducible refine gate (N := 25) rfl ?_); refine load_mach rfl _ rfl b8 rfl now rS.out.m0 ?_)
            | ((with_reducible refine gate (N := 26) rfl ?_); refine load_mach rfl _ rfl w.heap.size rfl m rS.out.m2 ?_)
            | (go_at_call 69; (with_reducible refine (hpn.out _).mono ?_); rintro e w3 ⟨rfl, hb⟩; have hle5 := hid (rS.out.call hb).le; replace rS := hid (hz2.out _ _ (rS.out.call hb)); clear hb hpn)
            | ((with_reducible refine gateOp (op := .store 34 (.tmp 9) (.tmp 29)) rfl ?_); refine store_mach rfl _ _ rfl w3.heap.size rfl nx rfl 34 _ rS.out.m0 ?_; intro W5 p3 ho hsz hbl; replace rS := hid (rS.out.setM hle5.out p3 ho hbl); clear p3 ho hsz hbl)
            | ((with_reducible refine gate (N := 34) rfl ?_); refine load_mach rfl _ rfl w3.heap.size rfl nx rS.out.m0 ?_)
            | ((with_reducible refine gateOp (op := .store 34 (.tmp 8) (.tmp 34)) rfl ?_); refine store_mach rfl _ _ rfl b8 rfl nx rfl 34 _ rS.out.m1 ?_; intro W6 p3 ho hsz hbl; replace rS := hid (rS.out.drop.setM hle6.out p3 ho hbl); clear p3 ho hsz hbl))
          go_roundw
          case rel => exact ⟨i + 1, f, nx, s2, by go_num, by omega, g2, hA, rS.out⟩
          case measure => simp [intOf] <;> omega
end Go.Proofs.Ythempofohidlnaa
