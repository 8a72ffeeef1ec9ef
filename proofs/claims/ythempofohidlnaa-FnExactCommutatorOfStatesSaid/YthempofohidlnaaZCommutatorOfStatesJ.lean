/- What the proof of CommutatorOfStates leans on, part 10 of 10. -/
import Derived.Test.YthempofohidlnaaZCommutatorOfStatesI
/- CommutatorOfStates: the reference's side. -/
namespace Go.Proofs.Ythempofohidlnaa
open Go.RowKit
set_option linter.unusedVariables false
set_option linter.unusedSimpArgs false

set_option maxHeartbeats 4000000 in
set_option maxRecDepth 4000 in
theorem specCom_any (w : World) (m : Mach) (hkm : m.Ok) (q r : Int) :
    Calls Try.prog 26 #[.agg (mcells m), .int .i64 q, .int .i64 r] w fun e w' => e = .returned (.tuple #[.agg (mcells (comAns m q r).1), .int .i64 (comAns m q r).2]) ∧ Below w.heap.size w w' := by
  have hz := zero_mach
  have hS := hid (((St.start w).newMB m 34).newMB ⟨0, 0, fun _ => 0, fun _ => 0⟩ 34)
  rw [heap_alloc_size] at hS
  have hcode := hid (fun W => l07State_any W m hkm q)
  rcases codeI2_cases m q r with ⟨h2, h⟩ | ⟨h2, h⟩ | ⟨l, s, g, hr, h2, h⟩ | ⟨l, s, q, r, g, rfl, rfl, hq, hr, h2, h⟩
  · rw [comAns_n h (by decide)]
    rw [h2] at hcode
    clear h h2
    replace hkm := hid hkm
    generalize hzs : mcells ⟨0, 0, fun _ => 0, fun _ => 0⟩ = zs at *
    replace hzs := hid hzs
    go_enter Try.func26, Try.ntmps26
    go_wp2_with (first
      | ((with_reducible refine gate (N := 16) rfl ?_); refine load_mach rfl _ rfl w.heap.size rfl m hS.out.m1 ?_)
      | (go_at_call 67; (with_reducible refine (hcode.out _).mono ?_); rintro e w1 ⟨rfl, hb⟩; replace hS := hid (hS.out.call hb); clear hcode; clear hb)
      | ((with_reducible refine gate (N := 31) rfl ?_); refine build_zero rfl rfl ?_)
      | ((with_reducible refine gateOp (op := .store 34 (.tmp 6) (.tmp 31)) rfl ?_); refine store_mach rfl _ _ rfl (w.heap.size + 1) rfl ⟨0, 0, fun _ => 0, fun _ => 0⟩ rfl 34 _ hS.out.m0 ?_; intro W3 p2 ho hsz hbl; have pB := hid (hbl _ _ (Nat.le_succ _) hS.out.bel); replace p2 := hid p2; clear ho hsz hbl))
    exact ret_mach_i rfl rfl rfl p2.out rfl ⟨by rw [hzs.out], pB.out⟩
  · rw [comAns_n h (by decide)]
    rw [h2] at hcode
    clear h h2
    replace hkm := hid hkm
    generalize hzs : mcells ⟨0, 0, fun _ => 0, fun _ => 0⟩ = zs at *
    replace hzs := hid hzs
    go_enter Try.func26, Try.ntmps26
    go_wp2_with (first
      | ((with_reducible refine gate (N := 16) rfl ?_); refine load_mach rfl _ rfl w.heap.size rfl m hS.out.m1 ?_)
      | (go_at_call 67; (with_reducible refine (hcode.out _).mono ?_); rintro e w1 ⟨rfl, hb⟩; replace hS := hid (hS.out.call hb); clear hcode; clear hb)
      | ((with_reducible refine gate (N := 31) rfl ?_); refine build_zero rfl rfl ?_)
      | ((with_reducible refine gateOp (op := .store 34 (.tmp 6) (.tmp 31)) rfl ?_); refine store_mach rfl _ _ rfl (w.heap.size + 1) rfl ⟨0, 0, fun _ => 0, fun _ => 0⟩ rfl 34 _ hS.out.m0 ?_; intro W3 p2 ho hsz hbl; have pB := hid (hbl _ _ (Nat.le_succ _) hS.out.bel); replace p2 := hid p2; clear ho hsz hbl))
    exact ret_mach_i rfl rfl rfl p2.out rfl ⟨by rw [hzs.out], pB.out⟩
  · rw [comAns_n h (by decide)]
    rw [h2] at hcode
    have hin := hid (fun W => l01In_any r 0 ((s : Int) - 1) false (decide_eq_false (fun h => hr (by omega))).symm W)
    have gS := hid g.S
    clear h h2 hr
    have s16 := g.s16
    replace g := hid g
    replace hkm := hid hkm
    generalize hzs : mcells ⟨0, 0, fun _ => 0, fun _ => 0⟩ = zs at *
    replace hzs := hid hzs
    go_enter Try.func26, Try.ntmps26
    go_wp2_with (first
      | ((with_reducible refine gate (N := 16) rfl ?_); refine load_mach rfl _ rfl w.heap.size rfl m hS.out.m1 ?_)
      | (go_at_call 67; (with_reducible refine (hcode.out _).mono ?_); rintro e w1 ⟨rfl, hb⟩; replace hS := hid (hS.out.call hb); have cS := hS.out.m1.cS; rw [gS.out] at cS; clear hcode; clear hb)
      | (go_at_call 58; (with_reducible refine (hin.out _).mono ?_); rintro e w' ⟨rfl, rfl⟩)
      | ((with_reducible refine gate (N := 31) rfl ?_); refine build_zero rfl rfl ?_)
      | ((with_reducible refine gateOp (op := .store 34 (.tmp 6) (.tmp 31)) rfl ?_); refine store_mach rfl _ _ rfl (w.heap.size + 1) rfl ⟨0, 0, fun _ => 0, fun _ => 0⟩ rfl 34 _ hS.out.m0 ?_; intro W3 p2 ho hsz hbl; have pB := hid (hbl _ _ (Nat.le_succ _) hS.out.bel); replace p2 := hid p2; clear ho hsz hbl))
    exact ret_mach_i rfl rfl rfl p2.out rfl ⟨by rw [hzs.out], pB.out⟩
  · rw [comAns_0 g h, com_eq g hq hr]
    rw [h2] at hcode
    have gB := inv_good g
    have hcl := hid (fun W => l01Inverse_any W m l s g hkm)
    have hp1 := hid (fun W => l07Product_any W (inv m l s) (inv m l s) l s s gB gB q r hq hr)
    have hpq := hid (fun W now sN (gN : Good now l sN) => (by have h := l07Product_any W now m l sN s gN g 0 q gN.s1 hq; rw [(next_M m l s q now sN gN).1] at h; exact h : Calls Try.prog 69 #[.agg (mcells now), .int .i64 0, .agg (mcells m), .int .i64 (q : Nat)] W fun e w' => e = .returned (.tuple #[.agg (mcells (nextM m l s q now)), .bool (fromB (prodT now m l sN s) (0 * s + q))]) ∧ Below W.heap.size W w'))
    have hpr := hid (fun W now sN (gN : Good now l sN) => (by have h := l07Product_any W now m l sN s gN g 0 r gN.s1 hr; rw [(next_M m l s r now sN gN).1] at h; exact h : Calls Try.prog 69 #[.agg (mcells now), .int .i64 0, .agg (mcells m), .int .i64 (r : Nat)] W fun e w' => e = .returned (.tuple #[.agg (mcells (nextM m l s r now)), .bool (fromB (prodT now m l sN s) (0 * s + r))]) ∧ Below W.heap.size W w'))
    have hncq := hid (next_cases m l s q hq g)
    have hncr := hid (next_cases m l s r hr g)
    have hz2 := hid (fun L W (h : St w.heap.size w L W) => h.newMB ⟨0, 0, fun _ => 0, fun _ => 0⟩ 34)
    have hin := hid (fun W => l01In_any (r : Int) 0 ((s : Int) - 1) true (decide_eq_true (by omega)).symm W)
    have gS := hid g.S
    have s16 := g.s16
    obtain ⟨ans, hans⟩ : ∃ a, a = comS m l s q r := ⟨_, rfl⟩
    rw [← hans]
    have hfirst : (fromB (prodT (inv m l s) (inv m l s) l s s) (q * s + r) = false ∧ Hid (ans = (⟨0, 0, fun _ => 0, fun _ => 0⟩, 3))) ∨ (fromB (prodT (inv m l s) (inv m l s) l s s) (q * s + r) = true ∧ ∃ sA, Hid (Good (fromM (prodT (inv m l s) (inv m l s) l s s) (q * s + r)) l sA) ∧ Hid (ans = chn (comF m l s q r) l 2 2 (fromM (prodT (inv m l s) (inv m l s) l s s) (q * s + r)))) := by
      rcases from_cases (prodT (inv m l s) (inv m l s) l s s) (q * s + r) with ⟨h1, h2⟩ | ⟨h1, h2, _⟩
      · obtain ⟨s2, g2⟩ := fromM_good (prod_ok gB gB) (prod_in hq hr) g.l2 g.l3 (prod_o gB gB) (prod_inj gB gB) h2
        exact .inr ⟨h1, s2, g2, by rw [hans]; unfold comS; rw [if_pos h2]; exact hid rfl⟩
      · exact .inl ⟨h1, by rw [hans]; unfold comS; rw [h2, if_neg (by decide)]; exact hid rfl⟩
    have hst2 := hid (fun now (h : nextC m l s q now = 3) => (show chn (comF m l s q r) l 2 2 now = _ from chn_3 (fs := comF m l s q r) (i := 2) h))
    have hst2' := hid (fun now (h : nextC m l s q now = 0) => (show chn (comF m l s q r) l 2 2 now = chn (comF m l s q r) l 1 3 (nextM m l s q now) from chn_0 (fs := comF m l s q r) (i := 2) h))
    have hst3 := hid (fun now (h : nextC m l s r now = 3) => (show chn (comF m l s q r) l 1 3 now = _ from chn_3 (fs := comF m l s q r) (i := 3) h))
    have hst3' := hid (fun now (h : nextC m l s r now = 0) => (show chn (comF m l s q r) l 1 3 now = (nextM m l s r now, 0) from chn_0 (fs := comF m l s q r) (i := 3) h))
    clear h h2 gB hans
    replace g := hid g
    replace hkm := hid hkm
    generalize hBm : inv m l s = Bm at *
    replace hBm := hid hBm
    generalize fromM (prodT Bm Bm l s s) (q * s + r) = A1 at *
    generalize fromB (prodT Bm Bm l s s) (q * s + r) = c1 at *
    generalize hzs : mcells ⟨0, 0, fun _ => 0, fun _ => 0⟩ = zs at *
    replace hzs := hid hzs
    go_enter Try.func26, Try.ntmps26
    go_upto_region 8 with (first
      | ((with_reducible refine gate (N := 16) rfl ?_); refine load_mach rfl _ rfl w.heap.size rfl m hS.out.m1 ?_)
      | (go_at_call 67; (with_reducible refine (hcode.out _).mono ?_); rintro e w1 ⟨rfl, hb⟩; replace hS := hid (hS.out.call hb); have cS := hS.out.m1.cS; rw [gS.out] at cS; clear hcode; clear hb)
      | (go_at_call 58; (with_reducible refine (hin.out _).mono ?_); rintro e w' ⟨rfl, rfl⟩)
      | ((with_reducible refine gate (N := 33) rfl ?_); refine load_mach rfl _ rfl w.heap.size rfl m hS.out.m1 ?_)
      | (go_at_call 72; (with_reducible refine (hcl.out _).mono ?_); rintro e w2 ⟨rfl, hb⟩; have hle2 := hid (hS.out.call hb).le; replace hS := hid (hz2.out _ _ (hS.out.call hb)); clear hcl cS; clear hb)
      | ((with_reducible refine gateOp (op := .store 34 (.tmp 9) (.tmp 34)) rfl ?_); refine store_mach rfl _ _ rfl w2.heap.size rfl Bm rfl 34 _ hS.out.m0 ?_; intro W2 p3 ho hsz hbl; replace hS := hid (hS.out.setM hle2.out p3 ho hbl); clear p3 ho hsz hbl)
      | ((with_reducible refine gate (N := 36) rfl ?_); refine load_mach rfl _ rfl w2.heap.size rfl Bm hS.out.m0 ?_)
      | ((with_reducible refine gate (N := 38) rfl ?_); refine load_mach rfl _ rfl w2.heap.size rfl Bm hS.out.m0 ?_)
      | (go_at_call 69; (with_reducible refine (hp1.out _).mono ?_); rintro e w3 ⟨rfl, hb⟩; have hle3 := hid (hS.out.call hb).le; replace hS := hid (hz2.out _ _ (hS.out.call hb)); clear hp1; clear hb)
      | ((with_reducible refine gateOp (op := .store 34 (.tmp 10) (.tmp 41)) rfl ?_); refine store_mach rfl _ _ rfl w3.heap.size rfl A1 rfl 34 _ hS.out.m0 ?_; intro W3 p3 ho hsz hbl; replace hS := hid (hS.out.setM hle3.out p3 ho hbl); clear p3 ho hsz hbl))
    generalize w2.heap.size = b9 at *
    generalize w3.heap.size = b10 at *
    rcases hfirst with ⟨rfl, hA⟩ | ⟨rfl, sA, gA, hA⟩
    · go_wp2_with (first
        | ((with_reducible refine gate (N := 45) rfl ?_); refine build_zero rfl rfl ?_)
        | ((with_reducible refine gateOp (op := .store 34 (.tmp 6) (.tmp 45)) rfl ?_); refine store_mach rfl _ _ rfl (w.heap.size + 1) rfl ⟨0, 0, fun _ => 0, fun _ => 0⟩ rfl 34 _ hS.out.m2 ?_; intro W3 p2 ho hsz hbl; have pB := hid (hbl _ _ (Nat.le_succ _) hS.out.bel); replace p2 := hid p2; clear ho hsz hbl))
      exact ret_mach_i rfl rfl rfl p2.out rfl ⟨by rw [hA.out, hzs.out], pB.out⟩
    · have hpq2 := hid (fun W => hpq.out W A1 sA gA.out)
      rcases hncq.out A1 sA gA.out with ⟨k3, hB⟩ | ⟨k0, hB, s2, g2, _⟩
      · rw [hB] at hpq2
        have hA2 := hid (hA.out.trans (hst2.out _ k3))
        clear k3 hB hst2 hst2' hst3 hst3'
        generalize nextM m l s q A1 = A2 at *
        go_wp2_with (first
          | ((with_reducible refine gate (N := 47) rfl ?_); refine load_mach rfl _ rfl b10 rfl A1 hS.out.m0 ?_)
          | ((with_reducible refine gate (N := 48) rfl ?_); refine load_mach rfl _ rfl w.heap.size rfl m hS.out.m3 ?_)
          | (go_at_call 69; (with_reducible refine (hpq2.out _).mono ?_); rintro e w4 ⟨rfl, hb⟩; have hle4 := hid (hS.out.call hb).le; replace hS := hid (hz2.out _ _ (hS.out.call hb)); clear hpq2; clear hb)
          | ((with_reducible refine gateOp (op := .store 34 (.tmp 12) (.tmp 51)) rfl ?_); refine store_mach rfl _ _ rfl w4.heap.size rfl A2 rfl 34 _ hS.out.m0 ?_; intro W4 p3 ho hsz hbl; replace hS := hid (hS.out.setM hle4.out p3 ho hbl); clear p3 ho hsz hbl)
          | ((with_reducible refine gate (N := 55) rfl ?_); refine build_zero rfl rfl ?_)
          | ((with_reducible refine gateOp (op := .store 34 (.tmp 6) (.tmp 55)) rfl ?_); refine store_mach rfl _ _ rfl (w.heap.size + 1) rfl ⟨0, 0, fun _ => 0, fun _ => 0⟩ rfl 34 _ hS.out.m3 ?_; intro W3 p2 ho hsz hbl; have pB := hid (hbl _ _ (Nat.le_succ _) hS.out.bel); replace p2 := hid p2; clear ho hsz hbl))
        exact ret_mach_i rfl rfl rfl p2.out rfl ⟨by rw [hA2.out, hzs.out], pB.out⟩
      · rw [hB] at hpq2
        have hA2 := hid (hA.out.trans (hst2'.out _ k0))
        replace g2 := hid g2
        clear k0 hB hst2 hst2'
        generalize nextM m l s q A1 = A2 at *
        go_upto_region 11 with (first
          | ((with_reducible refine gate (N := 47) rfl ?_); refine load_mach rfl _ rfl b10 rfl A1 hS.out.m0 ?_)
          | ((with_reducible refine gate (N := 48) rfl ?_); refine load_mach rfl _ rfl w.heap.size rfl m hS.out.m3 ?_)
          | (go_at_call 69; (with_reducible refine (hpq2.out _).mono ?_); rintro e w4 ⟨rfl, hb⟩; have hle4 := hid (hS.out.call hb).le; replace hS := hid (hz2.out _ _ (hS.out.call hb)); clear hpq2; clear hb)
          | ((with_reducible refine gateOp (op := .store 34 (.tmp 12) (.tmp 51)) rfl ?_); refine store_mach rfl _ _ rfl w4.heap.size rfl A2 rfl 34 _ hS.out.m0 ?_; intro W4 p3 ho hsz hbl; replace hS := hid (hS.out.setM hle4.out p3 ho hbl); clear p3 ho hsz hbl))
        generalize w4.heap.size = b12 at *
        have hpr2 := hid (fun W => hpr.out W A2 s2 g2.out)
        rcases hncr.out A2 s2 g2.out with ⟨k3, hB⟩ | ⟨k0, hB, s3, g3, _⟩
        · rw [hB] at hpr2
          have hA3 := hid (hA2.out.trans (hst3.out _ k3))
          clear k3 hB hst3 hst3'
          generalize nextM m l s r A2 = A3 at *
          go_wp2_with (first
            | ((with_reducible refine gate (N := 57) rfl ?_); refine load_mach rfl _ rfl b12 rfl A2 hS.out.m0 ?_)
            | ((with_reducible refine gate (N := 58) rfl ?_); refine load_mach rfl _ rfl w.heap.size rfl m hS.out.m4 ?_)
            | (go_at_call 69; (with_reducible refine (hpr2.out _).mono ?_); rintro e w5 ⟨rfl, hb⟩; have hle5 := hid (hS.out.call hb).le; replace hS := hid (hz2.out _ _ (hS.out.call hb)); clear hpr2; clear hb)
            | ((with_reducible refine gateOp (op := .store 34 (.tmp 14) (.tmp 61)) rfl ?_); refine store_mach rfl _ _ rfl w5.heap.size rfl A3 rfl 34 _ hS.out.m0 ?_; intro W5 p3 ho hsz hbl; replace hS := hid (hS.out.setM hle5.out p3 ho hbl); clear p3 ho hsz hbl)
            | ((with_reducible refine gate (N := 65) rfl ?_); refine build_zero rfl rfl ?_)
            | ((with_reducible refine gateOp (op := .store 34 (.tmp 6) (.tmp 65)) rfl ?_); refine store_mach rfl _ _ rfl (w.heap.size + 1) rfl ⟨0, 0, fun _ => 0, fun _ => 0⟩ rfl 34 _ hS.out.m4 ?_; intro W3 p2 ho hsz hbl; have pB := hid (hbl _ _ (Nat.le_succ _) hS.out.bel); replace p2 := hid p2; clear ho hsz hbl))
          exact ret_mach_i rfl rfl rfl p2.out rfl ⟨by rw [hA3.out, hzs.out], pB.out⟩
        · rw [hB] at hpr2
          have hA3 := hid (hA2.out.trans (hst3'.out _ k0))
          clear k0 hB hst3 hst3' g3
          generalize nextM m l s r A2 = A3 at *
          go_wp2_with (first
            | ((with_reducible refine gate (N := 57) rfl ?_); refine load_mach rfl _ rfl b12 rfl A2 hS.out.m0 ?_)
            | ((with_reducible refine gate (N := 58) rfl ?_); refine load_mach rfl _ rfl w.heap.size rfl m hS.out.m4 ?_)
            | (go_at_call 69; (with_reducible refine (hpr2.out _).mono ?_); rintro e w5 ⟨rfl, hb⟩; have hle5 := hid (hS.out.call hb).le; replace hS := hid (hz2.out _ _ (hS.out.call hb)); clear hpr2; clear hb)
            | ((with_reducible refine gateOp (op := .store 34 (.tmp 14) (.tmp 61)) rfl ?_); refine store_mach rfl _ _ rfl w5.heap.size rfl A3 rfl 34 _ hS.out.m0 ?_; intro W5 p3 ho hsz hbl; replace hS := hid (hS.out.setM hle5.out p3 ho hbl); clear p3 ho hsz hbl)
            | ((with_reducible refine gate (N := 66) rfl ?_); refine load_mach rfl _ rfl w5.heap.size rfl A3 hS.out.m0 ?_)
            | ((with_reducible refine gateOp (op := .store 34 (.tmp 6) (.tmp 66)) rfl ?_); refine store_mach rfl _ _ rfl (w.heap.size + 1) rfl A3 rfl 34 _ hS.out.m4 ?_; intro W3 p2 ho hsz hbl; have pB := hid (hbl _ _ (Nat.le_succ _) hS.out.bel); replace p2 := hid p2; clear ho hsz hbl))
          exact ret_mach_i rfl rfl rfl p2.out rfl ⟨by rw [hA3.out], pB.out⟩
end Go.Proofs.Ythempofohidlnaa

/- CommutatorOfStates: the law. -/
namespace Go.Proofs.Ythempofohidlnaa
open Go.RowKit
set_option linter.unusedVariables false
set_option linter.unusedSimpArgs false
set_option maxHeartbeats 4000000 in
set_option maxRecDepth 100000 in
theorem commutatorOfStates_law (w : World) (m : Mach) (hkm : m.Ok) (x1 : Int) (x2 : Int) :
    Calls Try.prog 6 #[.agg (mcells m), .int .i64 x1, .int .i64 x2] w fun e w' => e = .returned (.bool true) ∧ Below w.heap.size w w' := by
  have hz := zero_mach
  have hS := hid ((St.start w).newMB m 32)
  replace hkm := hid hkm
  have hNew := hid (fun L W (h : St w.heap.size w L W) => h.newMB ⟨0, 0, fun _ => 0, fun _ => 0⟩ 34)
  have hs := hid (fun W => specCom_any W m hkm.out x1 x2)
  have hp := hid (fun W => implCom_any W m hkm.out x1 x2)
  generalize (comAns m x1 x2).1 = fm at *
  generalize (comAns m x1 x2).2 = fc at *
  have hcc : (fc != fc) = false := by simp
  try simp only [heap_alloc_size] at hS
  generalize mcells ⟨0, 0, fun _ => 0, fun _ => 0⟩ = zs at *
  go_enter Try.func6, Try.ntmps6
  go_wp2_with (first
    | ((with_reducible refine gate (N := 12) rfl ?_); refine load_lmach rfl _ rfl w.heap.size rfl m (by first | exact hS.out.m0 | exact hS.out.m1 | exact hS.out.m2) ?_)
    | ((with_reducible refine gate (N := 20) rfl ?_); refine load_lmach rfl _ rfl w.heap.size rfl m (by first | exact hS.out.m0 | exact hS.out.m1 | exact hS.out.m2) ?_)
    | ((with_reducible refine gate (N := 27) rfl ?_); refine load_mach rfl _ rfl w4.heap.size rfl fm hS.out.m0 ?_)
    | ((with_reducible refine gate (N := 28) rfl ?_); refine load_mach rfl _ rfl w2.heap.size rfl fm hS.out.m1 ?_)
    | (go_at_call 22; (with_reducible refine (toMachine_any m hkm.out _).mono ?_); rintro e w1 ⟨rfl, hb⟩; replace hS := hid (hS.out.call hb); clear hb)
    | (go_at_call 26; (with_reducible refine (hs.out _).mono ?_); rintro e w2 ⟨rfl, hb⟩; have hlew2 := hid (hS.out.call hb).le; replace hS := hid (hNew.out _ _ (hS.out.call hb)); clear hb)
    | (go_at_call 27; (with_reducible refine (hp.out _).mono ?_); rintro e w4 ⟨rfl, hb⟩; have hlew4 := hid (hS.out.call hb).le; replace hS := hid (hNew.out _ _ (hS.out.call hb)); clear hb)
    | ((with_reducible refine gateOp (op := .store 34 (.tmp 7) (.tmp 17)) rfl ?_); refine store_mach rfl _ _ rfl w2.heap.size rfl fm rfl 34 _ hS.out.m0 ?_; intro W1 p3 ho hsz hbl; replace hS := hid (hS.out.setM hlew2.out p3 ho hbl); clear p3 ho hsz hbl)
    | ((with_reducible refine gateOp (op := .store 34 (.tmp 9) (.tmp 25)) rfl ?_); refine store_mach rfl _ _ rfl w4.heap.size rfl fm rfl 34 _ hS.out.m0 ?_; intro W1 p3 ho hsz hbl; replace hS := hid (hS.out.setM hlew4.out p3 ho hbl); clear p3 ho hsz hbl)
    | (go_at_call 28; (with_reducible refine (eqMachine_same fm _).mono ?_); rintro e w6 ⟨rfl, hb⟩; replace hS := hid (hS.out.call hb); clear hb))
  go_ret
  exact ⟨rfl, hS.out.bel⟩
end Go.Proofs.Ythempofohidlnaa
