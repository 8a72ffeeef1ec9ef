/- What the proof of FnDuals leans on, part 26 of 26. -/
import Derived.Test.YtbmkkaecfogmoaaZFnDualsY
import Derived.Deep.CutBlock
/- DifferentActions: the program's. -/
namespace Go.Proofs.Ytbmkkaecfogmoaa
open Go.RowKit
set_option linter.unusedVariables false
set_option linter.unusedSimpArgs false
-- @LONG

theorem pow_small {s n : Nat} (hs : s ≤ 8) (hn : n ≤ 16) : s ^ n < 9223372036854775808 :=
  Nat.lt_of_le_of_lt (Nat.le_trans (Nat.pow_le_pow_left hs n) (Nat.pow_le_pow_right (by omega) hn)) (by decide)
set_option maxHeartbeats 20000000 in
set_option maxRecDepth 100000 in
theorem implDif_any (w : World) (m : Mach) (hk : m.Ok) (h8 : IsM m → m.S ≤ 8) (n : Int) :
    Calls Try.prog 75 #[.agg (mcells m), .int .i64 n] w fun e w' => e = .returned (.tuple #[.int .i64 (difAns m n).1, .int .i64 (difAns m n).2]) ∧ Below w.heap.size w w' := by
  have hz := zero_mach
  have hS := hid ((St.start w).newMB m 27)
  by_cases hm : IsM m
  · obtain ⟨l, s, g⟩ := hm.good
    have him := hid (fun W => IsMachine_any W m hk true (iff_of_true rfl hm))
    have gS := hid g.S
    have gL := hid g.L
    have hs8 : s ≤ 8 := by have := h8 hm; rw [g.S] at this; omega
    have s1 := g.s1
    have l3 := g.l3
    by_cases hn : 0 ≤ n ∧ n ≤ 16
    · obtain ⟨n, rfl⟩ := Int.eq_ofNat_of_zero_le hn.1
      have hw := hid (show true = decide (0 ≤ (n : Int) ∧ (n : Int) ≤ 16) from (decide_eq_true hn).symm)
      have hn16 : n ≤ 16 := by omega
      have hps := pow_small hs8 hn16
      have hpw := hid (fun W => power_any s n s1 (by rw [pw_eq]; exact hps) (by omega) W)
      rw [pw_eq] at hpw
      by_cases hp : s ^ n ≤ 300
      · have htr := hid (fun W => trivialMachine_any W l l3)
        have hpr := hid (fun gb o W now sN (gN : Good now l sN) q (hq : q < s) hb hm => (by have h := product_o gb o w.heap.size W now m hb hm l sN s gN g 0 q gN.s1 hq; rw [(next_M m l s q now sN gN).1, (next_M m l s q now sN gN).2] at h; exact h : Calls Try.prog 170 #[.pointer (some ⟨gb, o, none⟩), .int .i64 0, .pointer (some ⟨w.heap.size, 0, none⟩), .int .i64 (q : Nat)] W fun e w' => e = .returned (.tuple #[.agg (mcells (nextM m l s q now)), .int .i64 (nextC m l s q now)]) ∧ Below W.heap.size W w'))
        have hnc := hid (fun q hq => next_cases m l s q hq g)
        have hcon := hid (fun W base v A p sp => conM_any W base v A p l sp)
        have hdN := hid (fun j (A : List Mach) (h : dfN m l s j = some A) => dfN_fac g h)
        have hdI := hid (fun (A B : List Mach) i (hG : GL l A) (hi : i ≤ A.length) (h : dfI m l s A i = some B) => dfI_fac g hG hi h)
        have hdQ := hid (fun (k : Mach) (sk : Nat) (gk : Good k l sk) (B C : List Mach) q (hG : GL l B) (hq : q ≤ s) (h : dfQ m l s k B q = some C) => dfQ_fac g gk hG hq h)
        have hfail := hid (fun (j i q : Nat) (A B C : List Mach) (hj : j < n) (hA : dfN m l s j = some A) (hi : i < A.length) (hB : dfI m l s A i = some B) (hq : q < s) (hC : dfQ m l s (A.getD i (trivM l)) B q = some C) h => dif_fail g hn16 hp hj hA hi hB hq hC h)
        have hdone := hid (fun (A : List Mach) (h : dfN m l s n = some A) => difAns_s g hn16 hp h)
        have hj300 := hid (fun j (h : j ≤ n) => Nat.le_trans (Nat.pow_le_pow_right (by omega : 0 < s) h) hp)
        have hz2 := hid (fun L W (h : St w.heap.size w L W) => h.newMB ⟨0, 0, fun _ => 0, fun _ => 0⟩ 27)
        have dp : decide ((300 : Int) < ((s ^ n : Nat) : Int)) = false := decide_eq_false (by omega)
        generalize difAns m n = ans at *
        replace hk := hid hk; replace hm := hid hm; replace g := hid g
        clear hn hps h8
        generalize s ^ n = sn at *
        go_enter Try.func75, Try.ntmps75
        go_upto_region 5 with (first
          | ((with_reducible refine gate (N := 12) rfl ?_); refine load_mach rfl _ rfl w.heap.size rfl m hS.out.m0 ?_)
          | (go_at_call 65; (with_reducible refine (him.out _).mono ?_); rintro e w1 ⟨rfl, hb⟩; replace hS := hid (hS.out.call hb); have cS := hS.out.m0.cS; rw [gS.out] at cS; have cL := hS.out.m0.cL; rw [gL.out] at cL; clear hb)
          | (go_at_call 124; (with_reducible refine (within_any _ _ _ true hw.out _).mono ?_); rintro e w' ⟨rfl, rfl⟩)
          | (go_at_call 176; (with_reducible refine (hpw.out _).mono ?_); rintro e w' ⟨rfl, rfl⟩))
        go_upto_region 6 with (first
          | (go_at_call 169; (with_reducible refine (htr.out _).mono ?_); rintro e w2 ⟨rfl, hb⟩; replace hS := hid ((hS.out.call hb).newM1 (trivM l)); clear hb)
          | ((with_reducible refine gate (N := 28) rfl ?_); refine step_bsM rfl _ rfl (trivM l) rfl ?_))
        clear cS cL
        generalize w2.heap.size = g6 at *
        go_wp2
        go_loopw [6, 30] (fun v i wr => ∃ (j : Nat) (A : List Mach), j ≤ n ∧ i = .int .i64 j ∧ Hid (dfN m l s j = some A) ∧ St w.heap.size w [Asn.ownN w.heap.size 27 98 v A.length (mfl A), Asn.mb 27 w.heap.size m] wr) (fun _ i _ => n - (intOf i).toNat)
        case atStart => exact ⟨0, [trivM l], Nat.zero_le _, rfl, hid rfl, hS.out⟩
        case round =>
          obtain ⟨j, A, hj, rfl, hA, rS⟩ := hrel
          clear hS
          obtain ⟨P, cap, rfl, hP⟩ := rS.n0.form2
          replace hP := hid hP
          obtain ⟨hAl, hAG⟩ := hdN.out _ _ hA.out
          have h300 := hj300.out j hj
          by_cases hlt : j < n
          · have dj : decide ((j : Int) < (n : Int)) = true := decide_eq_true (by omega)
            have rS1 := hid (rS.nilN 27 98)
            clear rS
            go_wp2
            go_loopw [7, 34] (fun v i wr => ∃ (i' : Nat) (B : List Mach), i' ≤ A.length ∧ i = .int .i64 i' ∧ Hid (dfI m l s A i' = some B) ∧ St w.heap.size w [Asn.ownN w.heap.size 27 98 v B.length (mfl B), Asn.ownN w.heap.size 27 98 (.slice P A.length cap) A.length (mfl A), Asn.mb 27 w.heap.size m] wr) (fun _ i _ => A.length - (intOf i).toNat)
            case atStart => exact ⟨0, [], Nat.zero_le _, rfl, hid rfl, rS1.out⟩
            case round =>
              obtain ⟨i, B, hi, rfl, hB, iS⟩ := hrel
              clear rS1
              obtain ⟨hBl, hBG⟩ := hdI.out _ _ _ hAG hi hB.out
              have hBl2 : B.length ≤ 4800 := Nat.le_trans hBl (Nat.mul_le_mul (show i ≤ 300 by omega) (show s ≤ 16 by omega))
              by_cases hlti : i < A.length
              · have di : decide ((i : Int) < (A.length : Int)) = true := decide_eq_true (by omega)
                have i0 : (0 : Int) ≤ (i : Int) := Int.natCast_nonneg _
                have i1 : (i : Int) < (A.length : Int) := by omega
                obtain ⟨ga, rfl⟩ := hP.out (by omega)
                obtain ⟨k, hk1, hk2, hkk, sk, gk⟩ := hAG.at hlti (trivM l)
                have cS := iS.m2.cS
                rw [gS.out] at cS
                have iS1 := hid iS
                clear iS
                have hf2 := hid (fun (q : Nat) (C : List Mach) (hq : q < s) (hC : dfQ m l s k B q = some C) (h : nextC m l s q k = 3) => hfail.out _ _ _ _ _ _ hlt hA.out hlti hB.out hq (by rw [hk2]; exact hC) (by rw [hk2]; exact h))
                have hst := hid (fun (C : List Mach) (hC : dfQ m l s k B s = some C) => dfI_step hB.out (by rw [hk2]; exact hC))
                have hmo := hid (fun L W (h : St w.heap.size w L W) (hO : OwnN W w.heap.size 27 98 (.slice (some ⟨ga, 0, none⟩) A.length cap) A.length (mfl A)) => hO.mo hk1)
                replace hBG := hid hBG
                clear hk1 hk2 hB
                go_wp2
                clear cS
                go_loopw [7, 39] (fun v q wr => ∃ (q' : Nat) (C : List Mach), q' ≤ s ∧ q = .int .i64 q' ∧ Hid (dfQ m l s k B q' = some C) ∧ St w.heap.size w [Asn.ownN w.heap.size 27 98 v C.length (mfl C), Asn.ownN w.heap.size 27 98 (.slice (some ⟨ga, 0, none⟩) A.length cap) A.length (mfl A), Asn.mb 27 w.heap.size m] wr) (fun _ q _ => s - (intOf q).toNat)
                case atStart => exact ⟨0, B, Nat.zero_le _, rfl, hid rfl, iS1.out⟩
                case round =>
                  obtain ⟨q, C, hq, rfl, hC, qS⟩ := hrel
                  clear iS1
                  obtain ⟨hCl, hCG⟩ := hdQ.out k sk gk _ _ _ hBG.out hq hC.out
                  replace qS := hid qS
                  by_cases hltq : q < s
                  · have dq : decide ((q : Int) < (s : Int)) = true := decide_eq_true (by omega)
                    have hpn := hid (fun W hb hm => hpr.out ga (i * 98) W k sk gk q hltq hb hm)
                    rcases hnc.out q hltq k sk gk with ⟨h3, _⟩ | ⟨h0, _, s2, g2, k2⟩
                    · have hA3 := hid (hf2.out _ _ hltq hC.out h3)
                      rw [h3] at hpn
                      clear h3
                      generalize nextM m l s q k = nx at *
                      go_wp2_with (first
                        | (go_at_call 170; (with_reducible refine (hpn.out _ (hmo.out _ _ qS.out qS.out.n1) qS.out.m2).mono ?_); rintro e w3 ⟨rfl, hb⟩; have hle3 := hid (qS.out.call hb).le; replace qS := hid (hz2.out _ _ (qS.out.call hb)); clear hb)
                        | ((with_reducible refine gateOp (op := .store 27 (.tmp 10) (.tmp 48)) rfl ?_); refine store_mach rfl _ _ rfl w3.heap.size rfl nx rfl 27 _ qS.out.m0 ?_; intro w4 p3 ho hsz hbl; replace qS := hid (qS.out.setM hle3.out p3 ho hbl); clear p3 ho hsz hbl))
                      go_ret2
                      exact ⟨by first | (rw [hA3.out]; done) | (rw [hA3.out]; rfl), qS.out.bel⟩
                    · have hstp := hid (dfQ_step hC.out h0)
                      rw [h0] at hpn
                      clear h0
                      generalize nextM m l s q k = nx at *
                      have hcn := hid (fun W v (hO : OwnN W w.heap.size 27 98 v C.length (mfl C)) => hcon.out W w.heap.size v C nx s2 hO hCG k2 g2 (by omega))
                      clear g2 k2
                      go_upto_region 18 with (first
                        | (go_at_call 170; (with_reducible refine (hpn.out _ (hmo.out _ _ qS.out qS.out.n1) qS.out.m2).mono ?_); rintro e w3 ⟨rfl, hb⟩; have hle3 := hid (qS.out.call hb).le; replace qS := hid (hz2.out _ _ (qS.out.call hb)); clear hb)
                        | ((with_reducible refine gateOp (op := .store 27 (.tmp 10) (.tmp 48)) rfl ?_); refine store_mach rfl _ _ rfl w3.heap.size rfl nx rfl 27 _ qS.out.m0 ?_; intro w4 p3 ho hsz hbl; replace qS := hid (qS.out.setM hle3.out p3 ho hbl); clear p3 ho hsz hbl))
                      generalize w3.heap.size = b10 at *
                      generalize hasB C nx = b at *
                      cases b with
                      | true =>
                        have hs2 := hid (by have h := hstp.out; simpa using h : dfQ m l s k B (q + 1) = some C)
                        go_wp2_with (first
                          | ((with_reducible refine gate (N := 54) rfl ?_); refine load_mach rfl _ rfl b10 rfl nx qS.out.m0 ?_)
                          | (go_at_call 177; (with_reducible refine (hcn.out _ _ qS.out.n1).mono ?_); rintro e w5 ⟨rfl, hb⟩; replace qS := hid (qS.out.call hb).drop; clear hb))
                        go_roundw
                        case rel => exact ⟨q + 1, C, by omega, by go_num, hs2, qS.out⟩
                        case measure => simp [intOf]; omega
                      | false =>
                        have hs2 := hid (by have h := hstp.out; simpa using h : dfQ m l s k B (q + 1) = some (C ++ [nx]))
                        have hCl2 : C.length ≤ 1000000 := by omega
                        go_wp2_with (first
                          | ((with_reducible refine gate (N := 54) rfl ?_); refine load_mach rfl _ rfl b10 rfl nx qS.out.m0 ?_)
                          | (go_at_call 177; (with_reducible refine (hcn.out _ _ qS.out.n1).mono ?_); rintro e w5 ⟨rfl, hb⟩; replace qS := hid (qS.out.call hb).f1; clear hb)
                          | ((with_reducible refine gate (N := 58) rfl ?_); refine load_mach rfl _ rfl b10 rfl nx qS.out.m1 ?_)
                          | ((with_reducible refine gate (N := 59) rfl ?_); refine step_bsM rfl _ rfl nx rfl ?_)
                          | ((with_reducible refine gate (N := 60) rfl ?_); refine St.appMc rfl _ _ rfl _ C rfl qS.out nx rfl hCl2 ?_; intro gn cn w6 qS'; replace qS := hid qS'.f1.drop; clear qS'))
                        go_roundw
                        case rel => exact ⟨q + 1, C ++ [nx], by omega, by go_num, hs2, by first | exact qS.out | simpa using qS.out⟩
                        case measure => simp [intOf]; omega
                  · obtain rfl : q = s := by omega
                    have dq : decide ((q : Int) < (q : Int)) = false := decide_eq_false (by omega)
                    have hs3 := hid (hst.out _ hC.out)
                    go_wp2
                    go_roundw
                    case rel => exact ⟨i + 1, C, by omega, by go_num, hs3, qS.out⟩
                    case measure => simp [intOf]; omega
              · obtain rfl : i = A.length := by omega
                have di : decide ((A.length : Int) < (A.length : Int)) = false := decide_eq_false (by omega)
                have hs3 := hid (dfN_step hA.out hB.out)
                replace iS := hid iS.f1.drop
                go_wp2
                go_roundw
                case rel => exact ⟨j + 1, B, by omega, by go_num, hs3, iS.out⟩
                case measure => simp [intOf]; omega
          · obtain rfl : j = n := by omega
            have dj : decide ((j : Int) < (j : Int)) = false := decide_eq_false (by omega)
            have hA3 := hid (hdone.out _ hA.out)
            replace rS := hid rS
            go_wp2
            go_ret2
            exact ⟨by first | (rw [hA3.out]; done) | (rw [hA3.out]; rfl), rS.out.bel⟩
      · rw [difAns_2 g (show ¬ (0 ≤ (n : Int) ∧ (n : Int) ≤ 16 ∧ s ^ (n : Int).toNat ≤ 300) from fun h => hp h.2.2)]
        have dp : decide ((300 : Int) < ((s ^ n : Nat) : Int)) = true := decide_eq_true (by omega)
        replace hk := hid hk; replace hm := hid hm; replace g := hid g
        clear hn hps h8 hp
        generalize s ^ n = sn at *
        go_enter Try.func75, Try.ntmps75
        go_wp2_with (first
          | ((with_reducible refine gate (N := 12) rfl ?_); refine load_mach rfl _ rfl w.heap.size rfl m hS.out.m0 ?_)
          | (go_at_call 65; (with_reducible refine (him.out _).mono ?_); rintro e w1 ⟨rfl, hb⟩; replace hS := hid (hS.out.call hb); have cS := hS.out.m0.cS; rw [gS.out] at cS; have cL := hS.out.m0.cL; rw [gL.out] at cL; clear hb)
          | (go_at_call 124; (with_reducible refine (within_any _ _ _ true hw.out _).mono ?_); rintro e w' ⟨rfl, rfl⟩)
          | (go_at_call 176; (with_reducible refine (hpw.out _).mono ?_); rintro e w' ⟨rfl, rfl⟩))
        go_ret2
        exact ⟨rfl, hS.out.bel⟩
    · rw [difAns_2 g (fun h => hn ⟨h.1, h.2.1⟩)]
      have hw := hid (show false = decide (0 ≤ n ∧ n ≤ 16) from (decide_eq_false hn).symm)
      replace hk := hid hk; replace hm := hid hm; replace g := hid g
      clear hn h8
      go_enter Try.func75, Try.ntmps75
      go_wp2_with (first
        | ((with_reducible refine gate (N := 12) rfl ?_); refine load_mach rfl _ rfl w.heap.size rfl m hS.out.m0 ?_)
        | (go_at_call 65; (with_reducible refine (him.out _).mono ?_); rintro e w1 ⟨rfl, hb⟩; replace hS := hid (hS.out.call hb); clear hb)
        | (go_at_call 124; (with_reducible refine (within_any _ _ _ false hw.out _).mono ?_); rintro e w' ⟨rfl, rfl⟩))
      go_ret2
      exact ⟨rfl, hS.out.bel⟩
  · rw [difAns_1 hm]
    have him := hid (fun W => IsMachine_any W m hk false (iff_of_false (by decide) hm))
    replace hk := hid hk
    clear hm h8
    go_enter Try.func75, Try.ntmps75
    go_wp2_with (first
      | ((with_reducible refine gate (N := 12) rfl ?_); refine load_mach rfl _ rfl w.heap.size rfl m hS.out.m0 ?_)
      | (go_at_call 65; (with_reducible refine (him.out _).mono ?_); rintro e w1 ⟨rfl, hb⟩; replace hS := hid (hS.out.call hb); clear hb))
    go_ret2
    exact ⟨rfl, hS.out.bel⟩
end Go.Proofs.Ytbmkkaecfogmoaa

/- DifferentActions: the reference's. -/
namespace Go.Proofs.Ytbmkkaecfogmoaa
open Go.RowKit
set_option linter.unusedVariables false
set_option linter.unusedSimpArgs false
-- @LONG

set_option maxHeartbeats 20000000 in
set_option maxRecDepth 100000 in
theorem specDif_any (w : World) (m : Mach) (hk : m.Ok) (h8 : IsM m → m.S ≤ 8) (n : Int) :
    Calls Try.prog 76 #[.agg (mcells m), .int .i64 n] w fun e w' => e = .returned (.tuple #[.int .i64 (difAns m n).1, .int .i64 (difAns m n).2]) ∧ Below w.heap.size w w' := by
  have hz := zero_mach
  have hS := hid ((St.start w).newMB m 27)
  by_cases hm : IsM m
  · obtain ⟨l, s, g⟩ := hm.good
    have him := hid (fun W => l01Is_any W m hk true (iff_of_true rfl hm))
    have gS := hid g.S
    have gL := hid g.L
    have hs8 : s ≤ 8 := by have := h8 hm; rw [g.S] at this; omega
    have s1 := g.s1
    have l3 := g.l3
    by_cases hn : 0 ≤ n ∧ n ≤ 16
    · obtain ⟨n, rfl⟩ := Int.eq_ofNat_of_zero_le hn.1
      have hw := hid (show true = decide (0 ≤ (n : Int) ∧ (n : Int) ≤ 16) from (decide_eq_true hn).symm)
      have hn16 : n ≤ 16 := by omega
      have hps := pow_small hs8 hn16
      have hpw := hid (fun W => l07Tuples_any W s n (by omega) s1 hn16)
      by_cases hp : s ^ n ≤ 300
      · have htr := hid (fun W => l07Trivial_any W l l3)
        have hpr := hid (fun W now sN (gN : Good now l sN) q (hq : q < s) => (by have h := l07Product_any W now m l sN s gN g 0 q gN.s1 hq; rw [(next_M m l s q now sN gN).1] at h; exact h : Calls Try.prog 173 #[.agg (mcells now), .int .i64 0, .agg (mcells m), .int .i64 (q : Nat)] W fun e w' => e = .returned (.tuple #[.agg (mcells (nextM m l s q now)), .bool (fromB (prodT now m l sN s) (0 * s + q))]) ∧ Below W.heap.size W w'))
        have hnc := hid (fun q hq => next_cases m l s q hq g)
        have hcon := hid (fun W base v A p sp => l07Listed_any W base v A p l sp)
        have hdN := hid (fun j (A : List Mach) (h : dfN m l s j = some A) => dfN_fac g h)
        have hdI := hid (fun (A B : List Mach) i (hG : GL l A) (hi : i ≤ A.length) (h : dfI m l s A i = some B) => dfI_fac g hG hi h)
        have hdQ := hid (fun (k : Mach) (sk : Nat) (gk : Good k l sk) (B C : List Mach) q (hG : GL l B) (hq : q ≤ s) (h : dfQ m l s k B q = some C) => dfQ_fac g gk hG hq h)
        have hfail := hid (fun (j i q : Nat) (A B C : List Mach) (hj : j < n) (hA : dfN m l s j = some A) (hi : i < A.length) (hB : dfI m l s A i = some B) (hq : q < s) (hC : dfQ m l s (A.getD i (trivM l)) B q = some C) h => dif_fail g hn16 hp hj hA hi hB hq hC h)
        have hdone := hid (fun (A : List Mach) (h : dfN m l s n = some A) => difAns_s g hn16 hp h)
        have hj300 := hid (fun j (h : j ≤ n) => Nat.le_trans (Nat.pow_le_pow_right (by omega : 0 < s) h) hp)
        have hz2 := hid (fun L W (h : St w.heap.size w L W) => h.newMB ⟨0, 0, fun _ => 0, fun _ => 0⟩ 27)
        have hp2 := hid hp
        generalize difAns m n = ans at *
        replace hk := hid hk; replace hm := hid hm; replace g := hid g
        clear hn hps h8
        generalize s ^ n = sn at *
        go_enter Try.func76, Try.ntmps76
        go_upto_region 5 with (first
          | ((with_reducible refine gate (N := 13) rfl ?_); refine load_mach rfl _ rfl w.heap.size rfl m hS.out.m0 ?_)
          | (go_at_call 80; (with_reducible refine (him.out _).mono ?_); rintro e w1 ⟨rfl, hb⟩; replace hS := hid (hS.out.call hb); have cS := hS.out.m0.cS; rw [gS.out] at cS; have cL := hS.out.m0.cL; rw [gL.out] at cL; clear hb)
          | (go_at_call 91; (with_reducible refine (l01In_any _ _ _ true hw.out _).mono ?_); rintro e w' ⟨rfl, rfl⟩)
          | (go_at_call 178; (with_reducible refine (hpw.out _).mono ?_); rintro e w' ⟨r, rfl, hr, rfl⟩; have dp : decide ((300 : Int) < (r : Int)) = false := decide_eq_false (by have := hp2.out; omega); clear hr))
        go_upto_region 6 with (first
          | (go_at_call 172; (with_reducible refine (htr.out _).mono ?_); rintro e w2 ⟨rfl, hb⟩; replace hS := hid ((hS.out.call hb).newM1 (trivM l)); clear hb)
          | ((with_reducible refine gate (N := 30) rfl ?_); refine step_bsM rfl _ rfl (trivM l) rfl ?_))
        clear cS cL
        generalize w2.heap.size = g6 at *
        go_wp2
        go_loopw [1, 6] (fun a v wr => ∃ (j : Nat) (A : List Mach), j ≤ n ∧ a = .int .i64 ((n - j : Nat) : Int) ∧ Hid (dfN m l s j = some A) ∧ St w.heap.size w [Asn.ownN w.heap.size 27 98 v A.length (mfl A), Asn.mb 27 w.heap.size m] wr) (fun a _ _ => (intOf a).toNat)
        case atStart => exact ⟨0, [trivM l], Nat.zero_le _, rfl, hid rfl, hS.out⟩
        case round =>
          obtain ⟨j, A, hj, rfl, hA, rS⟩ := hrel
          clear hS
          obtain ⟨P, cap, rfl, hP⟩ := rS.n0.form2
          replace hP := hid hP
          obtain ⟨hAl, hAG⟩ := hdN.out _ _ hA.out
          have h300 := hj300.out j hj
          by_cases hlt : j < n
          · have dj : decide ((0 : Int) < ((n - j : Nat) : Int)) = true := decide_eq_true (by omega)
            have dj2 : decide (0 < n - j) = true := decide_eq_true (by omega)
            have e2 : IntKind.i64.wrap (((n - j : Nat) : Int) - 1) = ((n - (j + 1) : Nat) : Int) := by rw [show ((n - j : Nat) : Int) - 1 = ((n - (j + 1) : Nat) : Int) by omega]; exact IntWalk.i64_in _ (by omega)
            have rS1 := hid (rS.newN 27 98)
            clear rS
            go_wp2
            go_loopw [7, 8] (fun v i wr => ∃ (i' : Nat) (B : List Mach), i' ≤ A.length ∧ i = .int .i64 i' ∧ Hid (dfI m l s A i' = some B) ∧ St w.heap.size w [Asn.ownN w.heap.size 27 98 v B.length (mfl B), Asn.ownN w.heap.size 27 98 (.slice P A.length cap) A.length (mfl A), Asn.mb 27 w.heap.size m] wr) (fun _ i _ => A.length - (intOf i).toNat)
            case atStart => exact ⟨0, [], Nat.zero_le _, rfl, hid rfl, rS1.out⟩
            case round =>
              obtain ⟨i, B, hi, rfl, hB, iS⟩ := hrel
              clear rS1
              obtain ⟨hBl, hBG⟩ := hdI.out _ _ _ hAG hi hB.out
              have hBl2 : B.length ≤ 4800 := Nat.le_trans hBl (Nat.mul_le_mul (show i ≤ 300 by omega) (show s ≤ 16 by omega))
              by_cases hlti : i < A.length
              · have di : decide ((i : Int) < (A.length : Int)) = true := decide_eq_true (by omega)
                have i0 : (0 : Int) ≤ (i : Int) := Int.natCast_nonneg _
                have i1 : (i : Int) < (A.length : Int) := by omega
                obtain ⟨ga, rfl⟩ := hP.out (by omega)
                obtain ⟨k, hk1, hk2, hkk, sk, gk⟩ := hAG.at hlti (trivM l)
                have iS1 := hid iS
                clear iS
                have hf2 := hid (fun (q : Nat) (C : List Mach) (hq : q < s) (hC : dfQ m l s k B q = some C) (h : nextC m l s q k = 3) => hfail.out _ _ _ _ _ _ hlt hA.out hlti hB.out hq (by rw [hk2]; exact hC) (by rw [hk2]; exact h))
                have hst := hid (fun (C : List Mach) (hC : dfQ m l s k B s = some C) => dfI_step hB.out (by rw [hk2]; exact hC))
                have hT := hid (fun (D : Asn) L W (h : St w.heap.size w (D :: Asn.ownN w.heap.size 27 98 (.slice (some ⟨ga, 0, none⟩) A.length cap) A.length (mfl A) :: Asn.mb 27 w.heap.size m :: L) W) => (show MO W ga (i * 98) k ∧ MB W 27 w.heap.size m from ⟨h.n1.mo hk1, h.m2⟩))
                have hT2 := hid (fun (D E : Asn) L W (h : St w.heap.size w (D :: E :: Asn.ownN w.heap.size 27 98 (.slice (some ⟨ga, 0, none⟩) A.length cap) A.length (mfl A) :: Asn.mb 27 w.heap.size m :: L) W) => (show MO W ga (i * 98) k ∧ MB W 27 w.heap.size m from ⟨h.n2.mo hk1, h.m3⟩))
                replace hBG := hid hBG
                clear hk1 hk2 hB
                go_wp2
                go_loopw [7, 9, 10, 11] (fun v q _ _ wr => ∃ (q' : Nat) (C : List Mach), q' ≤ s ∧ q = .int .i64 q' ∧ Hid (dfQ m l s k B q' = some C) ∧ St w.heap.size w [Asn.ownN w.heap.size 27 98 v C.length (mfl C), Asn.ownN w.heap.size 27 98 (.slice (some ⟨ga, 0, none⟩) A.length cap) A.length (mfl A), Asn.mb 27 w.heap.size m] wr) (fun _ q _ _ _ => s - (intOf q).toNat)
                case atStart => exact ⟨0, B, Nat.zero_le _, rfl, hid rfl, iS1.out⟩
                case round =>
                  obtain ⟨q, C, hq, rfl, hC, qS⟩ := hrel
                  clear iS1
                  obtain ⟨hCl, hCG⟩ := hdQ.out k sk gk _ _ _ hBG.out hq hC.out
                  have cS := qS.m2.cS
                  rw [gS.out] at cS
                  replace qS := hid qS
                  by_cases hltq : q < s
                  · have dq : decide ((q : Int) < (s : Int)) = true := decide_eq_true (by omega)
                    have hpn := hid (fun W => hpr.out W k sk gk q hltq)
                    have hcs := hid (hnc.out q hltq k sk gk)
                    have hf3 := hid (fun h => hf2.out _ _ hltq hC.out h)
                    have hstp := hid (fun h => dfQ_step hC.out (q := q) h)
                    generalize fromB (prodT k m l sk s) (0 * s + q) = b at *
                    generalize nextC m l s q k = nc at *
                    generalize nextM m l s q k = nx at *
                    have hcn := hid (fun W v s2 k2 g2 (hO : OwnN W w.heap.size 27 98 v C.length (mfl C)) => hcon.out W w.heap.size v C nx s2 hO hCG k2 g2 (by omega))
                    go_upto_region 15 with (fail)
                    clear cS
                    replace qS := hid qS.out.drew
                    refine wp_region_heldL (L := [(6, (fun w' : World => MO w' ga (i * 98) k ∧ MB w' 27 w.heap.size m))]) (by kernel_rfl) (HeldL.cons (fun _ => hT.out _ _ _ qS.out) HeldL.nil) (fun hHeld => ?_)
                    generalize World.drew _ = W at *
                    refine wpAnyL_take0 (i := 0) (v := ?_) rfl (by kernel_rfl) (by kernel_rfl) (by kernel_rfl) (by rfl) (fun _ _ _ h => h) (Or.inl ⟨by rfl, ?_⟩) (by assumption) ?_
                    rotate_left
                    · (intro W _; go_simp; (with_reducible rfl))
                    intro hHeld'
                    clear hHeld; have hHeld := hHeld'; clear hHeld'
                    try simp only [Act.put, List.getElem_toArray, List.getElem_cons_succ, List.getElem_cons_zero, List.setIfInBounds_toArray, List.set_cons_zero, List.set_cons_succ]
                    refine wpAnyL_take0 (i := 1) (v := ?_) rfl (by kernel_rfl) (by kernel_rfl) (by kernel_rfl) (by rfl) (fun _ _ _ h => h) (Or.inl ⟨by rfl, ?_⟩) (by assumption) ?_
                    rotate_left
                    · (intro W _; go_simp; (with_reducible rfl))
                    intro hHeld'
                    clear hHeld; have hHeld := hHeld'; clear hHeld'
                    try simp only [Act.put, List.getElem_toArray, List.getElem_cons_succ, List.getElem_cons_zero, List.setIfInBounds_toArray, List.set_cons_zero, List.set_cons_succ]
                    refine wpAnyL_take0 (i := 2) (v := ?_) rfl (by kernel_rfl) (by kernel_rfl) (by kernel_rfl) (by rfl) (fun _ _ _ h => h) (Or.inl ⟨by rfl, ?_⟩) (by assumption) ?_
                    rotate_left
                    · (intro W _; go_simp; (with_reducible rfl))
                    intro hHeld'
                    clear hHeld; have hHeld := hHeld'; clear hHeld'
                    try simp only [Act.put, List.getElem_toArray, List.getElem_cons_succ, List.getElem_cons_zero, List.setIfInBounds_toArray, List.set_cons_zero, List.set_cons_succ]
                    refine wpAnyL_takeP (i := 3) 6 [] (v := (.agg (mcells k))) (fun w' : World => MO w' ga (i * 98) k ∧ MB w' 27 w.heap.size m) rfl (by kernel_rfl) (by kernel_rfl) (by kernel_rfl) (by rfl) (by kernel_rfl) (by simp) (fun _ _ _ h => h) (Or.inl ⟨by rfl, ?_⟩) (by assumption) ?_
                    · (intro W hW; exact exec_load _ rfl rfl (load_mo hW.1))
                    intro hHeld'
                    clear hHeld; have hHeld := hHeld'; clear hHeld'
                    try simp only [Act.put, List.getElem_toArray, List.getElem_cons_succ, List.getElem_cons_zero, List.setIfInBounds_toArray, List.set_cons_zero, List.set_cons_succ]
                    refine wpAnyL_takeP (i := 4) 6 [] (v := (.agg (mcells m))) (fun w' : World => MO w' ga (i * 98) k ∧ MB w' 27 w.heap.size m) rfl (by kernel_rfl) (by kernel_rfl) (by kernel_rfl) (by rfl) (by kernel_rfl) (by simp) (fun _ _ _ h => h) (Or.inl ⟨by rfl, ?_⟩) (by assumption) ?_
                    · (intro W hW; exact exec_load _ rfl rfl (load_run hW.2))
                    intro hHeld'
                    clear hHeld; have hHeld := hHeld'; clear hHeld'
                    try simp only [Act.put, List.getElem_toArray, List.getElem_cons_succ, List.getElem_cons_zero, List.setIfInBounds_toArray, List.set_cons_zero, List.set_cons_succ]
                    refine wpAnyL_take0 (i := 5) (v := ?_) rfl (by kernel_rfl) (by kernel_rfl) (by kernel_rfl) (by rfl) (fun _ _ _ h => h) (Or.inl ⟨by rfl, ?_⟩) (by assumption) ?_
                    rotate_left
                    · (intro W _; go_simp; (with_reducible rfl))
                    intro hHeld'
                    clear hHeld; have hHeld := hHeld'; clear hHeld'
                    try simp only [Act.put, List.getElem_toArray, List.getElem_cons_succ, List.getElem_cons_zero, List.setIfInBounds_toArray, List.set_cons_zero, List.set_cons_succ]
                    refine wpAnyL_ready (rs := [6, 10]) (by kernel_rfl) (by simp) ?_
                    refine AllReadyL.cons rfl (fun K hK => ?_) ?_
                    go_simp
                    (with_reducible refine (hpn.out _).mono ?_)
                    rintro e W2 ⟨rfl, hb⟩
                    replace qS := hid (qS.out.call hb)
                    clear hb
                    go_simp
                    refine hK.out _ _ (HeldL.cons (fun h => absurd h (by decide +kernel)) HeldL.nil) (fun hHeld' => ?_)
                    clear hK K hHeld; have hHeld := hHeld'; clear hHeld'
                    try simp only [Act.put, List.getElem_toArray, List.getElem_cons_succ, List.getElem_cons_zero, List.setIfInBounds_toArray, List.set_cons_zero, List.set_cons_succ]
                    refine wpAnyL_take0 (i := 7) (v := ?_) rfl (by kernel_rfl) (by kernel_rfl) (by kernel_rfl) (by rfl) (fun _ _ _ h => h) (Or.inl ⟨by rfl, ?_⟩) (by assumption) ?_
                    rotate_left
                    · (intro W _; go_simp; (with_reducible rfl))
                    intro hHeld'
                    clear hHeld; have hHeld := hHeld'; clear hHeld'
                    try simp only [Act.put, List.getElem_toArray, List.getElem_cons_succ, List.getElem_cons_zero, List.setIfInBounds_toArray, List.set_cons_zero, List.set_cons_succ]
                    refine wpAnyL_take0 (i := 8) (v := ?_) rfl (by kernel_rfl) (by kernel_rfl) (by kernel_rfl) (by rfl) (fun _ _ _ h => h) (Or.inl ⟨by rfl, ?_⟩) (by assumption) ?_
                    rotate_left
                    · (intro W _; go_simp; (with_reducible rfl))
                    intro hHeld'
                    clear hHeld; have hHeld := hHeld'; clear hHeld'
                    try simp only [Act.put, List.getElem_toArray, List.getElem_cons_succ, List.getElem_cons_zero, List.setIfInBounds_toArray, List.set_cons_zero, List.set_cons_succ]
                    refine wpAnyL_take0 (i := 9) (v := ?_) rfl (by kernel_rfl) (by kernel_rfl) (by kernel_rfl) (by rfl) (fun _ _ _ h => h) (Or.inl ⟨by rfl, ?_⟩) (by assumption) ?_
                    rotate_left
                    · (intro W _; go_simp; (with_reducible rfl))
                    intro hHeld'
                    clear hHeld; have hHeld := hHeld'; clear hHeld'
                    try simp only [Act.put, List.getElem_toArray, List.getElem_cons_succ, List.getElem_cons_zero, List.setIfInBounds_toArray, List.set_cons_zero, List.set_cons_succ]
                    refine wpAnyL_ready (rs := [10]) (by kernel_rfl) (by simp) ?_
                    refine AllReadyL.cons rfl (fun K hK => ?_) AllReadyL.nil
                    go_simp
                    have hD := hid qS.out.le
                    replace qS := hid (hz2.out _ _ qS.out)
                    generalize W2.heap.size = b10 at *
                    generalize World.alloc W2 _ = W3 at *
                    refine hK.out _ _ (HeldL.cons (fun h => absurd h (by decide +kernel)) HeldL.nil) (fun hHeld' => ?_)
                    clear hK K hHeld; have hHeld := hHeld'; clear hHeld'
                    try simp only [Act.put, List.getElem_toArray, List.getElem_cons_succ, List.getElem_cons_zero, List.setIfInBounds_toArray, List.set_cons_zero, List.set_cons_succ]
                    change wpAnyL _ _ _ _ _ _ #[true, true, true, true, true, true, true, true, true, true, true, false, false] _ _
                    revert hHeld
                    revert qS
                    revert hD
                    revert b10
                    revert W3
                    clear W2 W
                    refine ?nJ
                    rotate_left
                    refine AllReadyL.cons rfl (fun K hK => ?_) AllReadyL.nil
                    go_simp
                    have hD := hid qS.out.le
                    replace qS := hid (hz2.out _ _ qS.out)
                    generalize W.heap.size = b10 at *
                    generalize World.alloc W _ = W2 at *
                    refine hK.out _ _ (HeldL.cons (fun _ => hT2.out _ _ _ _ qS.out) HeldL.nil) (fun hHeld' => ?_)
                    clear hK K hHeld; have hHeld := hHeld'; clear hHeld'
                    try simp only [Act.put, List.getElem_toArray, List.getElem_cons_succ, List.getElem_cons_zero, List.setIfInBounds_toArray, List.set_cons_zero, List.set_cons_succ]
                    refine wpAnyL_ready (rs := [6]) (by kernel_rfl) (by simp) ?_
                    refine AllReadyL.cons rfl (fun K hK => ?_) AllReadyL.nil
                    go_simp
                    (with_reducible refine (hpn.out _).mono ?_)
                    rintro e W3 ⟨rfl, hb⟩
                    replace qS := hid (qS.out.call hb)
                    clear hb
                    go_simp
                    refine hK.out _ _ (HeldL.cons (fun h => absurd h (by decide +kernel)) HeldL.nil) (fun hHeld' => ?_)
                    clear hK K hHeld; have hHeld := hHeld'; clear hHeld'
                    try simp only [Act.put, List.getElem_toArray, List.getElem_cons_succ, List.getElem_cons_zero, List.setIfInBounds_toArray, List.set_cons_zero, List.set_cons_succ]
                    refine wpAnyL_take0 (i := 7) (v := ?_) rfl (by kernel_rfl) (by kernel_rfl) (by kernel_rfl) (by rfl) (fun _ _ _ h => h) (Or.inl ⟨by rfl, ?_⟩) (by assumption) ?_
                    rotate_left
                    · (intro W _; go_simp; (with_reducible rfl))
                    intro hHeld'
                    clear hHeld; have hHeld := hHeld'; clear hHeld'
                    try simp only [Act.put, List.getElem_toArray, List.getElem_cons_succ, List.getElem_cons_zero, List.setIfInBounds_toArray, List.set_cons_zero, List.set_cons_succ]
                    refine wpAnyL_take0 (i := 8) (v := ?_) rfl (by kernel_rfl) (by kernel_rfl) (by kernel_rfl) (by rfl) (fun _ _ _ h => h) (Or.inl ⟨by rfl, ?_⟩) (by assumption) ?_
                    rotate_left
                    · (intro W _; go_simp; (with_reducible rfl))
                    intro hHeld'
                    clear hHeld; have hHeld := hHeld'; clear hHeld'
                    try simp only [Act.put, List.getElem_toArray, List.getElem_cons_succ, List.getElem_cons_zero, List.setIfInBounds_toArray, List.set_cons_zero, List.set_cons_succ]
                    refine wpAnyL_take0 (i := 9) (v := ?_) rfl (by kernel_rfl) (by kernel_rfl) (by kernel_rfl) (by rfl) (fun _ _ _ h => h) (Or.inl ⟨by rfl, ?_⟩) (by assumption) ?_
                    rotate_left
                    · (intro W _; go_simp; (with_reducible rfl))
                    intro hHeld'
                    clear hHeld; have hHeld := hHeld'; clear hHeld'
                    try simp only [Act.put, List.getElem_toArray, List.getElem_cons_succ, List.getElem_cons_zero, List.setIfInBounds_toArray, List.set_cons_zero, List.set_cons_succ]
                    change wpAnyL _ _ _ _ _ _ #[true, true, true, true, true, true, true, true, true, true, true, false, false] _ _
                    revert hHeld
                    revert qS
                    revert hD
                    revert b10
                    revert W3
                    clear W2 W
                    exact ?nJ
                    intro W3 b10 hD qS hHeld
                    refine wpAnyL_ready (rs := [11]) (by kernel_rfl) (by simp) ?_
                    refine AllReadyL.cons rfl (fun K hK => ?_) AllReadyL.nil
                    refine step_store_mach rfl _ _ rfl b10 rfl nx rfl _ _ qS.out.m0 ?_
                    intro W9 p2 ho hbl
                    replace qS := hid (qS.out.setM hD.out p2 ho hbl)
                    clear p2 ho hbl
                    refine hK.out _ _ (HeldL.cons (fun h => absurd h (by decide +kernel)) HeldL.nil) (fun hHeld' => ?_)
                    clear hK K hHeld; have hHeld := hHeld'; clear hHeld'
                    try simp only [Act.put, List.getElem_toArray, List.getElem_cons_succ, List.getElem_cons_zero, List.setIfInBounds_toArray, List.set_cons_zero, List.set_cons_succ]
                    refine wpAnyL_take0 (i := 12) (v := ?_) rfl (by kernel_rfl) (by kernel_rfl) (by kernel_rfl) (by rfl) (fun _ _ _ h => h) (Or.inl ⟨by rfl, ?_⟩) (by assumption) ?_
                    rotate_left
                    · (intro W _; go_simp; (with_reducible rfl))
                    intro hHeld'
                    clear hHeld; have hHeld := hHeld'; clear hHeld'
                    try simp only [Act.put, List.getElem_toArray, List.getElem_cons_succ, List.getElem_cons_zero, List.setIfInBounds_toArray, List.set_cons_zero, List.set_cons_succ]
                    refine wpAnyL_done (by kernel_rfl) ?_ _
                    rcases hcs.out with ⟨h3, hb⟩ | ⟨h0, hb, s2, g2, k2⟩
                    · have hA3 := hid (hf3.out h3)
                      clear hf3 hstp h3 hcs
                      subst hb
                      go_wp2
                      go_ret2
                      exact ⟨by first | (rw [hA3.out]; done) | (rw [hA3.out]; rfl), qS.out.bel⟩
                    · have hst2 := hid (hstp.out h0)
                      have hc2 := hid (fun W v hO => hcn.out W v s2 k2 g2 hO)
                      clear hf3 hstp h0 hcs hcn g2 k2
                      subst hb
                      generalize hasB C nx = b at *
                      cases b with
                      | true =>
                        have hs2 := hid (by have h := hst2.out; simpa using h : dfQ m l s k B (q + 1) = some C)
                        go_wp2_with (first
                          | ((with_reducible refine gate (N := 61) rfl ?_); refine load_mach rfl _ rfl b10 rfl nx qS.out.m0 ?_)
                          | (go_at_call 179; (with_reducible refine (hc2.out _ _ qS.out.n1).mono ?_); rintro e w5 ⟨rfl, hb⟩; replace qS := hid (qS.out.call hb).drop; clear hb))
                        go_roundw
                        case rel => exact ⟨q + 1, C, by omega, by go_num, hs2, qS.out⟩
                        case measure => simp [intOf]; omega
                      | false =>
                        have hs2 := hid (by have h := hst2.out; simpa using h : dfQ m l s k B (q + 1) = some (C ++ [nx]))
                        have hCl2 : C.length ≤ 1000000 := by omega
                        go_wp2_with (first
                          | ((with_reducible refine gate (N := 61) rfl ?_); refine load_mach rfl _ rfl b10 rfl nx qS.out.m0 ?_)
                          | (go_at_call 179; (with_reducible refine (hc2.out _ _ qS.out.n1).mono ?_); rintro e w5 ⟨rfl, hb⟩; replace qS := hid (qS.out.call hb).f1; clear hb)
                          | ((with_reducible refine gate (N := 65) rfl ?_); refine load_mach rfl _ rfl b10 rfl nx qS.out.m1 ?_)
                          | ((with_reducible refine gate (N := 66) rfl ?_); refine step_bsM rfl _ rfl nx rfl ?_)
                          | ((with_reducible refine gate (N := 67) rfl ?_); refine St.appMc rfl _ _ rfl _ C rfl qS.out nx rfl hCl2 ?_; intro gn cn w6 qS'; replace qS := hid qS'.f1.drop; clear qS'))
                        go_roundw
                        case rel => exact ⟨q + 1, C ++ [nx], by omega, by go_num, hs2, by first | exact qS.out | simpa using qS.out⟩
                        case measure => simp [intOf]; omega
                  · obtain rfl : q = s := by omega
                    have dq : decide ((q : Int) < (q : Int)) = false := decide_eq_false (by omega)
                    have hs3 := hid (hst.out _ hC.out)
                    go_wp2
                    go_roundw
                    case rel => exact ⟨i + 1, C, by omega, by go_num, hs3, qS.out⟩
                    case measure => simp [intOf]; omega
              · obtain rfl : i = A.length := by omega
                have di : decide ((A.length : Int) < (A.length : Int)) = false := decide_eq_false (by omega)
                have hs3 := hid (dfN_step hA.out hB.out)
                replace iS := hid iS.f1.drop
                go_wp2
                go_roundw
                case rel => exact ⟨j + 1, B, by omega, rfl, hs3, iS.out⟩
                case measure => simp [intOf]; omega
          · obtain rfl : j = n := by omega
            have dj : decide ((0 : Int) < ((j - j : Nat) : Int)) = false := decide_eq_false (by omega)
            have hA3 := hid (hdone.out _ hA.out)
            replace rS := hid rS
            go_wp2
            go_ret2
            exact ⟨by first | (rw [hA3.out]; done) | (rw [hA3.out]; rfl), rS.out.bel⟩
      · rw [difAns_2 g (show ¬ (0 ≤ (n : Int) ∧ (n : Int) ≤ 16 ∧ s ^ (n : Int).toNat ≤ 300) from fun h => hp h.2.2)]
        have hp2 := hid hp
        replace hk := hid hk; replace hm := hid hm; replace g := hid g
        clear hn hps h8 hp
        generalize s ^ n = sn at *
        go_enter Try.func76, Try.ntmps76
        go_wp2_with (first
          | ((with_reducible refine gate (N := 13) rfl ?_); refine load_mach rfl _ rfl w.heap.size rfl m hS.out.m0 ?_)
          | (go_at_call 80; (with_reducible refine (him.out _).mono ?_); rintro e w1 ⟨rfl, hb⟩; replace hS := hid (hS.out.call hb); have cS := hS.out.m0.cS; rw [gS.out] at cS; have cL := hS.out.m0.cL; rw [gL.out] at cL; clear hb)
          | (go_at_call 91; (with_reducible refine (l01In_any _ _ _ true hw.out _).mono ?_); rintro e w' ⟨rfl, rfl⟩)
          | (go_at_call 178; (with_reducible refine (hpw.out _).mono ?_); rintro e w' ⟨r, rfl, hr, rfl⟩; have dp : decide ((300 : Int) < (r : Int)) = true := decide_eq_true (by have := hp2.out; omega); clear hr))
        go_ret2
        exact ⟨rfl, hS.out.bel⟩
    · rw [difAns_2 g (fun h => hn ⟨h.1, h.2.1⟩)]
      have hw := hid (show false = decide (0 ≤ n ∧ n ≤ 16) from (decide_eq_false hn).symm)
      replace hk := hid hk; replace hm := hid hm; replace g := hid g
      clear hn h8
      go_enter Try.func76, Try.ntmps76
      go_wp2_with (first
        | ((with_reducible refine gate (N := 13) rfl ?_); refine load_mach rfl _ rfl w.heap.size rfl m hS.out.m0 ?_)
        | (go_at_call 80; (with_reducible refine (him.out _).mono ?_); rintro e w1 ⟨rfl, hb⟩; replace hS := hid (hS.out.call hb); clear hb)
        | (go_at_call 91; (with_reducible refine (l01In_any _ _ _ false hw.out _).mono ?_); rintro e w' ⟨rfl, rfl⟩))
      go_ret2
      exact ⟨rfl, hS.out.bel⟩
  · rw [difAns_1 hm]
    have him := hid (fun W => l01Is_any W m hk false (iff_of_false (by decide) hm))
    replace hk := hid hk
    clear hm h8
    go_enter Try.func76, Try.ntmps76
    go_wp2_with (first
      | ((with_reducible refine gate (N := 13) rfl ?_); refine load_mach rfl _ rfl w.heap.size rfl m hS.out.m0 ?_)
      | (go_at_call 80; (with_reducible refine (him.out _).mono ?_); rintro e w1 ⟨rfl, hb⟩; replace hS := hid (hS.out.call hb); clear hb))
    go_ret2
    exact ⟨rfl, hS.out.bel⟩
end Go.Proofs.Ytbmkkaecfogmoaa

/- Draws of FnDuals. -/
namespace Go.Proofs.Ytbmkkaecfogmoaa
open Go.RowKit
set_option linter.unusedVariables false
set_option linter.unusedSimpArgs false
-- @LONG

set_option maxHeartbeats 2000000 in
set_option maxRecDepth 100000 in
theorem drObp_any (w : World) (v : Value) (l : List Nat) (hv : ArgB w v l) (hl : l.length ≤ 4096) :
    Calls Try.prog 70 #[v] w fun e w' => ∃ (m : Mach) (q n : Int), e = .returned (.tuple #[.agg (mcells m), .int .i64 q, .int .i64 n]) ∧ Hid (Low8 m) ∧ Below w.heap.size w w' := by
  have hz := zeroM_run
  have hS := hid ((St.start w).newMB zeroM 27)
  have hfr := hid (fun W L hW => Dg.from (w := w) (W := W) (L := L) hv hl hW)
  have hz2 := hid (fun L W (h : St w.heap.size w L W) => h.newMB zeroM 27)
  replace hv := hid hv
  obtain ⟨A, c, rfl, _⟩ := hv.out
  go_enter Try.func70, Try.ntmps70
  go_upto_region 3 with (first
    | (go_at_call 78; (with_reducible refine (hfr.out _ _ hS.out).mono ?_); rintro e w1 ⟨S, rfl, D, hS'⟩; replace hS := hid hS'; clear hS')
    | (go_at_call 77; (with_reducible refine (D.out.spoil hS.out).mono ?_); rintro e w2 ⟨M, rfl, hM, hS'⟩; have hle := hid hS'.le; replace hS := hid (hz2.out _ _ hS'); clear hS')
    | ((with_reducible refine gateOp (op := .store 27 (.tmp 6) (.tmp 10)) rfl ?_); refine store_mach rfl _ _ rfl w2.heap.size rfl M rfl 27 _ hS.out.m0 ?_; intro w4 p3 ho hsz hbl; replace hS := hid (hS.out.setM hle.out p3 ho hbl); clear p3 ho hsz hbl))
  generalize w2.heap.size = b6 at *
  replace hS := hid hS.out.drew
  refine wp_region_heldL (L := [(10, (fun w' : World => MB w' 27 b6 M))]) (by kernel_rfl) (HeldL.cons (fun _ => hS.out.m0) HeldL.nil) (fun hHeld => ?_)
  generalize World.drew w4 = wa at *
  refine wpAnyL_takeP (i := 0) 10 [] (v := (.agg (mcells M))) (fun w' : World => MB w' 27 b6 M) rfl (by kernel_rfl) (by kernel_rfl) (by kernel_rfl) (by rfl) (by kernel_rfl) (by simp) (fun _ _ _ h => h) (Or.inl ⟨by rfl, ?_⟩) (by assumption) ?_
  · (intro W hW; exact exec_load _ rfl rfl (load_run hW))
  intro hHeld'
  clear hHeld; have hHeld := hHeld'; clear hHeld'
  try simp only [Act.put, List.getElem_toArray, List.getElem_cons_succ, List.getElem_cons_zero, List.setIfInBounds_toArray, List.set_cons_zero, List.set_cons_succ]
  refine wpAnyL_take0 (i := 1) (v := ?_) rfl (by kernel_rfl) (by kernel_rfl) (by kernel_rfl) (by rfl) (fun _ _ _ h => h) (Or.inl ⟨by rfl, ?_⟩) (by assumption) ?_
  rotate_left
  · (intro W _; go_simp; (with_reducible rfl))
  intro hHeld'
  clear hHeld; have hHeld := hHeld'; clear hHeld'
  try simp only [Act.put, List.getElem_toArray, List.getElem_cons_succ, List.getElem_cons_zero, List.setIfInBounds_toArray, List.set_cons_zero, List.set_cons_succ]
  refine wpAnyL_takeP (i := 2) 10 [9, 6, 3] (v := (.agg (mcells M))) (fun w' : World => MB w' 27 b6 M) rfl (by kernel_rfl) (by kernel_rfl) (by kernel_rfl) (by rfl) (by kernel_rfl) (by simp) (fun _ _ _ h => h) (Or.inl ⟨by rfl, ?_⟩) (by assumption) ?_
  · (intro W hW; exact exec_load _ rfl rfl (load_run hW))
  intro hHeld'
  clear hHeld; have hHeld := hHeld'; clear hHeld'
  try simp only [Act.put, List.getElem_toArray, List.getElem_cons_succ, List.getElem_cons_zero, List.setIfInBounds_toArray, List.set_cons_zero, List.set_cons_succ]
  refine wpAnyL_take0 (i := 4) (v := ?_) rfl (by kernel_rfl) (by kernel_rfl) (by kernel_rfl) (by rfl) (fun _ _ _ h => h) (Or.inl ⟨by rfl, ?_⟩) (by assumption) ?_
  rotate_left
  · (intro W _; go_simp; (with_reducible rfl))
  intro hHeld'
  clear hHeld; have hHeld := hHeld'; clear hHeld'
  try simp only [Act.put, List.getElem_toArray, List.getElem_cons_succ, List.getElem_cons_zero, List.setIfInBounds_toArray, List.set_cons_zero, List.set_cons_succ]
  refine wpAnyL_take0 (i := 5) (v := ?_) rfl (by kernel_rfl) (by kernel_rfl) (by kernel_rfl) (by rfl) (fun _ _ _ h => h) (Or.inl ⟨by rfl, ?_⟩) (by assumption) ?_
  rotate_left
  · (intro W _; go_simp; (with_reducible rfl))
  intro hHeld'
  clear hHeld; have hHeld := hHeld'; clear hHeld'
  try simp only [Act.put, List.getElem_toArray, List.getElem_cons_succ, List.getElem_cons_zero, List.setIfInBounds_toArray, List.set_cons_zero, List.set_cons_succ]
  refine wpAnyL_ready (rs := [3]) (by kernel_rfl) (by simp) ?_
  refine AllReadyL.cons rfl (fun K hK => ?_) AllReadyL.nil
  go_simp
  replace hS := hid hS.out.f1
  (with_reducible refine (D.out.state M hS.out).mono ?_)
  rintro e w5 ⟨k, rfl, hk, hS'⟩
  replace hS := hid hS'
  clear hS'
  go_simp
  refine hK.out _ _ (HeldL.cons (fun _ => hS.out.m1) HeldL.nil) (fun hHeld' => ?_)
  clear hK K hHeld; have hHeld := hHeld'; clear hHeld'
  try simp only [Act.put, List.getElem_toArray, List.getElem_cons_succ, List.getElem_cons_zero, List.setIfInBounds_toArray, List.set_cons_zero, List.set_cons_succ]
  refine wpAnyL_ready (rs := [6]) (by kernel_rfl) (by simp) ?_
  refine AllReadyL.cons rfl (fun K hK => ?_) AllReadyL.nil
  go_simp
  (with_reducible refine (D.out.near 15 (by omega) (by omega) hS.out).mono ?_)
  rintro e w6 ⟨z, rfl, hz3, hS'⟩
  replace hS := hid hS'
  clear hS'
  go_simp
  refine hK.out _ _ (HeldL.cons (fun _ => hS.out.m1) HeldL.nil) (fun hHeld' => ?_)
  clear hK K hHeld; have hHeld := hHeld'; clear hHeld'
  try simp only [Act.put, List.getElem_toArray, List.getElem_cons_succ, List.getElem_cons_zero, List.setIfInBounds_toArray, List.set_cons_zero, List.set_cons_succ]
  have ew2 := hid (show IntKind.i64.wrap (1 + z) = 1 + z by have := hz3.out; exact IntWalk.i64_in _ (by unfold I64 at this; omega))
  refine wpAnyL_take0 (i := 7) (v := (.int .i64 (1 + z))) rfl (by kernel_rfl) (by kernel_rfl) (by kernel_rfl) (by rfl) (fun _ _ _ h => h) (Or.inl ⟨by rfl, ?_⟩) (by assumption) ?_
  · (intro W _; go_simp; exact ew2.out)
  intro hHeld'
  clear hHeld; have hHeld := hHeld'; clear hHeld'
  try simp only [Act.put, List.getElem_toArray, List.getElem_cons_succ, List.getElem_cons_zero, List.setIfInBounds_toArray, List.set_cons_zero, List.set_cons_succ]
  refine wpAnyL_ready (rs := [8]) (by kernel_rfl) (by simp) ?_
  refine AllReadyL.cons rfl (fun K hK => ?_) AllReadyL.nil
  go_simp
  have hS2 := hS.out.list [.int .i64 1, .int .i64 2, .int .i64 4, .int .i64 8, .int .i64 (1 + z)] (by simp)
  refine hK.out _ _ (HeldL.cons (fun _ => hS2.m2) HeldL.nil) (fun hHeld' => ?_)
  clear hK K hHeld; have hHeld := hHeld'; clear hHeld'
  try simp only [Act.put, List.getElem_toArray, List.getElem_cons_succ, List.getElem_cons_zero, List.setIfInBounds_toArray, List.set_cons_zero, List.set_cons_succ]
  refine wpAnyL_ready (rs := [9]) (by kernel_rfl) (by simp) ?_
  refine AllReadyL.cons rfl (fun K hK => ?_) AllReadyL.nil
  go_simp
  (with_reducible refine (D.out.pick [1, 2, 4, 8, 1 + z] (by simp) (by simp) hS2).mono ?_)
  rintro e w7 ⟨n, rfl, hn, hS'⟩
  replace hS := hid hS'
  clear hS' hS2 hn
  go_simp
  refine hK.out _ _ (HeldL.cons (fun _ => hS.out.m1) HeldL.nil) (fun hHeld' => ?_)
  clear hK K hHeld; have hHeld := hHeld'; clear hHeld'
  try simp only [Act.put, List.getElem_toArray, List.getElem_cons_succ, List.getElem_cons_zero, List.setIfInBounds_toArray, List.set_cons_zero, List.set_cons_succ]
  refine wpAnyL_ready (rs := [10]) (by kernel_rfl) (by simp) ?_
  refine AllReadyL.cons rfl (fun K hK => ?_) AllReadyL.nil
  refine step_store_mach rfl _ _ rfl _ rfl M rfl _ _ hS.out.m2 ?_
  intro W9 p2 ho hbl
  replace hS := hid (hS.out.f2.setM (Nat.le_refl _) p2 ho hbl)
  clear p2 ho hbl
  refine hK.out _ _ (HeldL.cons (fun h => absurd h (by decide +kernel)) HeldL.nil) (fun hHeld' => ?_)
  clear hK K hHeld; have hHeld := hHeld'; clear hHeld'
  try simp only [Act.put, List.getElem_toArray, List.getElem_cons_succ, List.getElem_cons_zero, List.setIfInBounds_toArray, List.set_cons_zero, List.set_cons_succ]
  refine wpAnyL_take0 (i := 11) (v := ?_) rfl (by kernel_rfl) (by kernel_rfl) (by kernel_rfl) (by rfl) (fun _ _ _ h => h) (Or.inl ⟨by rfl, ?_⟩) (by assumption) ?_
  rotate_left
  · (intro W _; go_simp; (with_reducible rfl))
  intro hHeld'
  clear hHeld; have hHeld := hHeld'; clear hHeld'
  try simp only [Act.put, List.getElem_toArray, List.getElem_cons_succ, List.getElem_cons_zero, List.setIfInBounds_toArray, List.set_cons_zero, List.set_cons_succ]
  refine wpAnyL_take0 (i := 12) (v := ?_) rfl (by kernel_rfl) (by kernel_rfl) (by kernel_rfl) (by rfl) (fun _ _ _ h => h) (Or.inl ⟨by rfl, ?_⟩) (by assumption) ?_
  rotate_left
  · (intro W _; go_simp; (with_reducible rfl))
  intro hHeld'
  clear hHeld; have hHeld := hHeld'; clear hHeld'
  try simp only [Act.put, List.getElem_toArray, List.getElem_cons_succ, List.getElem_cons_zero, List.setIfInBounds_toArray, List.set_cons_zero, List.set_cons_succ]
  refine wpAnyL_done (by kernel_rfl) ?_ _
  go_wp2
  exact ret_mvv rfl rfl rfl rfl hS.out.m0 rfl ⟨M, k, n, rfl, hM, hS.out.bel⟩
theorem ret_mv1 {fn : Func} {R : Ending → World → Prop} {a : Act} {w : World} {p q : Nat} (h : fn.results = #[.cell p 27, .tmp q]) {g t : Nat} {m : Mach} {v : Value}
    (hp : a.tmps.getD p undef = .pointer (some ⟨g, 0, none⟩)) (hq : a.tmps.getD q undef = v) (hm : MB w t g m) (hdf : a.defers = []) (hR : R (.returned (.tuple #[.agg (mcells m), v])) w) : bodyPost Try.prog fn R .ret a w := by
  refine bodyPost_ret (v := .tuple #[.agg (mcells m), v]) ?_ hdf hR
  have hp' : a.tmps[p]?.getD undef = .pointer (some ⟨g, 0, none⟩) := by simpa using hp
  have hq' : a.tmps[q]?.getD undef = v := by simpa using hq
  have e1 := run_loadVar_row (P := Try.prog) w g t 27 (mcells m) (0, 0) _ hm.heap Try.underlying27 rfl (by rw [size_mcells]; exact sz_mach)
  simp [results, h, hp', hq', asAddr, e1]
set_option maxHeartbeats 2000000 in
set_option maxRecDepth 100000 in
theorem drDif_any (w : World) (v : Value) (l : List Nat) (hv : ArgB w v l) (hl : l.length ≤ 4096) :
    Calls Try.prog 74 #[v] w fun e w' => ∃ (m : Mach) (n : Int), e = .returned (.tuple #[.agg (mcells m), .int .i64 n]) ∧ Hid (Low8 m) ∧ Below w.heap.size w w' := by
  have hz := zeroM_run
  have hS := hid ((St.start w).newMB zeroM 27)
  have hfr := hid (fun W L hW => Dg.from (w := w) (W := W) (L := L) hv hl hW)
  have hz2 := hid (fun L W (h : St w.heap.size w L W) => h.newMB zeroM 27)
  replace hv := hid hv
  obtain ⟨A, c, rfl, _⟩ := hv.out
  go_enter Try.func74, Try.ntmps74
  go_wp2_with (first
    | (go_at_call 78; (with_reducible refine (hfr.out _ _ hS.out).mono ?_); rintro e w1 ⟨S, rfl, D, hS'⟩; replace hS := hid hS'; clear hS')
    | (go_at_call 77; (with_reducible refine (D.out.spoil hS.out).mono ?_); rintro e w2 ⟨M, rfl, hM, hS'⟩; replace hS := hid hS'; clear hS')
    | (go_at_call 142; (with_reducible refine (D.out.near 16 (by omega) (by omega) hS.out).mono ?_); rintro e w3 ⟨z, rfl, hz3, hS'⟩; replace hS := hid hS'; clear hS')
    | (go_at_call 133; (have hS2 := hS.out.list [.int .i64 0, .int .i64 1, .int .i64 2, .int .i64 3, .int .i64 z] (by simp)); (with_reducible refine (D.out.pick [0, 1, 2, 3, z] (by simp) (by simp) hS2).mono ?_); rintro e w4 ⟨n, rfl, hn, hS'⟩; replace hS := hid hS'.f1; clear hS' hS2 hn)
    | ((with_reducible refine gateOp (op := .store 27 (.tmp 2) (.tmp 8)) rfl ?_); refine store_mach rfl _ _ rfl w.heap.size rfl M rfl 27 _ hS.out.m0 ?_; intro w5 p3 ho hsz hbl; replace hS := hid (hS.out.setM (Nat.le_refl _) p3 ho hbl); clear p3 ho hsz hbl))
  exact ret_mv1 rfl rfl rfl hS.out.m0 rfl ⟨M, n, rfl, hM, hS.out.bel⟩
set_option maxHeartbeats 4000000 in
set_option maxRecDepth 100000 in
theorem drDua_any (w : World) (v : Value) (l : List Nat) (hv : ArgB w v l) (hl : l.length ≤ 4096) :
    Calls Try.prog 61 #[v] w fun e w' => ∃ m : Mach, e = .returned (.agg (mcells m)) ∧ Hid (Low8 m) ∧ Below w.heap.size w w' := by
  have h23 := hid (fun (r : Int) (h : r ∈ [2, (3 : Int)]) => (show ∃ d : Nat, r = d ∧ (d = 2 ∨ d = 3) from by
    simp only [List.mem_cons, List.not_mem_nil, or_false] at h
    rcases h with rfl | rfl
    · exact ⟨2, rfl, .inl rfl⟩
    · exact ⟨3, rfl, .inr rfl⟩))
  have hz := zeroM_run
  have hS := hid ((St.start w).newMB zeroM 27)
  have hfr := hid (fun W L hW => Dg.from (w := w) (W := W) (L := L) hv hl hW)
  have hz2 := hid (fun L W (h : St w.heap.size w L W) => h.newMB zeroM 27)
  replace hv := hid hv
  obtain ⟨A, c, rfl, _⟩ := hv.out
  go_enter Try.func61, Try.ntmps61
  go_upto_region 2 with (
    (go_at_call 78; (with_reducible refine (hfr.out _ _ hS.out).mono ?_); rintro e w1 ⟨S, rfl, D, hS'⟩; replace hS := hid hS'; clear hS'))
  go_upto_region 2 with (fail)
  have hnx := hid (fun W (h : St w.heap.size w _ W) => D.out.next (L := [Asn.mb 27 w.heap.size zeroM]) 3 (by omega) h)
  have tk := hid True.intro
  go_upto_if 14 with (
    (go_at_call 132; (with_reducible refine (D.out.next 3 (by omega) hS.out).mono ?_); rintro e w2 ⟨z, rfl, hz3, hS'⟩; replace hS := hid hS'; clear hS'))
  clear hnx
  by_cases hz0 : 0 < z
  · have dz : decide ((0 : Int) < (z : Int)) = true := decide_eq_true (by omega)
    have dz2 : decide (0 < z) = true := decide_eq_true hz0
    go_upto_region 4 with (first
      | (go_at_call 133; clear tk; (have hS2 := hS.out.list [.int .i64 2, .int .i64 3] (by simp)); (with_reducible refine (D.out.pick [2, 3] (by simp) (by simp) hS2).mono ?_); rintro e w3 ⟨r, rfl, hr, hS'⟩; (obtain ⟨d, rfl, hd⟩ := h23.out r hr); replace hS := hid hS'; clear hS' hS2 hr)
      | (go_at_call 133; (have hS2 := hS.out.list [.int .i64 2, .int .i64 3] (by simp)); (with_reducible refine (D.out.pick [2, 3] (by simp) (by simp) hS2).mono ?_); rintro e w4 ⟨r, rfl, hr, hS'⟩; (obtain ⟨n, rfl, hn⟩ := h23.out r hr); replace hS := hid hS'; clear hS' hS2 hr))
    have hd23 : 2 ≤ d ∧ d ≤ 3 := by omega
    have hn23 : 2 ≤ n ∧ n ≤ 3 := by omega
    go_upto_region 5 with (first
      | (go_at_call 161; (with_reducible refine (D.out.any d n hd (by omega) hS.out).mono ?_); rintro e w5 ⟨M, rfl, hM, hS'⟩; have hle := hid hS'.le; replace hS := hid (hz2.out _ _ hS'); clear hS')
      | ((with_reducible refine gateOp (op := .store 27 (.tmp 6) (.tmp 24)) rfl ?_); refine store_mach rfl _ _ rfl w5.heap.size rfl M rfl 27 _ hS.out.m0 ?_; intro w6 p3 ho hsz hbl; replace hS := hid (hS.out.setM hle.out p3 ho hbl); clear p3 ho hsz hbl))
    generalize w5.heap.size = b6 at *
    have hct := hid (fun W => l03Count_any n hn W)
    have hc6 : 0 < cnt n ∧ cnt n ≤ 6 := by rcases hn with rfl | rfl <;> decide
    have him := hid (fun k (hk : k < cnt n) W => (by have h := l03Images_any n k hn hk W; rw [row3] at h; exact h : Calls Try.prog 140 #[.int .i64 n, .int .i64 k] W fun e w' => e = .returned (.agg #[.int .u8 (pim n k 0 : Nat), .int .u8 (pim n k 1 : Nat), .int .u8 (pim n k 2 : Nat)]) ∧ Below W.heap.size W w'))
    have hpl := hid (fun k x (hk : k < cnt n) (hx : x < 3) => pim_256 n k x hn hk hx)
    have hrow := hid (fun k x (hx : x < 3) => (show #[Value.int .u8 (pim n k 0 : Nat), .int .u8 (pim n k 1 : Nat), .int .u8 (pim n k 2 : Nat)][x]? = some (.int .u8 (pim n k x : Nat)) from by
      have : x = 0 ∨ x = 1 ∨ x = 2 := by omega
      rcases this with rfl | rfl | rfl <;> rfl))
    replace hd := hid hd; replace hn := hid hn
    generalize cnt n = C at *
    go_wp2
    go_loopw [7] (fun i wr => ∃ (x : Nat) (M : Mach), x ≤ d ∧ i = .int .i64 x ∧ Hid (MLS M d n) ∧ St w.heap.size w [Asn.mb 27 b6 M, Asn.src S (.slice A l.length c) l.length, Asn.mb 27 w.heap.size zeroM] wr) (fun i _ => d - (intOf i).toNat)
    case atStart => exact ⟨0, M, Nat.zero_le _, rfl, hM, hS.out⟩
    case round =>
      obtain ⟨x, M, hx, rfl, hM, rS⟩ := hrel
      clear hS
      by_cases hlx : x < d
      · have dx : decide ((x : Int) < (d : Int)) = true := decide_eq_true (by omega)
        have x0 : (0 : Int) ≤ (x : Int) := Int.natCast_nonneg _
        have x1 : (x : Int) < 3 := by omega
        replace rS := hid rS.f1
        go_upto_region 9 with (first
          | (go_at_call 141; (with_reducible refine (hct.out _).mono ?_); rintro e w' ⟨rfl, rfl⟩)
          | (go_at_call 132; (with_reducible refine (D.out.next _ (by omega) rS.out).mono ?_); rintro e w7 ⟨y, rfl, hy, hS'⟩; (have hy2 : y < C := by omega); replace rS := hid hS'; clear hS' hy)
          | (go_at_call 140; (with_reducible refine (him.out y hy2 _).mono ?_); rintro e w8 ⟨rfl, hb⟩; replace rS := hid (rS.out.call hb); clear hb))
        have hS2 := rS.out.newBlk #[.int .u8 (pim n y 0 : Nat), .int .u8 (pim n y 1 : Nat), .int .u8 (pim n y 2 : Nat)] 24
        have hrw := hid (hrow.out y)
        have hpz := hid (fun x hx => hpl.out y x hy2 hx)
        generalize #[Value.int .u8 (pim n y 0 : Nat), .int .u8 (pim n y 1 : Nat), .int .u8 (pim n y 2 : Nat)] = RW at *
        clear rS
        have iS := hid hS2
        clear hS2
        generalize w8.heap.size = b8 at *
        generalize World.alloc w8 _ = w9 at *
        go_wp2
        go_loopw [9] (fun i wr => ∃ (q : Nat) (M : Mach), q ≤ n ∧ i = .int .i64 q ∧ Hid (MLS M d n) ∧ St w.heap.size w [Asn.blk b8 RW 24, Asn.src S (.slice A l.length c) l.length, Asn.mb 27 b6 M, Asn.mb 27 w.heap.size zeroM] wr) (fun i _ => n - (intOf i).toNat)
        case atStart => exact ⟨0, M, Nat.zero_le _, rfl, hM, iS.out⟩
        case round =>
          obtain ⟨q, N, hq, rfl, hN, qS⟩ := hrel
          clear iS
          replace qS := hid qS
          by_cases hlq : q < n
          · have dq : decide ((q : Int) < (n : Int)) = true := decide_eq_true (by omega)
            have q0 : (0 : Int) ≤ (q : Int) := Int.natCast_nonneg _
            have q1 : (q : Int) < 3 := by omega
            have q2 : (q : Int) < 16 := by omega
            have hpv := hpz.out q (by omega)
            have hrv := hid (hrw.out q (by omega))
            generalize pim n y q = pv at *
            have hT := hid (fun L W (h : St w.heap.size w (Asn.blk b8 RW 24 :: L) W) => (show W.cell? ⟨b8, q, none⟩ = some (.int .u8 (pv : Nat)) from (cell_of_row _ _ q _ _ _ h.k0).trans hrv.out))
            go_upto_region 12 with (fail)
            replace qS := hid qS.out.drew
            refine wp_region_heldL (L := [(8, (fun w' : World => w'.cell? ⟨b8, q, none⟩ = some (.int .u8 (pv : Nat))))]) (by kernel_rfl) (HeldL.cons (fun _ => hT.out _ _ qS.out) HeldL.nil) (fun hHeld => ?_)
            generalize World.drew _ = wd at *
            refine wpAnyL_take0 (i := 0) (v := ?_) rfl (by kernel_rfl) (by kernel_rfl) (by kernel_rfl) (by rfl) (fun _ _ _ h => h) (Or.inl ⟨by rfl, ?_⟩) (by assumption) ?_
            rotate_left
            · (intro W _; go_simp; (with_reducible rfl))
            intro hHeld'
            clear hHeld; have hHeld := hHeld'; clear hHeld'
            try simp only [Act.put, List.getElem_toArray, List.getElem_cons_succ, List.getElem_cons_zero, List.setIfInBounds_toArray, List.set_cons_zero, List.set_cons_succ]
            refine wpAnyL_take0 (i := 1) (v := ?_) rfl (by kernel_rfl) (by kernel_rfl) (by kernel_rfl) (by rfl) (fun _ _ _ h => h) (Or.inl ⟨by rfl, ?_⟩) (by assumption) ?_
            rotate_left
            · (intro W _; go_simp; (with_reducible rfl))
            intro hHeld'
            clear hHeld; have hHeld := hHeld'; clear hHeld'
            try simp only [Act.put, List.getElem_toArray, List.getElem_cons_succ, List.getElem_cons_zero, List.setIfInBounds_toArray, List.set_cons_zero, List.set_cons_succ]
            refine wpAnyL_take0 (i := 2) (v := ?_) rfl (by kernel_rfl) (by kernel_rfl) (by kernel_rfl) (by rfl) (fun _ _ _ h => h) (Or.inl ⟨by rfl, ?_⟩) (by assumption) ?_
            rotate_left
            · (intro W _; go_simp; (with_reducible rfl))
            intro hHeld'
            clear hHeld; have hHeld := hHeld'; clear hHeld'
            try simp only [Act.put, List.getElem_toArray, List.getElem_cons_succ, List.getElem_cons_zero, List.setIfInBounds_toArray, List.set_cons_zero, List.set_cons_succ]
            refine wpAnyL_take0 (i := 3) (v := ?_) rfl (by kernel_rfl) (by kernel_rfl) (by kernel_rfl) (by rfl) (fun _ _ _ h => h) (Or.inl ⟨by rfl, ?_⟩) (by assumption) ?_
            rotate_left
            · (intro W _; go_simp; (with_reducible rfl))
            intro hHeld'
            clear hHeld; have hHeld := hHeld'; clear hHeld'
            try simp only [Act.put, List.getElem_toArray, List.getElem_cons_succ, List.getElem_cons_zero, List.setIfInBounds_toArray, List.set_cons_zero, List.set_cons_succ]
            refine wpAnyL_takeP (i := 4) 8 [] (v := (.int .u8 (pv : Nat))) (fun w' : World => w'.cell? ⟨b8, q, none⟩ = some (.int .u8 (pv : Nat))) rfl (by kernel_rfl) (by kernel_rfl) (by kernel_rfl) (by rfl) (by kernel_rfl) (by simp) (fun _ _ _ h => h) (Or.inl ⟨by rfl, ?_⟩) (by assumption) ?_
            · (intro W hW; go_simp)
            intro hHeld'
            clear hHeld; have hHeld := hHeld'; clear hHeld'
            try simp only [Act.put, List.getElem_toArray, List.getElem_cons_succ, List.getElem_cons_zero, List.setIfInBounds_toArray, List.set_cons_zero, List.set_cons_succ]
            refine wpAnyL_take0 (i := 5) (v := ?_) rfl (by kernel_rfl) (by kernel_rfl) (by kernel_rfl) (by rfl) (fun _ _ _ h => h) (Or.inl ⟨by rfl, ?_⟩) (by assumption) ?_
            rotate_left
            · (intro W _; go_simp; (with_reducible rfl))
            intro hHeld'
            clear hHeld; have hHeld := hHeld'; clear hHeld'
            try simp only [Act.put, List.getElem_toArray, List.getElem_cons_succ, List.getElem_cons_zero, List.setIfInBounds_toArray, List.set_cons_zero, List.set_cons_succ]
            refine wpAnyL_take0 (i := 6) (v := ?_) rfl (by kernel_rfl) (by kernel_rfl) (by kernel_rfl) (by rfl) (fun _ _ _ h => h) (Or.inl ⟨by rfl, ?_⟩) (by assumption) ?_
            rotate_left
            · (intro W _; go_simp; (with_reducible rfl))
            intro hHeld'
            clear hHeld; have hHeld := hHeld'; clear hHeld'
            try simp only [Act.put, List.getElem_toArray, List.getElem_cons_succ, List.getElem_cons_zero, List.setIfInBounds_toArray, List.set_cons_zero, List.set_cons_succ]
            refine wpAnyL_take0 (i := 7) (v := ?_) rfl (by kernel_rfl) (by kernel_rfl) (by kernel_rfl) (by rfl) (fun _ _ _ h => h) (Or.inl ⟨by rfl, ?_⟩) (by assumption) ?_
            rotate_left
            · (intro W _; go_simp; (with_reducible rfl))
            intro hHeld'
            clear hHeld; have hHeld := hHeld'; clear hHeld'
            try simp only [Act.put, List.getElem_toArray, List.getElem_cons_succ, List.getElem_cons_zero, List.setIfInBounds_toArray, List.set_cons_zero, List.set_cons_succ]
            obtain ⟨vn, cn⟩ : ∃ u, wd.cell? ⟨b6, 2 + q * 3 + x, none⟩ = some u := ⟨_, qS.out.m2.cnx q x (by omega) (by omega)⟩
            have fn : wd.frozen? ⟨b6, 2 + q * 3 + x, none⟩ = false := World.rowIs.frozen qS.out.m2 _
            refine wpAnyL_ready (rs := [8]) (by kernel_rfl) (by simp) ?_
            refine AllReadyL.cons rfl (fun K hK => ?_) AllReadyL.nil
            go_simp
            replace qS := hid (qS.out.f2.setNx hle.out q x pv (by omega) (by omega)).b2
            clear cn fn
            refine hK.out _ _ (HeldL.cons (fun h => absurd h (by decide +kernel)) HeldL.nil) (fun hHeld' => ?_)
            clear hK K hHeld; have hHeld := hHeld'; clear hHeld'
            try simp only [Act.put, List.getElem_toArray, List.getElem_cons_succ, List.getElem_cons_zero, List.setIfInBounds_toArray, List.set_cons_zero, List.set_cons_succ]
            refine wpAnyL_done (by kernel_rfl) ?_ _
            go_wp2
            go_roundw
            case rel => exact ⟨q + 1, _, by omega, by go_num, hid (hN.out.nx _ _ hpv), qS.out⟩
            case measure => simp [intOf]; omega
          · obtain rfl : q = n := by omega
            have dq : decide ((q : Int) < (q : Int)) = false := decide_eq_false (by omega)
            go_wp2
            go_roundw
            case rel => exact ⟨x + 1, N, by omega, by go_num, hN, qS.out.drop.f1⟩
            case measure => simp [intOf]; omega
      · obtain rfl : x = d := by omega
        have dx : decide ((x : Int) < (x : Int)) = false := decide_eq_false (by omega)
        have hS := hid rS
        clear rS
        go_wp2_with (first
          | ((with_reducible refine gate (N := 50) rfl ?_); refine load_mach rfl _ rfl b6 rfl M hS.out.m0 ?_)
          | (go_at_call 162; (with_reducible refine (D.out.bad M (hM.out.few (by omega)) hS.out.f1).mono ?_); rintro e w7 ⟨M2, rfl, hM2, hS'⟩; replace hS := hid hS'; clear hS')
          | ((with_reducible refine gateOp (op := .store 27 (.tmp 2) (.tmp 51)) rfl ?_); refine store_mach rfl _ _ rfl w.heap.size rfl M2 rfl 27 _ hS.out.f2.m0 ?_; intro w8 p3 ho hsz hbl; replace hS := hid (hS.out.f2.setM (Nat.le_refl _) p3 ho hbl); clear p3 ho hsz hbl))
        exact ret_mach rfl rfl hS.out.m0 rfl ⟨M2, rfl, hM2, hS.out.bel⟩
  · have dz : decide ((0 : Int) < (z : Int)) = false := decide_eq_false (by omega)
    have dz2 : decide (0 < z) = false := decide_eq_false hz0
    go_wp2_with (first
      | (go_at_call 77; (with_reducible refine (D.out.spoil hS.out).mono ?_); rintro e w2 ⟨M, rfl, hM, hS'⟩; replace hS := hid hS'; clear hS')
      | ((with_reducible refine gateOp (op := .store 27 (.tmp 2) (.tmp 53)) rfl ?_); refine store_mach rfl _ _ rfl w.heap.size rfl M rfl 27 _ hS.out.f1.m0 ?_; intro w5 p3 ho hsz hbl; replace hS := hid (hS.out.f1.setM (Nat.le_refl _) p3 ho hbl); clear p3 ho hsz hbl))
    exact ret_mach rfl rfl hS.out.m0 rfl ⟨M, rfl, hM, hS.out.bel⟩
set_option maxHeartbeats 4000000 in
set_option maxRecDepth 100000 in
theorem drBir_any (w : World) (v : Value) (l : List Nat) (hv : ArgB w v l) (hl : l.length ≤ 4096) :
    Calls Try.prog 66 #[v] w fun e w' => ∃ m : Mach, e = .returned (.agg (mcells m)) ∧ Hid m.Ok ∧ Below w.heap.size w w' := by
  have hrd := hid (fun W t (ht : t.size ≤ 1000) => l01Read_any W t (by omega))
  have hrk := hid (fun t => rdAns_ok t)
  have hdd := hid (fun W (hW : Below w.heap.size w W) => drDua_any W v l (hv.below hW) hl)
  have hz := zeroM_run
  have hS := hid ((St.start w).newMB zeroM 27)
  have hfr := hid (fun W L hW => Dg.from (w := w) (W := W) (L := L) hv hl hW)
  have hz2 := hid (fun L W (h : St w.heap.size w L W) => h.newMB zeroM 27)
  replace hv := hid hv
  obtain ⟨A, c, rfl, _⟩ := hv.out
  go_enter Try.func66, Try.ntmps66
  go_upto_if 10 with (first
    | (go_at_call 78; (with_reducible refine (hfr.out _ _ hS.out).mono ?_); rintro e w1 ⟨S, rfl, D, hS'⟩; replace hS := hid hS'; clear hS')
    | (go_at_call 132; (with_reducible refine (D.out.next 3 (by omega) hS.out).mono ?_); rintro e w2 ⟨z, rfl, hz3, hS'⟩; replace hS := hid hS'.drop; clear hS'))
  by_cases hz0 : z = 0
  · subst hz0
    obtain ⟨t, ht⟩ : ∃ t : ByteArray, t = { data := #[50, 58, 48, 98, 49, 98, 44, 49, 99, 48, 97, 44, 48, 97, 49, 99] } := ⟨_, rfl⟩
    have hts : t.size ≤ 1000 := by rw [ht]; decide
    have hok := hid (hrk.out t)
    replace ht := hid ht
    go_wp2_with (first
      | (go_at_call 167; (rw [← ht.out]); (with_reducible refine (hrd.out _ _ hts).mono ?_); rintro e w3 ⟨rfl, hb⟩; have hle := hid (hS.out.call hb).le; replace hS := hid (hz2.out _ _ (hS.out.call hb)); clear hb)
      | ((with_reducible refine gateOp (op := .store 27 (.tmp 4) (.tmp 13)) rfl ?_); refine store_mach rfl _ _ rfl w3.heap.size rfl (rdAns t).1 rfl 27 _ hS.out.m0 ?_; intro w4 p3 ho hsz hbl; replace hS := hid (hS.out.setM hle.out p3 ho hbl); clear p3 ho hsz hbl)
      | ((with_reducible refine gate (N := 15) rfl ?_); refine load_mach rfl _ rfl w3.heap.size rfl (rdAns t).1 hS.out.m0 ?_)
      | ((with_reducible refine gateOp (op := .store 27 (.tmp 2) (.tmp 15)) rfl ?_); refine store_mach rfl _ _ rfl w.heap.size rfl (rdAns t).1 rfl 27 _ hS.out.f1.m0 ?_; intro w5 p3 ho hsz hbl; replace hS := hid (hS.out.f1.setM (Nat.le_refl _) p3 ho hbl); clear p3 ho hsz hbl))
    exact ret_mach rfl rfl hS.out.m0 rfl ⟨_, rfl, hok, hS.out.bel⟩
  · have dz : ((z : Int) == 0) = false := by simp; omega
    go_wp2_with (first
      | (go_at_call 61; (with_reducible refine (hdd.out _ hS.out.bel).mono ?_); rintro e w3 ⟨M, rfl, hM, hb⟩; replace hS := hid (hS.out.call hb); clear hb)
      | ((with_reducible refine gateOp (op := .store 27 (.tmp 2) (.tmp 17)) rfl ?_); refine store_mach rfl _ _ rfl w.heap.size rfl M rfl 27 _ hS.out.m0 ?_; intro w5 p3 ho hsz hbl; replace hS := hid (hS.out.setM (Nat.le_refl _) p3 ho hbl); clear p3 ho hsz hbl))
    exact ret_mach rfl rfl hS.out.m0 rfl ⟨M, rfl, hid hM.out.1, hS.out.bel⟩
end Go.Proofs.Ytbmkkaecfogmoaa

/- FnDuals: the walk. -/
namespace Go.Proofs.Ytbmkkaecfogmoaa
open Go.RowKit
set_option linter.unusedVariables false
set_option linter.unusedSimpArgs false
-- @LONG

theorem Low8.s8 {m : Mach} (h : Low8 m) : IsM m → m.S ≤ 8 := h.2
set_option maxHeartbeats 20000000 in
set_option maxRecDepth 100000 in
theorem duals_law (w : World) (v : Value) (l : List Nat) (hv : ArgB w v l) :
    Calls Try.prog 7 #[v] w fun e w' => e = .returned (.bool true) ∧ Below w.heap.size w w' := by
  have hbg := hid (big_any w v l hv)
  by_cases hl : l.length ≤ 4096
  · have dl : decide (4096 < l.length) = false := decide_eq_false (by omega)
    rw [dl] at hbg
    have hdr := hid (fun W (hW : Below w.heap.size w W) => drDua_any W v l (hv.below hW) hl)
    have hdr2 := hid (fun W (hW : Below w.heap.size w W) => drBir_any W v l (hv.below hW) hl)
    have hdr3 := hid (fun W (hW : Below w.heap.size w W) => drObp_any W v l (hv.below hW) hl)
    have hdr4 := hid (fun W (hW : Below w.heap.size w W) => drDif_any W v l (hv.below hW) hl)
    have hidu := hid implDual_any
    have hsdu := hid specDual_any
    have hirv := hid implIsRev_any
    have hsrv := hid specIsRev_any
    have hibi := hid implIsBi_any
    have hsbi := hid specIsBi_any
    have hiob := hid implObp_any
    have hsob := hid specObp_any
    have hipw := hid implPow_any
    have hidf := hid implDif_any
    have hsdf := hid specDif_any
    have himc := hid (fun W (D : Mach) (hk : D.Ok) (h : IsM D) => IsMachine_any W D hk true (iff_of_true rfl h))
    have hs0 := hid (St.start w)
    have hz := zeroM_run
    have hz1 := hid (fun L W (h : St w.heap.size w L W) => h.newMB zeroM 27)
    have hcy := hid (fun (x : Int) => (show (x != x) = false by simp))
    have hgd := guard_mach
    replace hv := hid hv
    obtain ⟨A0, c0, rfl, _⟩ := hv.out
    go_enter Try.func7, Try.ntmps7
    go_upto_region 5 with (first
      | (go_at_call 8; (with_reducible refine (hbg.out).mono ?_); rintro e w1 ⟨rfl, rfl⟩)
      | (go_at_call 61; (with_reducible refine (hdr.out _ (Below.refl _ _)).mono ?_); rintro e w1 ⟨m, rfl, hF, hb⟩; have hle := hid hb.size; replace hS := hid (hz1.out _ _ (hs0.out.call hb)); clear hb)
      | ((with_reducible refine gateOp (op := .store 27 (.tmp 3) (.tmp 39)) rfl ?_); refine store_mach rfl _ _ rfl w1.heap.size rfl m rfl 27 _ hS.out.m0 ?_; intro w2 p3 ho hsz hbl; replace hS := hid (hS.out.setM hle.out p3 ho hbl); clear p3 ho hsz hbl)
      | ((with_reducible refine gate (N := 41) rfl ?_); refine load_mach rfl _ rfl w1.heap.size rfl m hS.out.m0 ?_)
      | (go_at_call 62; (with_reducible refine (hidu.out _ m hF.out.ok).mono ?_); rintro e w3 ⟨rfl, hb⟩; have hle4 := hid (hS.out.call hb).le; replace hS := hid (hz1.out _ _ (hS.out.call hb)); clear hb)
      | ((with_reducible refine gateOp (op := .store 27 (.tmp 4) (.tmp 43)) rfl ?_); refine store_mach rfl _ _ rfl w3.heap.size rfl (dualAns m).1 rfl 27 _ hS.out.m0 ?_; intro w4 p3 ho hsz hbl; replace hS := hid (hS.out.setM hle4.out p3 ho hbl); clear p3 ho hsz hbl))
    generalize w1.heap.size = b3 at *
    generalize w3.heap.size = b4 at *
    go_upto_region 6 with (first
      | ((with_reducible refine gate (N := 46) rfl ?_); refine load_mach rfl _ rfl b3 rfl m hS.out.m1 ?_)
      | (go_at_call 63; (with_reducible refine (hsdu.out _ m hF.out.ok).mono ?_); rintro e w5 ⟨rfl, hb⟩; have hle6 := hid (hS.out.call hb).le; replace hS := hid (hz1.out _ _ (hS.out.call hb)); clear hb)
      | ((with_reducible refine gateOp (op := .store 27 (.tmp 6) (.tmp 48)) rfl ?_); refine store_mach rfl _ _ rfl w5.heap.size rfl (dualAns m).1 rfl 27 _ hS.out.m0 ?_; intro w6 p3 ho hsz hbl; replace hS := hid (hS.out.setM hle6.out p3 ho hbl); clear p3 ho hsz hbl))
    generalize w5.heap.size = b6 at *
    have hP := hid (fun h => dual_law (m := m) hF.out.ok h)
    have hDs := hid (dual_sm m hF.out.ok)
    have hsame := hDs.out.same
    have q1 := hcy.out (dualAns m).2
    generalize (dualAns m).1 = D at *
    generalize (dualAns m).2 = dc at *
    go_upto_if 59 with (first
      | ((with_reducible refine gate (N := 54) rfl ?_); refine load_mach_g (by rfl) _ rfl b4 rfl D hS.out.m1 ?_)
      | ((with_reducible refine gate (N := 55) rfl ?_); refine load_mach_g (by rfl) _ rfl b6 rfl D hS.out.m0 ?_))
    clear q1 hsame
    go_cut [8, 9, 10, 11] from 60 (fun _ _ _ _ wr => Below w.heap.size w wr)
    case first =>
      as_aux_lemma =>
        by_cases h0 : dc = 0
        · subst h0
          obtain ⟨hM, hR, hms, B, hB1, hB2⟩ := hP.out rfl
          have hd2 := hid (fun W => (by have h := hidu.out W D hDs.out.1; rw [hB1] at h; dsimp only at h; rw [hB2] at h; exact h : Calls Try.prog 62 #[.agg (mcells D)] W fun e w' => e = .returned (.tuple #[.agg (mcells m), .int .i64 0]) ∧ Below W.heap.size W w'))
          have hr2 := hid (fun W => (by have h := hirv.out W D hDs.out.1; rw [hR] at h; exact h : Calls Try.prog 64 #[.agg (mcells D)] W fun e w' => e = .returned (.tuple #[.bool true, .int .i64 0]) ∧ Below W.heap.size W w'))
          have hi2 := hid (fun W => himc.out W D hDs.out.1 hM)
          have hsm := hms.same
          clear hP hB1 hB2 hM hR hms
          go_wp2_with (first
            | ((with_reducible refine gate (N := 61) rfl ?_); refine load_mach rfl _ rfl b4 rfl D hS.out.m1 ?_)
            | (go_at_call 62; (with_reducible refine (hd2.out _).mono ?_); rintro e w7 ⟨rfl, hb⟩; have hle8 := hid (hS.out.call hb).le; replace hS := hid (hz1.out _ _ (hS.out.call hb)); clear hb)
            | ((with_reducible refine gateOp (op := .store 27 (.tmp 8) (.tmp 63)) rfl ?_); refine store_mach rfl _ _ rfl w7.heap.size rfl m rfl 27 _ hS.out.m0 ?_; intro w8 p3 ho hsz hbl; replace hS := hid (hS.out.setM hle8.out p3 ho hbl); clear p3 ho hsz hbl)
            | ((with_reducible refine gate (N := 66) rfl ?_); refine load_mach rfl _ rfl b4 rfl D hS.out.m2 ?_)
            | (go_at_call 64; (with_reducible refine (hr2.out _).mono ?_); rintro e w9 ⟨rfl, hb⟩; replace hS := hid (hS.out.call hb); clear hb)
            | ((with_reducible refine gate (N := 77) rfl ?_); refine load_mach_g (by rfl) _ rfl w7.heap.size rfl m hS.out.m0 ?_)
            | ((with_reducible refine gate (N := 78) rfl ?_); refine load_mach_g (by rfl) _ rfl b3 rfl m hS.out.m3 ?_)
            | ((with_reducible refine gate (N := 86) rfl ?_); refine load_mach_g (by rfl) _ rfl b4 rfl D hS.out.m2 ?_)
            | (go_at_call 65; (with_reducible refine (hi2.out _).mono ?_); rintro e w10 ⟨rfl, hb⟩; replace hS := hid (hS.out.call hb); clear hb))
          go_meet
          case rel => exact hS.out.bel
        · have d0 : ((dc : Int) == 0) = false := by simpa using h0
          clear hP
          go_wp2
          go_meet
          case rel => exact hS.out.bel
    case rest =>
      as_aux_lemma =>
        clear hS hP hDs hF
        have hS0 := hid ((St.start w).call hcut)
        clear hcut
        go_upto_region 18 with (first
          | (go_at_call 66; (with_reducible refine (hdr2.out _ hS0.out.bel).mono ?_); rintro e w1 ⟨m, rfl, hF, hb⟩; have hle := hid (hS0.out.call hb).le; have hS := hid (hz1.out _ _ (hS0.out.call hb)); clear hb hS0)
          | ((with_reducible refine gateOp (op := .store 27 (.tmp 12) (.tmp 91)) rfl ?_); refine store_mach rfl _ _ rfl w1.heap.size rfl m rfl 27 _ hS.out.m0 ?_; intro w2 p3 ho hsz hbl; replace hS := hid (hS.out.setM hle.out p3 ho hbl); clear p3 ho hsz hbl)
          | ((with_reducible refine gate (N := 93) rfl ?_); refine load_mach rfl _ rfl w1.heap.size rfl m hS.out.m0 ?_)
          | (go_at_call 67; (with_reducible refine (hibi.out _ m hF.out).mono ?_); rintro e w3 ⟨rfl, hb⟩; replace hS := hid (hS.out.call hb); clear hb)
          | ((with_reducible refine gate (N := 98) rfl ?_); refine load_mach rfl _ rfl w1.heap.size rfl m hS.out.m0 ?_)
          | (go_at_call 68; (with_reducible refine (hsbi.out _ m hF.out).mono ?_); rintro e w4 ⟨rfl, hb⟩; replace hS := hid (hS.out.call hb); clear hb)
          | ((with_reducible refine gate (N := 103) rfl ?_); refine load_mach rfl _ rfl w1.heap.size rfl m hS.out.m0 ?_)
          | (go_at_call 64; (with_reducible refine (hirv.out _ m hF.out).mono ?_); rintro e w5 ⟨rfl, hb⟩; replace hS := hid (hS.out.call hb); clear hb)
          | ((with_reducible refine gate (N := 108) rfl ?_); refine load_mach rfl _ rfl w1.heap.size rfl m hS.out.m0 ?_)
          | (go_at_call 69; (with_reducible refine (hsrv.out _ m hF.out).mono ?_); rintro e w6 ⟨rfl, hb⟩; replace hS := hid (hS.out.call hb); clear hb))
        have hbr := hid (fun h => bi_rev (m := m) h)
        have q1 := hcy.out (biAns m).2
        have q2 := hcy.out (revAns m).2
        generalize (biAns m).1 = x1 at *
        generalize (biAns m).2 = x2 at *
        generalize (revAns m).1 = y1 at *
        generalize (revAns m).2 = y2 at *
        go_cut [136] from 112 to 135 (fun b wr => b = .bool false ∧ wr = w6)
        case first =>
          cases x1 with
          | true =>
            obtain rfl : y1 = true := hbr.out rfl
            go_wp2
            go_meet
            exact ⟨rfl, rfl⟩
          | false =>
            cases y1 with
            | true =>
              go_wp2
              go_meet
              exact ⟨rfl, rfl⟩
            | false =>
              go_wp2
              go_meet
              exact ⟨rfl, rfl⟩
        case rest =>
          obtain ⟨rfl, hw⟩ := hcut
          have hw := hw.symm
          subst hw
          have hB := hid hS.out.bel
          clear hS hbr q1 q2 hF
          have hS0 := hid ((St.start w).call hB.out)
          clear hB
          go_upto_region 23 with (first
            | (go_at_call 70; (with_reducible refine (hdr3.out _ hS0.out.bel).mono ?_); rintro e w1 ⟨k, q, n, rfl, hF, hb⟩; have hle := hid (hS0.out.call hb).le; have hS := hid (hz1.out _ _ (hS0.out.call hb)); clear hb hS0)
            | ((with_reducible refine gateOp (op := .store 27 (.tmp 21) (.tmp 140)) rfl ?_); refine store_mach rfl _ _ rfl w1.heap.size rfl k rfl 27 _ hS.out.m0 ?_; intro w2 p3 ho hsz hbl; replace hS := hid (hS.out.setM hle.out p3 ho hbl); clear p3 ho hsz hbl)
            | ((with_reducible refine gate (N := 144) rfl ?_); refine load_mach rfl _ rfl w1.heap.size rfl k hS.out.m0 ?_)
            | (go_at_call 71; (with_reducible refine (hiob.out _ k hF.out.ok q n).mono ?_); rintro e w3 ⟨rfl, hb⟩; replace hS := hid (hS.out.call hb); clear hb)
            | ((with_reducible refine gate (N := 151) rfl ?_); refine load_mach rfl _ rfl w1.heap.size rfl k hS.out.m0 ?_)
            | (go_at_call 72; (with_reducible refine (hsob.out _ k hF.out.ok q n).mono ?_); rintro e w4 ⟨rfl, hb⟩; replace hS := hid (hS.out.call hb); clear hb))
          generalize w1.heap.size = b21 at *
          have hL := hid (fun h => obp_law (m := k) (q := q) (n := n) h)
          have q1 := hcy.out (obpAns k q n).2
          have q2 := hcy.out (obpAns k q n).1
          generalize (obpAns k q n).1 = o1 at *
          generalize (obpAns k q n).2 = o2 at *
          go_upto_if 166 with (fail)
          clear q1 q2
          go_cut [28, 29] from 167 (fun _ _ wr => Below w.heap.size w wr)
          case first =>
            by_cases h0 : o2 = 0
            · subst h0
              obtain ⟨j, rfl, j1, jn, e1, e2⟩ := hL.out rfl
              have hpw := hid (fun W => (by have h := hipw.out W k hF.out.ok q (j : Int); rw [e1] at h; exact h : Calls Try.prog 73 #[.agg (mcells k), .int .i64 q, .int .i64 j] W fun e w' => e = .returned (.tuple #[.agg (mcells (powAns k q j).1), .int .i64 0]) ∧ Below W.heap.size W w'))
              replace e2 := hid e2
              have d1 : decide ((j : Int) < 1) = false := decide_eq_false (by omega)
              have d2 : decide (n < (j : Int)) = false := decide_eq_false (by omega)
              clear hL e1
              generalize (powAns k q j).1 = P at *
              go_upto_region 27 with (first
                | ((with_reducible refine gate (N := 168) rfl ?_); refine load_mach rfl _ rfl b21 rfl k hS.out.m0 ?_)
                | (go_at_call 73; (with_reducible refine (hpw.out _).mono ?_); rintro e w5 ⟨rfl, hb⟩; have hle28 := hid (hS.out.call hb).le; replace hS := hid (hz1.out _ _ (hS.out.call hb)); clear hb)
                | ((with_reducible refine gateOp (op := .store 27 (.tmp 28) (.tmp 172)) rfl ?_); refine store_mach rfl _ _ rfl w5.heap.size rfl P rfl 27 _ hS.out.m0 ?_; intro w6 p3 ho hsz hbl; replace hS := hid (hS.out.setM hle28.out p3 ho hbl); clear p3 ho hsz hbl))
              have cS := hS.out.m0.cS
              rw [e2.out] at cS
              go_wp2
              go_meet
              case rel => exact hS.out.bel
            · have d0 : ((o2 : Int) == 0) = false := by simpa using h0
              clear hL
              go_wp2
              go_meet
              case rel => exact hS.out.bel
          case rest =>
            as_aux_lemma =>
              clear hS hL hF
              have hS0 := hid ((St.start w).call hcut)
              clear hcut
              go_upto_region 32 with (first
                | (go_at_call 74; (with_reducible refine (hdr4.out _ hS0.out.bel).mono ?_); rintro e w1 ⟨p, u, rfl, hF, hb⟩; have hle := hid (hS0.out.call hb).le; have hS := hid (hz1.out _ _ (hS0.out.call hb)); clear hb hS0)
                | ((with_reducible refine gateOp (op := .store 27 (.tmp 30) (.tmp 193)) rfl ?_); refine store_mach rfl _ _ rfl w1.heap.size rfl p rfl 27 _ hS.out.m0 ?_; intro w2 p3 ho hsz hbl; replace hS := hid (hS.out.setM hle.out p3 ho hbl); clear p3 ho hsz hbl)
                | ((with_reducible refine gate (N := 196) rfl ?_); refine load_mach rfl _ rfl w1.heap.size rfl p hS.out.m0 ?_)
                | (go_at_call 75; (with_reducible refine (hidf.out _ p hF.out.ok hF.out.s8 u).mono ?_); rintro e w3 ⟨rfl, hb⟩; replace hS := hid (hS.out.call hb); clear hb)
                | ((with_reducible refine gate (N := 202) rfl ?_); refine load_mach rfl _ rfl w1.heap.size rfl p hS.out.m0 ?_)
                | (go_at_call 76; (with_reducible refine (hsdf.out _ p hF.out.ok hF.out.s8 u).mono ?_); rintro e w4 ⟨rfl, hb⟩; replace hS := hid (hS.out.call hb); clear hb))
              have hL := hid (fun h => dif_law (m := p) (n := u) h)
              generalize (difAns p u).1 = o1 at *
              generalize (difAns p u).2 = o2 at *
              have q1 : ((o1 : Int) == o1) = true := by simp
              have q2 : ((o2 : Int) == o2) = true := by simp
              by_cases h0 : o2 = 0
              · subst h0
                have h1 := hL.out rfl
                have d1 : decide ((1 : Int) ≤ o1) = true := decide_eq_true h1
                clear hL h1
                go_wp2
                go_ret
                exact ⟨rfl, hS.out.bel⟩
              · have d0 : ((o2 : Int) != 0) = true := by simpa using h0
                clear hL
                go_wp2
                go_ret
                exact ⟨rfl, hS.out.bel⟩
  · have dl : decide (4096 < l.length) = true := decide_eq_true (by omega)
    rw [dl] at hbg
    go_enter Try.func7, Try.ntmps7
    go_wp2_with (
      (go_at_call 8; (with_reducible refine (hbg.out).mono ?_); rintro e w1 ⟨rfl, rfl⟩))
    go_ret
    exact ⟨rfl, Below.refl _ _⟩
end Go.Proofs.Ytbmkkaecfogmoaa
