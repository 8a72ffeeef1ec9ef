/- Products of lists of states: the program's productOf. -/
import Derived.Test.YthempofohidlnaaObp
namespace Go.Proofs.Ythempofohidlnaa
open Go.RowKit
set_option linter.unusedVariables false
set_option linter.unusedSimpArgs false

/-- The product of a list, from what has been made: fs i is (machine, its states, the state). -/
def chn (fs : Nat → Mach × Nat × Nat) (l : Nat) : Nat → Nat → Mach → Mach × Int
  | 0, _, now => (now, 0)
  | f + 1, i, now => if nextC (fs i).1 l (fs i).2.1 (fs i).2.2 now = 0 then chn fs l f (i + 1) (nextM (fs i).1 l (fs i).2.1 (fs i).2.2 now) else (⟨0, 0, fun _ => 0, fun _ => 0⟩, 3)
theorem chn_3 {fs : Nat → Mach × Nat × Nat} {l f i : Nat} {now : Mach} (h : nextC (fs i).1 l (fs i).2.1 (fs i).2.2 now = 3) : chn fs l (f + 1) i now = (⟨0, 0, fun _ => 0, fun _ => 0⟩, 3) := by
  unfold chn; rw [h, if_neg (by decide)]
theorem chn_0 {fs : Nat → Mach × Nat × Nat} {l f i : Nat} {now : Mach} (h : nextC (fs i).1 l (fs i).2.1 (fs i).2.2 now = 0) : chn fs l (f + 1) i now = chn fs l f (i + 1) (nextM (fs i).1 l (fs i).2.1 (fs i).2.2 now) := by
  conv => lhs; unfold chn
  rw [if_pos h]

theorem sz_factor : (Try.prog.info? 88).map (·.size) = some 2 := by kernel_rfl
set_option maxHeartbeats 4000000 in
set_option maxRecDepth 4000 in
theorem productOf_any (w : World) (g cap n l : Nat) (fs : Nat → Mach × Nat × Nat) (bs : Nat → Nat) (l2 : 2 ≤ l) (l3 : l ≤ 3) (hn : n ≤ 1000)
    (hrd : ∀ W, Below w.heap.size w W → ∀ i, i < n → W.rangeAt g (i * 2) [.pointer (some ⟨bs i, 0, none⟩), .int .i64 ((fs i).2.2 : Nat)] ∧ MB W 34 (bs i) (fs i).1)
    (hgd : ∀ i, i < n → Good (fs i).1 l (fs i).2.1 ∧ (fs i).2.2 < (fs i).2.1) :
    Calls Try.prog 74 #[.int .i64 l, .slice (some ⟨g, 0, none⟩) n cap] w fun e w' => e = .returned (.tuple #[.agg (mcells (chn fs l n 0 (trivM l)).1), .int .i64 (chn fs l n 0 (trivM l)).2]) ∧ Below w.heap.size w w' := by
  have hz := zero_mach
  have hS := hid ((St.start w).newMB ⟨0, 0, fun _ => 0, fun _ => 0⟩ 34)
  replace hrd := hid hrd
  replace hgd := hid hgd
  have htr := hid (fun W => trivialMachine_any W l l3)
  have hpr := hid (fun i (hi : i < n) b W now sN (gN : Good now l sN) hb hm => (by have h := product_any b (bs i) W now (fs i).1 hb hm l sN (fs i).2.1 gN (hgd.out i hi).1 0 (fs i).2.2 gN.s1 (hgd.out i hi).2; rw [(next_M (fs i).1 l (fs i).2.1 (fs i).2.2 now sN gN).1, (next_M (fs i).1 l (fs i).2.1 (fs i).2.2 now sN gN).2] at h; exact h : Calls Try.prog 71 #[.pointer (some ⟨b, 0, none⟩), .int .i64 0, .pointer (some ⟨bs i, 0, none⟩), .int .i64 ((fs i).2.2 : Nat)] W fun e w' => e = .returned (.tuple #[.agg (mcells (nextM (fs i).1 l (fs i).2.1 (fs i).2.2 now)), .int .i64 (nextC (fs i).1 l (fs i).2.1 (fs i).2.2 now)]) ∧ Below W.heap.size W w'))
  have hnc := hid (fun i (hi : i < n) now sN gN => next_cases (fs i).1 l (fs i).2.1 (fs i).2.2 (hgd.out i hi).2 (hgd.out i hi).1 now sN gN)
  have htg := hid (trivM_good l l2 l3)
  have hz2 := hid (fun L W (h : St w.heap.size w L W) => h.newMB ⟨0, 0, fun _ => 0, fun _ => 0⟩ 34)
  obtain ⟨ans, hans⟩ : ∃ a, a = chn fs l n 0 (trivM l) := ⟨_, rfl⟩
  rw [← hans]
  replace hans := hid hans
  generalize hzs : mcells ⟨0, 0, fun _ => 0, fun _ => 0⟩ = zs at *
  replace hzs := hid hzs
  go_enter Try.func74, Try.ntmps74
  go_upto_region 2 with (first
    | (go_at_call 70; (with_reducible refine (htr.out _).mono ?_); rintro e w2 ⟨rfl, hb⟩; have hle2 := hid (hS.out.call hb).le; replace hS := hid (hz2.out _ _ (hS.out.call hb)); clear hb)
    | ((with_reducible refine gateOp (op := .store 34 (.tmp 6) (.tmp 11)) rfl ?_); refine store_mach rfl _ _ rfl w2.heap.size rfl (trivM l) rfl 34 _ hS.out.m0 ?_; intro W1 p3 ho hsz hbl; replace hS := hid (hS.out.setM hle2.out p3 ho hbl); clear p3 ho hsz hbl))
  generalize w2.heap.size = b6 at *
  go_wp2
  go_loopw [14] (fun j wr => ∃ (i f : Nat) (now : Mach) (sN : Nat), j = .int .i64 i ∧ i + f = n ∧ Hid (Good now l sN) ∧ Hid (ans = chn fs l f i now) ∧ St w.heap.size w [Asn.mb 34 b6 now, Asn.mb 34 w.heap.size ⟨0, 0, fun _ => 0, fun _ => 0⟩] wr) (fun j _ => n - (intOf j).toNat)
  case atStart => exact ⟨0, n, _, _, rfl, Nat.zero_add _, htg, hans, hS.out⟩
  case round =>
    obtain ⟨i, f, now, sN, rfl, hcf, gN, ha, rS⟩ := hrel
    clear hS hans
    replace rS := hid rS
    rcases f with _ | f
    · have dc : decide ((i : Int) < (n : Int)) = false := decide_eq_false (by omega)
      have hA := hid (show ans = (now, 0) from ha.out)
      go_wp2_with (first
        | ((with_reducible refine gate (N := 31) rfl ?_); refine load_mach rfl _ rfl b6 rfl now rS.out.m0 ?_)
        | ((with_reducible refine gateOp (op := .store 34 (.tmp 4) (.tmp 31)) rfl ?_); refine store_mach rfl _ _ rfl w.heap.size rfl now rfl 34 _ rS.out.m1 ?_; intro W3 p2 ho hsz hbl; have pB := hid (hbl _ _ (Nat.le_refl _) rS.out.bel); replace p2 := hid p2; clear ho hsz hbl))
      exact ret_mach_i rfl rfl rfl p2.out rfl ⟨by rw [hA.out], pB.out⟩
    · have dc : decide ((i : Int) < (n : Int)) = true := decide_eq_true (by omega)
      have hin : i < n := by omega
      have i0 : (0 : Int) ≤ (i : Int) := Int.natCast_nonneg _
      have i1 : (i : Int) < (n : Int) := by omega
      have rg := hid (hrd.out _ rS.out.bel i hin).1
      have hmb := hid (fun W hW => (hrd.out W hW i hin).2)
      have hpn := hid (fun W hb hm => hpr.out i hin b6 W now sN gN.out hb hm)
      have hle6 := hid (show w.heap.size ≤ b6 from hle2.out)
      rcases hnc.out i hin now sN gN.out with ⟨h3, hB⟩ | ⟨h0, hB, s2, g2, k2⟩
      · have hA := hid (show ans = _ from ha.out.trans (chn_3 h3))
        rw [h3] at hpn
        clear h3 hB ha
        generalize nextM (fs i).1 l (fs i).2.1 (fs i).2.2 now = nx at *
        generalize (fs i).2.2 = qi at *
        generalize bs i = bi at *
        go_wp2_with (first
          | ((with_reducible refine gate (N := 17) rfl ?_); refine wpList_load_mid rfl 88 _ rfl g (i * 2) rfl _ _ rg.out Try.underlying88 rfl sz_factor ?_; replace rS := hid (rS.out.newBlk #[.pointer (some ⟨bi, 0, none⟩), .int .i64 (qi : Int)] 88); clear rg)
          | (go_at_call 71; (with_reducible refine (hpn.out _ rS.out.m1 (hmb.out _ rS.out.bel)).mono ?_); rintro e w3 ⟨rfl, hb⟩; replace rS := hid (rS.out.call hb).drop; clear hb hpn)
          | ((with_reducible refine gateOp (op := .store 34 (.tmp 6) (.tmp 24)) rfl ?_); refine store_mach rfl _ _ rfl b6 rfl nx rfl 34 _ rS.out.m0 ?_; intro W5 p3 ho hsz hbl; replace rS := hid (rS.out.setM hle6.out p3 ho hbl); clear p3 ho hsz hbl)
          | ((with_reducible refine gate (N := 28) rfl ?_); refine build_zero rfl rfl ?_)
          | ((with_reducible refine gateOp (op := .store 34 (.tmp 4) (.tmp 28)) rfl ?_); refine store_mach rfl _ _ rfl w.heap.size rfl ⟨0, 0, fun _ => 0, fun _ => 0⟩ rfl 34 _ rS.out.m1 ?_; intro W3 p2 ho hsz hbl; have pB := hid (hbl _ _ (Nat.le_refl _) rS.out.bel); replace p2 := hid p2; clear ho hsz hbl))
        exact ret_mach_i rfl rfl rfl p2.out rfl ⟨by rw [hA.out], pB.out⟩
      · have hA := hid (ha.out.trans (chn_0 h0))
        replace g2 := hid g2
        rw [h0] at hpn
        clear h0 hB ha k2
        generalize nextM (fs i).1 l (fs i).2.1 (fs i).2.2 now = nx at *
        generalize (fs i).2.2 = qi at *
        generalize bs i = bi at *
        go_wp2_with (first
          | ((with_reducible refine gate (N := 17) rfl ?_); refine wpList_load_mid rfl 88 _ rfl g (i * 2) rfl _ _ rg.out Try.underlying88 rfl sz_factor ?_; replace rS := hid (rS.out.newBlk #[.pointer (some ⟨bi, 0, none⟩), .int .i64 (qi : Int)] 88); clear rg)
          | (go_at_call 71; (with_reducible refine (hpn.out _ rS.out.m1 (hmb.out _ rS.out.bel)).mono ?_); rintro e w3 ⟨rfl, hb⟩; replace rS := hid (rS.out.call hb).drop; clear hb hpn)
          | ((with_reducible refine gateOp (op := .store 34 (.tmp 6) (.tmp 24)) rfl ?_); refine store_mach rfl _ _ rfl b6 rfl nx rfl 34 _ rS.out.m0 ?_; intro W5 p3 ho hsz hbl; replace rS := hid (rS.out.setM hle6.out p3 ho hbl); clear p3 ho hsz hbl))
        go_roundw
        case rel => exact ⟨i + 1, f, nx, s2, by go_num, by omega, g2, hA, rS.out⟩
        case measure => simp [intOf]; omega
end Go.Proofs.Ythempofohidlnaa
