/- PowerOfState: what the reference answers. -/
import Derived.Test.YthempofohidlnaaPow
namespace Go.Proofs.Ythempofohidlnaa
open Go.RowKit
set_option linter.unusedVariables false
set_option linter.unusedSimpArgs false

open Classical in
/-- What PowerOfState answers. -/
noncomputable def powAns (m : Mach) (q n : Int) : Mach × Int :=
  if codeI m { data := #[] } [q] = 0 then (if -16 ≤ n ∧ n ≤ 16 then powR m m.L.toNat m.S.toNat q.toNat n else (⟨0, 0, fun _ => 0, fun _ => 0⟩, 2)) else (⟨0, 0, fun _ => 0, fun _ => 0⟩, codeI m { data := #[] } [q])
theorem powAns_n {m : Mach} {q n c : Int} (h : codeI m { data := #[] } [q] = c) (hc : c ≠ 0) : powAns m q n = (⟨0, 0, fun _ => 0, fun _ => 0⟩, c) := by
  unfold powAns; rw [h, if_neg hc]
theorem powAns_r {m : Mach} {q n : Int} (h : codeI m { data := #[] } [q] = 0) (hn : ¬ (-16 ≤ n ∧ n ≤ 16)) : powAns m q n = (⟨0, 0, fun _ => 0, fun _ => 0⟩, 2) := by
  unfold powAns; rw [h, if_pos rfl, if_neg hn]
theorem powAns_0 {m : Mach} {l s q : Nat} {n : Int} (g : Good m l s) (h : codeI m { data := #[] } [(q : Int)] = 0) (hn : -16 ≤ n ∧ n ≤ 16) : powAns m q n = powR m l s q n := by
  unfold powAns; rw [h, if_pos rfl, if_pos hn, g.L, g.S]; rfl
theorem chn_cases (fs : Nat → Mach × Nat × Nat) (l : Nat) : ∀ f i now, (chn fs l f i now).2 = 0 ∨ ((chn fs l f i now).2 = 3 ∧ (chn fs l f i now).1 = ⟨0, 0, fun _ => 0, fun _ => 0⟩)
  | 0, _, _ => .inl rfl
  | f + 1, i, now => by
    by_cases h : nextC (fs i).1 l (fs i).2.1 (fs i).2.2 now = 0
    · rw [chn_0 h]; exact chn_cases fs l f (i + 1) _
    · right
      unfold chn
      rw [if_neg h]
      exact ⟨rfl, rfl⟩

set_option maxHeartbeats 4000000 in
set_option maxRecDepth 4000 in
theorem specPow_any (w : World) (m : Mach) (hkm : m.Ok) (q n : Int) :
    Calls Try.prog 29 #[.agg (mcells m), .int .i64 q, .int .i64 n] w fun e w' => e = .returned (.tuple #[.agg (mcells (powAns m q n).1), .int .i64 (powAns m q n).2]) ∧ Below w.heap.size w w' := by
  have hz := zero_mach
  have hS := hid (((St.start w).newMB m 34).newMB ⟨0, 0, fun _ => 0, fun _ => 0⟩ 34)
  rw [heap_alloc_size] at hS
  have hcode := hid (fun W => l07State_any W m hkm q)
  rcases codeI_cases m q with h | h | ⟨l, s, q, g, rfl, hq, h⟩
  · rw [powAns_n h (by decide)]
    rw [h] at hcode
    replace hkm := hid hkm; clear h
    generalize hzs : mcells ⟨0, 0, fun _ => 0, fun _ => 0⟩ = zs at *
    replace hzs := hid hzs
    go_enter Try.func29, Try.ntmps29
    go_wp2_with (first
      | ((with_reducible refine gate (N := 11) rfl ?_); refine load_mach rfl _ rfl w.heap.size rfl m hS.out.m1 ?_)
      | (go_at_call 67; (with_reducible refine (hcode.out _).mono ?_); rintro e w1 ⟨rfl, hb⟩; replace hS := hid (hS.out.call hb); clear hb hcode)
      | ((with_reducible refine gate (N := 23) rfl ?_); refine build_zero rfl rfl ?_)
      | ((with_reducible refine gateOp (op := .store 34 (.tmp 6) (.tmp 23)) rfl ?_); refine store_mach rfl _ _ rfl (w.heap.size + 1) rfl ⟨0, 0, fun _ => 0, fun _ => 0⟩ rfl 34 _ hS.out.m0 ?_; intro W3 p2 ho hsz hbl; have pB := hid (hbl _ _ (Nat.le_succ _) hS.out.bel); replace p2 := hid p2; clear ho hsz hbl))
    exact ret_mach_i rfl rfl rfl p2.out rfl ⟨by rw [hzs.out], pB.out⟩
  · rw [powAns_n h (by decide)]
    rw [h] at hcode
    replace hkm := hid hkm; clear h
    generalize hzs : mcells ⟨0, 0, fun _ => 0, fun _ => 0⟩ = zs at *
    replace hzs := hid hzs
    go_enter Try.func29, Try.ntmps29
    go_wp2_with (first
      | ((with_reducible refine gate (N := 11) rfl ?_); refine load_mach rfl _ rfl w.heap.size rfl m hS.out.m1 ?_)
      | (go_at_call 67; (with_reducible refine (hcode.out _).mono ?_); rintro e w1 ⟨rfl, hb⟩; replace hS := hid (hS.out.call hb); clear hb hcode)
      | ((with_reducible refine gate (N := 23) rfl ?_); refine build_zero rfl rfl ?_)
      | ((with_reducible refine gateOp (op := .store 34 (.tmp 6) (.tmp 23)) rfl ?_); refine store_mach rfl _ _ rfl (w.heap.size + 1) rfl ⟨0, 0, fun _ => 0, fun _ => 0⟩ rfl 34 _ hS.out.m0 ?_; intro W3 p2 ho hsz hbl; have pB := hid (hbl _ _ (Nat.le_succ _) hS.out.bel); replace p2 := hid p2; clear ho hsz hbl))
    exact ret_mach_i rfl rfl rfl p2.out rfl ⟨by rw [hzs.out], pB.out⟩
  · by_cases hn : -16 ≤ n ∧ n ≤ 16
    · have hw := hid (show true = decide (-16 ≤ n ∧ n ≤ 16) from (decide_eq_true hn).symm)
      rw [powAns_0 g h hn]
      rw [h] at hcode
      have hpo := hid (fun W => l07Power_any W m hkm l s q g hq n hn)
      have hcs : (powR m l s q n).2 = 0 ∨ ((powR m l s q n).2 = 3 ∧ (powR m l s q n).1 = ⟨0, 0, fun _ => 0, fun _ => 0⟩) := chn_cases _ _ _ _ _
      have hz2 := hid (fun L W (h : St w.heap.size w L W) => h.newMB ⟨0, 0, fun _ => 0, fun _ => 0⟩ 34)
      replace hkm := hid hkm; clear h hn g
      generalize (powR m l s q n).1 = fm at *
      generalize (powR m l s q n).2 = fc at *
      rcases hcs with rfl | ⟨rfl, rfl⟩
      · have hd : decide ((0 : Int) = 0) = true := rfl
        rw [hd] at hpo
        clear hd
        generalize mcells ⟨0, 0, fun _ => 0, fun _ => 0⟩ = zs at *
        go_enter Try.func29, Try.ntmps29
        go_wp2_with (first
          | ((with_reducible refine gate (N := 11) rfl ?_); refine load_mach rfl _ rfl w.heap.size rfl m hS.out.m1 ?_)
          | (go_at_call 67; (with_reducible refine (hcode.out _).mono ?_); rintro e w1 ⟨rfl, hb⟩; replace hS := hid (hS.out.call hb); clear hb hcode)
          | (go_at_call 58; (with_reducible refine (l01In_any n (-16) 16 true hw.out _).mono ?_); rintro e w' ⟨rfl, rfl⟩)
          | ((with_reducible refine gate (N := 26) rfl ?_); refine load_mach rfl _ rfl w.heap.size rfl m hS.out.m1 ?_)
          | (go_at_call 76; (with_reducible refine (hpo.out _).mono ?_); rintro e w2 ⟨rfl, hb⟩; have hle2 := hid (hS.out.call hb).le; replace hS := hid (hz2.out _ _ (hS.out.call hb)); clear hb hpo)
          | ((with_reducible refine gateOp (op := .store 34 (.tmp 9) (.tmp 30)) rfl ?_); refine store_mach rfl _ _ rfl w2.heap.size rfl fm rfl 34 _ hS.out.m0 ?_; intro W1 p3 ho hsz hbl; replace hS := hid (hS.out.setM hle2.out p3 ho hbl); clear p3 ho hsz hbl)
          | ((with_reducible refine gate (N := 35) rfl ?_); refine load_mach rfl _ rfl w2.heap.size rfl fm hS.out.m0 ?_)
          | ((with_reducible refine gateOp (op := .store 34 (.tmp 6) (.tmp 35)) rfl ?_); refine store_mach rfl _ _ rfl (w.heap.size + 1) rfl fm rfl 34 _ hS.out.m1 ?_; intro W3 p2 ho hsz hbl; have pB := hid (hbl _ _ (Nat.le_succ _) hS.out.bel); replace p2 := hid p2; clear ho hsz hbl))
        exact ret_mach_i rfl rfl rfl p2.out rfl ⟨rfl, pB.out⟩
      · have hd : decide ((3 : Int) = 0) = false := rfl
        rw [hd] at hpo
        clear hd
        generalize hzs : mcells ⟨0, 0, fun _ => 0, fun _ => 0⟩ = zs at *
        replace hzs := hid hzs
        go_enter Try.func29, Try.ntmps29
        go_wp2_with (first
          | ((with_reducible refine gate (N := 11) rfl ?_); refine load_mach rfl _ rfl w.heap.size rfl m hS.out.m1 ?_)
          | (go_at_call 67; (with_reducible refine (hcode.out _).mono ?_); rintro e w1 ⟨rfl, hb⟩; replace hS := hid (hS.out.call hb); clear hb hcode)
          | (go_at_call 58; (with_reducible refine (l01In_any n (-16) 16 true hw.out _).mono ?_); rintro e w' ⟨rfl, rfl⟩)
          | ((with_reducible refine gate (N := 26) rfl ?_); refine load_mach rfl _ rfl w.heap.size rfl m hS.out.m1 ?_)
          | (go_at_call 76; (with_reducible refine (hpo.out _).mono ?_); rintro e w2 ⟨rfl, hb⟩; have hle2 := hid (hS.out.call hb).le; replace hS := hid (hz2.out _ _ (hS.out.call hb)); clear hb hpo)
          | ((with_reducible refine gateOp (op := .store 34 (.tmp 9) (.tmp 30)) rfl ?_); refine store_mach rfl _ _ rfl w2.heap.size rfl ⟨0, 0, fun _ => 0, fun _ => 0⟩ (by rw [hzs.out]; rfl) 34 _ hS.out.m0 ?_; intro W1 p3 ho hsz hbl; replace hS := hid (hS.out.setM hle2.out p3 ho hbl); clear p3 ho hsz hbl)
          | ((with_reducible refine gate (N := 34) rfl ?_); refine build_zero rfl rfl ?_)
          | ((with_reducible refine gateOp (op := .store 34 (.tmp 6) (.tmp 34)) rfl ?_); refine store_mach rfl _ _ rfl (w.heap.size + 1) rfl ⟨0, 0, fun _ => 0, fun _ => 0⟩ rfl 34 _ hS.out.m1 ?_; intro W3 p2 ho hsz hbl; have pB := hid (hbl _ _ (Nat.le_succ _) hS.out.bel); replace p2 := hid p2; clear ho hsz hbl))
        exact ret_mach_i rfl rfl rfl p2.out rfl ⟨by rw [hzs.out], pB.out⟩
    · rw [powAns_r h hn]
      have hw := hid (show false = decide (-16 ≤ n ∧ n ≤ 16) from (decide_eq_false hn).symm)
      rw [h] at hcode
      replace hkm := hid hkm; clear h hn; replace g := hid g
      generalize hzs : mcells ⟨0, 0, fun _ => 0, fun _ => 0⟩ = zs at *
      replace hzs := hid hzs
      go_enter Try.func29, Try.ntmps29
      go_wp2_with (first
        | ((with_reducible refine gate (N := 11) rfl ?_); refine load_mach rfl _ rfl w.heap.size rfl m hS.out.m1 ?_)
        | (go_at_call 67; (with_reducible refine (hcode.out _).mono ?_); rintro e w1 ⟨rfl, hb⟩; replace hS := hid (hS.out.call hb); clear hb hcode)
        | (go_at_call 58; (with_reducible refine (l01In_any n (-16) 16 false hw.out _).mono ?_); rintro e w' ⟨rfl, rfl⟩)
        | ((with_reducible refine gate (N := 23) rfl ?_); refine build_zero rfl rfl ?_)
        | ((with_reducible refine gateOp (op := .store 34 (.tmp 6) (.tmp 23)) rfl ?_); refine store_mach rfl _ _ rfl (w.heap.size + 1) rfl ⟨0, 0, fun _ => 0, fun _ => 0⟩ rfl 34 _ hS.out.m0 ?_; intro W3 p2 ho hsz hbl; have pB := hid (hbl _ _ (Nat.le_succ _) hS.out.bel); replace p2 := hid p2; clear ho hsz hbl))
      exact ret_mach_i rfl rfl rfl p2.out rfl ⟨by rw [hzs.out], pB.out⟩
end Go.Proofs.Ythempofohidlnaa
