/- The two DualMachine answer alike; the statement's walk. -/
import Derived.Test.YtapbcfnlcnboeaaDual
namespace Go.Proofs.Ytapbcfnlcnboeaa
open Go.RowKit
set_option linter.unusedVariables false
set_option linter.unusedSimpArgs false

/-- A machine and a number handed back. -/
theorem ret_mach_i {fn : Func} {R : Ending → World → Prop} {a : Act} {w : World} {p q : Nat} (h : fn.results = #[.cell p 31, .tmp q]) {g t : Nat} {m : Mach} {n : Int}
    (hp : a.tmps.getD p undef = .pointer (some ⟨g, 0, none⟩)) (hq : a.tmps.getD q undef = .int .i64 n) (hm : MB w t g m) (hdf : a.defers = []) (hR : R (.returned (.tuple #[.agg (mcells m), .int .i64 n])) w) : bodyPost Try.prog fn R .ret a w := by
  refine bodyPost_ret (v := .tuple #[.agg (mcells m), .int .i64 n]) ?_ hdf hR
  have hp' : a.tmps[p]?.getD undef = .pointer (some ⟨g, 0, none⟩) := by simpa using hp
  have hq' : a.tmps[q]?.getD undef = .int .i64 n := by simpa using hq
  have := run_loadVar_row (P := Try.prog) w g t 31 (mcells m) (0, 0) _ hm.heap Try.underlying31 rfl (by rw [size_mcells]; exact sz_mach)
  simp [results, h, hp', hq', asAddr, this]

/-- One entry of the dual. -/
def stepD (m : Mach) (x q : Nat) (o : Mach) : Mach :=
  { o with nx := upd o.nx (x * 3 + q) (m.ot (q * 3 + x)), ot := upd o.ot (x * 3 + q) (m.nx (q * 3 + x)) }
def rowD (m : Mach) (x : Nat) : Nat → Mach → Mach
  | 0, o => o
  | q + 1, o => stepD m x q (rowD m x q o)
def allD (m : Mach) (s : Nat) : Nat → Mach
  | 0 => ⟨m.S, m.L, fun _ => 0, fun _ => 0⟩
  | x + 1 => rowD m x s (allD m s x)
def dual (m : Mach) (l s : Nat) : Mach := allD m s l

open Classical in
/-- What DualMachine answers. -/
noncomputable def dualAns (m : Mach) : Mach × Int :=
  if IsM m then (if 2 ≤ m.S ∧ m.S ≤ 3 then (if ∀ l s, Good m l s → RevP m l s then (dual m m.L.toNat m.S.toNat, 0) else (zeroM, 5)) else (zeroM, 2)) else (zeroM, 1)

theorem good_uniq {m : Mach} {l s l' s' : Nat} (g : Good m l s) (g' : Good m l' s') : l' = l ∧ s' = s := by
  have := g.L; have := g.S; have := g'.L; have := g'.S; omega

open Classical in
theorem dualAns_good {m : Mach} {l s : Nat} (g : Good m l s) : dualAns m = if s ≤ 3 ∧ 2 ≤ s then (if RevP m l s then (dual m l s, 0) else (zeroM, 5)) else (zeroM, 2) := by
  unfold dualAns
  rw [if_pos g.isM]
  have hS := g.S
  have hL := g.L
  by_cases h : s ≤ 3 ∧ 2 ≤ s
  · rw [if_pos (by omega), if_pos h]
    by_cases hr : RevP m l s
    · rw [if_pos hr, if_pos (fun l' s' g' => by obtain ⟨rfl, rfl⟩ := good_uniq g g'; exact hr), hS, hL]
      rfl
    · rw [if_neg hr, if_neg (fun hh => hr (hh l s g))]
  · rw [if_neg (by omega), if_neg h]

open Classical in
set_option maxHeartbeats 2000000 in
set_option maxRecDepth 100000 in
theorem specDual_any (w : World) (m : Mach) (hk : m.Ok) :
    Calls Try.prog 22 #[.agg (mcells m)] w fun e w' => e = .returned (.tuple #[.agg (mcells (dualAns m).1), .int .i64 (dualAns m).2]) ∧ Below w.heap.size w w' := by
  have h1 := hid (MB.new w m 31)
  have hM := hid (h1.out.alloc (.cells (mcells zeroM) 31))
  have hR := hid (MB.new (w.alloc (.cells (mcells m) 31)) zeroM 31)
  have hB := hid (below_alloc (below_alloc (Below.refl w.heap.size w) (Nat.le_refl _) (.cells (mcells m) 31)) (Nat.le_refl _) (.cells (mcells zeroM) 31))
  rw [heap_alloc_size] at hR
  clear h1
  have hz := zeroM_run
  replace hk := hid hk
  by_cases hm : IsM m
  · obtain ⟨l, s, g⟩ := hm.good
    have hA := hid (dualAns_good g)
    have hi : Tells true (IsM m) := ⟨fun _ => hm, fun _ => rfl⟩
    have l2 := g.l2; have l3 := g.l3; have s1 := g.s1; have s16 := g.s16
    have gL := hid g.L
    have gS := hid g.S
    clear hm
    by_cases hs : s ≤ 3 ∧ 2 ≤ s
    · by_cases hrv : RevP m l s
      · have hr : Tells true (RevP m l s) := ⟨fun _ => hrv, fun _ => rfl⟩
        replace hA := hid (show dualAns m = (dual m l s, 0) by rw [hA.out, if_pos hs, if_pos hrv])
        replace g := hid g
        rw [hA.out]
        clear hrv
        have h0 := hid (fun w' : World => MB.new w' zeroM 31)
        generalize mcells zeroM = zs at *
        go_enter Try.func22, Try.ntmps22
        go_wp2_with (first
          | ((with_reducible refine gate (N := 8) rfl ?_); refine load_mach rfl _ rfl w.heap.size rfl m hM.out ?_)
          | (go_at_call 53; (with_reducible refine (l01Is_any _ m hk.out true hi.out).mono ?_); rintro e w1 ⟨rfl, hb⟩; have hM2 := hid (hM.out.below hb hM.out.lt); have hR2 := hid (hR.out.below hb hR.out.lt); have hB2 := hid (hB.out.trans (hb.mono hB.out.size)); have cS := hM2.out.cS; rw [gS.out] at cS; clear hb hM hB hR hi)
          | (go_at_call 47; (with_reducible refine (l01In_any _ _ _ true (decide_eq_true (by omega)).symm _).mono ?_); rintro e w' ⟨rfl, rfl⟩)
          | ((with_reducible refine gate (N := 19) rfl ?_); refine load_mach rfl _ rfl w.heap.size rfl m hM2.out ?_)
          | (go_at_call 54; (with_reducible refine (l07Reversible_any _ m l s g.out true hr.out).mono ?_); rintro e w2 ⟨rfl, hb⟩; have hM3 := hid (hM2.out.below hb hM2.out.lt); have hR3 := hid (hR2.out.below hb hR2.out.lt); have hB3 := hid (hB2.out.trans (hb.mono hB2.out.size)); clear cS; have cS := hM3.out.cS; have cL := hM3.out.cL; rw [gS.out] at cS; rw [gL.out] at cL; have hne := hid (Nat.lt_of_lt_of_le hR2.out.lt hb.size); clear hb hM2 hB2 hR2 hr)
          | ((with_reducible refine gate (N := 27) rfl ?_); refine build_mach rfl _ _ rfl (s : Int) (l : Int) rfl rfl ?_)
          | ((with_reducible refine gateOp (op := .store 31 (.tmp 4) (.tmp 27)) rfl ?_); have a1 := hid (hM3.out.alloc (.cells zs 31)); have a2 := hid (hR3.out.alloc (.cells zs 31)); have aB := hid (below_alloc hB3.out (Nat.le_refl _) (.cells zs 31)); refine store_mach rfl _ _ rfl w2.heap.size rfl ⟨(s : Int), (l : Int), fun _ => 0, fun _ => 0⟩ rfl 31 _ (h0.out w2) ?_; intro w3 hV ho hsz hbl; have t1 := hid (show MB w3 31 w.heap.size m from World.rowIs.of_block a1.out (ho _ (by have := hne.out; omega))); have t2 := hid (show MB w3 31 (w.heap.size + 1) zeroM from World.rowIs.of_block a2.out (ho _ (by have := hne.out; omega))); have tB := hid (hbl _ _ hB3.out.size aB.out); have t3 := hid (show MB w3 31 w2.heap.size (allD m s 0) by unfold allD; rw [gS.out, gL.out]; exact hV); clear cS cL ho hsz hbl hV a1 a2 aB hM3 hR3 hB3 hz))
        go_loopw [5] (fun i wr => ∃ x : Nat, x ≤ l ∧ i = .int .i64 x ∧ MB wr 31 w.heap.size m ∧ MB wr 31 (w.heap.size + 1) zeroM ∧ MB wr 31 w2.heap.size (allD m s x) ∧ Below w.heap.size w wr) (fun i _ => l - (intOf i).toNat)
        case atStart => exact ⟨0, by omega, rfl, t1.out, t2.out, t3.out, tB.out⟩
        case round =>
          obtain ⟨x, hx, rfl, r1, r2, r3, rB⟩ := hrel
          clear t1 t2 t3 tB
          have cL := r1.cL
          have cS := r1.cS
          rw [gL.out] at cL
          rw [gS.out] at cS
          replace r1 := hid r1; replace r2 := hid r2; replace r3 := hid r3; replace rB := hid rB
          by_cases hlx : x < l
          · have dx : decide ((x : Int) < (l : Int)) = true := decide_eq_true (by omega)
            obtain ⟨wo, rfl⟩ : ∃ wo : World, wo = wr := ⟨_, rfl⟩
            go_wp2
            clear cL cS
            go_loopw [6] (fun i wr => ∃ q : Nat, q ≤ s ∧ i = .int .i64 q ∧ MB wr 31 w.heap.size m ∧ MB wr 31 (w.heap.size + 1) zeroM ∧ MB wr 31 w2.heap.size (rowD m x q (allD m s x)) ∧ Below w.heap.size w wr) (fun i _ => s - (intOf i).toNat)
            case atStart => exact ⟨0, by omega, rfl, r1.out, r2.out, r3.out, rB.out⟩
            case round =>
              obtain ⟨q, hq, rfl, r1, r2, r3, rB⟩ := hrel
              have cL := r1.cL
              have cS := r1.cS
              rw [gL.out] at cL
              rw [gS.out] at cS
              replace r1 := hid r1; replace r2 := hid r2; replace r3 := hid r3; replace rB := hid rB
              by_cases hlq : q < s
              · have dq : decide ((q : Int) < (s : Int)) = true := decide_eq_true (by omega)
                have h1c := hid (fun W (hW : MB W 31 w.heap.size m) => hW.cot q x (by omega) (by omega))
                have h1 := r1.out.cnx q x (by omega) (by omega)
                have hst := hid (show rowD m x (q + 1) (allD m s x) = { rowD m x q (allD m s x) with nx := upd (rowD m x q (allD m s x)).nx (x * 3 + q) (m.ot (q * 3 + x)), ot := upd (rowD m x q (allD m s x)).ot (x * 3 + q) (m.nx (q * 3 + x)) } from rfl)
                generalize m.nx (q * 3 + x) = nx at *
                generalize m.ot (q * 3 + x) = ot at *
                obtain ⟨vo, co⟩ : ∃ u, wr.cell? ⟨w2.heap.size, 50 + x * 3 + q, none⟩ = some u := ⟨_, r3.out.cot x q (by omega) (by omega)⟩
                have fo : wr.frozen? ⟨w2.heap.size, 50 + x * 3 + q, none⟩ = false := World.rowIs.frozen r3.out _
                have hne' := hne.out
                replace hne := hid hne
                go_upto_region 14 with (fail)
                go_region
                go_upto_region 15 with (fail)
                have y1 := hid ((r1.out.setOther (a := ⟨w2.heap.size, 50 + x * 3 + q, none⟩) (by simp; omega) (.int .u8 (nx : Nat))).drew)
                have y2 := hid ((r2.out.setOther (a := ⟨w2.heap.size, 50 + x * 3 + q, none⟩) (by simp; omega) (.int .u8 (nx : Nat))).drew)
                have y3 := hid ((r3.out.setOt x q nx (by omega) (by omega)).drew)
                have yB := hid ((rB.out.setCell (p := ⟨w2.heap.size, 50 + x * 3 + q, none⟩) (by simp; omega) (.int .u8 (nx : Nat))).drew)
                clear r1 r2 r3 rB cL cS h1 co fo
                generalize (wr.setCell ⟨w2.heap.size, 50 + x * 3 + q, none⟩ (.int .u8 (nx : Nat))).drew = W2 at *
                have h1 := h1c.out W2 y1.out
                obtain ⟨vo, co⟩ : ∃ u, W2.cell? ⟨w2.heap.size, 2 + x * 3 + q, none⟩ = some u := ⟨_, y3.out.cnx x q (by omega) (by omega)⟩
                have fo : W2.frozen? ⟨w2.heap.size, 2 + x * 3 + q, none⟩ = false := World.rowIs.frozen y3.out _
                go_region
                go_wp2
                go_roundw
                case rel =>
                  refine ⟨q + 1, by omega, by go_num, (y1.out.setOther (by simp; omega) _).drew, (y2.out.setOther (by simp; omega) _).drew, ?_, (yB.out.setCell (by simp; omega) _).drew⟩
                  rw [hst.out]
                  exact (y3.out.setNx x q ot (by omega) (by omega)).drew
                case measure => simp [intOf]; omega
              · obtain rfl : q = s := by omega
                go_wp2
                go_roundw
                case rel => exact ⟨x + 1, by omega, by go_num, r1.out, r2.out, r3.out, rB.out⟩
                case measure => simp [intOf]; omega
          · obtain rfl : x = l := by omega
            have hne' := hne.out
            go_wp2_with (first
              | ((with_reducible refine gate (N := 62) rfl ?_); refine load_mach rfl _ rfl w2.heap.size rfl _ r3.out ?_)
              | ((with_reducible refine gateOp (op := .store 31 (.tmp 2) (.tmp 62)) rfl ?_); refine store_mach rfl _ _ rfl (w.heap.size + 1) rfl _ rfl 31 _ r2.out ?_; intro W3 p2 ho hsz hbl; have pB := hid (hbl _ _ (by omega) rB.out); replace p2 := hid p2; clear ho hsz hbl))
            exact ret_mach_i rfl rfl rfl p2.out rfl ⟨rfl, pB.out⟩
      · have hr : Tells false (RevP m l s) := ⟨fun h => (by cases h), fun h => absurd h hrv⟩
        replace hA := hid (show dualAns m = (zeroM, 5) by rw [hA.out, if_pos hs, if_neg hrv])
        replace g := hid g
        rw [hA.out]
        clear hrv
        go_enter Try.func22, Try.ntmps22
        go_wp2_with (first
          | ((with_reducible refine gate (N := 8) rfl ?_); refine load_mach rfl _ rfl w.heap.size rfl m hM.out ?_)
          | (go_at_call 53; (with_reducible refine (l01Is_any _ m hk.out true hi.out).mono ?_); rintro e w1 ⟨rfl, hb⟩; have hM2 := hid (hM.out.below hb hM.out.lt); have hR2 := hid (hR.out.below hb hR.out.lt); have hB2 := hid (hB.out.trans (hb.mono hB.out.size)); have cS := hM2.out.cS; rw [gS.out] at cS; clear hb hM hB hR hi)
          | (go_at_call 47; (with_reducible refine (l01In_any _ _ _ true (decide_eq_true (by omega)).symm _).mono ?_); rintro e w' ⟨rfl, rfl⟩)
          | ((with_reducible refine gate (N := 19) rfl ?_); refine load_mach rfl _ rfl w.heap.size rfl m hM2.out ?_)
          | (go_at_call 54; (with_reducible refine (l07Reversible_any _ m l s g.out false hr.out).mono ?_); rintro e w2 ⟨rfl, hb⟩; have hR3 := hid (hR2.out.below hb hR2.out.lt); have hB3 := hid (hB2.out.trans (hb.mono hB2.out.size)); clear cS hb hM2 hB2 hR2 hr)
          | ((with_reducible refine gate (N := 22) rfl ?_); refine build_zero rfl rfl ?_)
          | ((with_reducible refine gateOp (op := .store 31 (.tmp 2) (.tmp 22)) rfl ?_); refine store_mach rfl _ _ rfl (w.heap.size + 1) rfl zeroM rfl 31 _ hR3.out ?_; intro W3 p2 ho hsz hbl; have pB := hid (hbl _ _ (by omega) hB3.out); replace p2 := hid p2; clear ho hsz hbl))
        exact ret_mach_i rfl rfl rfl p2.out rfl ⟨rfl, pB.out⟩
    · replace hA := hid (show dualAns m = (zeroM, 2) by rw [hA.out, if_neg hs])
      replace g := hid g
      rw [hA.out]
      have hs' := hid (show true = true ∧ False ∨ ¬ (2 ≤ (s : Int) ∧ (s : Int) ≤ 3) from .inr (by omega))
      have hin := hid (fun W => l01In_any (s : Int) 2 3 false (decide_eq_false (by omega)).symm W)
      clear hs
      go_enter Try.func22, Try.ntmps22
      go_wp2_with (first
        | ((with_reducible refine gate (N := 8) rfl ?_); refine load_mach rfl _ rfl w.heap.size rfl m hM.out ?_)
        | (go_at_call 53; (with_reducible refine (l01Is_any _ m hk.out true hi.out).mono ?_); rintro e w1 ⟨rfl, hb⟩; have hM2 := hid (hM.out.below hb hM.out.lt); have hR2 := hid (hR.out.below hb hR.out.lt); have hB2 := hid (hB.out.trans (hb.mono hB.out.size)); have cS := hM2.out.cS; rw [gS.out] at cS; clear hb hM hB hR hi)
        | (go_at_call 47; (with_reducible refine (hin.out _).mono ?_); rintro e w' ⟨rfl, rfl⟩)
        | ((with_reducible refine gate (N := 17) rfl ?_); refine build_zero rfl rfl ?_)
        | ((with_reducible refine gateOp (op := .store 31 (.tmp 2) (.tmp 17)) rfl ?_); refine store_mach rfl _ _ rfl (w.heap.size + 1) rfl zeroM rfl 31 _ hR2.out ?_; intro W3 p2 ho hsz hbl; have pB := hid (hbl _ _ (by omega) hB2.out); replace p2 := hid p2; clear ho hsz hbl))
      exact ret_mach_i rfl rfl rfl p2.out rfl ⟨rfl, pB.out⟩
  · have hi : Tells false (IsM m) := ⟨fun h => (by cases h), fun h => absurd h hm⟩
    have hA := hid (show dualAns m = (zeroM, 1) by unfold dualAns; rw [if_neg hm])
    clear hm
    rw [hA.out]
    go_enter Try.func22, Try.ntmps22
    go_wp2_with (first
      | ((with_reducible refine gate (N := 8) rfl ?_); refine load_mach rfl _ rfl w.heap.size rfl m hM.out ?_)
      | (go_at_call 53; (with_reducible refine (l01Is_any _ m hk.out false hi.out).mono ?_); rintro e w1 ⟨rfl, hb⟩; have hM2 := hid (hM.out.below hb hM.out.lt); have hR2 := hid (hR.out.below hb hR.out.lt); have hB2 := hid (hB.out.trans (hb.mono hB.out.size)); clear hb hM hB hR hi)
      | ((with_reducible refine gate (N := 11) rfl ?_); refine build_zero rfl rfl ?_)
      | ((with_reducible refine gateOp (op := .store 31 (.tmp 2) (.tmp 11)) rfl ?_); refine store_mach rfl _ _ rfl (w.heap.size + 1) rfl zeroM rfl 31 _ hR2.out ?_; intro W3 p2 ho hsz hbl; have pB := hid (hbl _ _ (by omega) hB2.out); replace p2 := hid p2; clear ho hsz hbl))
    exact ret_mach_i rfl rfl rfl p2.out rfl ⟨rfl, pB.out⟩
open Classical in
set_option maxHeartbeats 2000000 in
set_option maxRecDepth 100000 in
theorem implDual_any (w : World) (m : Mach) (hk : m.Ok) :
    Calls Try.prog 23 #[.agg (mcells m)] w fun e w' => e = .returned (.tuple #[.agg (mcells (dualAns m).1), .int .i64 (dualAns m).2]) ∧ Below w.heap.size w w' := by
  have h1 := hid (MB.new w m 31)
  have hM := hid (h1.out.alloc (.cells (mcells zeroM) 31))
  have hR := hid (MB.new (w.alloc (.cells (mcells m) 31)) zeroM 31)
  have hB := hid (below_alloc (below_alloc (Below.refl w.heap.size w) (Nat.le_refl _) (.cells (mcells m) 31)) (Nat.le_refl _) (.cells (mcells zeroM) 31))
  rw [heap_alloc_size] at hR
  clear h1
  have hz := zeroM_run
  replace hk := hid hk
  by_cases hm : IsM m
  · obtain ⟨l, s, g⟩ := hm.good
    have hA := hid (dualAns_good g)
    have hi : Tells true (IsM m) := ⟨fun _ => hm, fun _ => rfl⟩
    have l2 := g.l2; have l3 := g.l3; have s1 := g.s1; have s16 := g.s16
    have gL := hid g.L
    have gS := hid g.S
    clear hm
    by_cases hs : s ≤ 3 ∧ 2 ≤ s
    · by_cases hrv : RevP m l s
      · have hr : Tells true (RevP m l s) := ⟨fun _ => hrv, fun _ => rfl⟩
        replace hA := hid (show dualAns m = (dual m l s, 0) by rw [hA.out, if_pos hs, if_pos hrv])
        replace g := hid g
        rw [hA.out]
        clear hrv
        have h0 := hid (fun w' : World => MB.new w' zeroM 31)
        generalize mcells zeroM = zs at *
        go_enter Try.func23, Try.ntmps23
        go_wp2_with (first
          | ((with_reducible refine gate (N := 8) rfl ?_); refine load_mach rfl _ rfl w.heap.size rfl m hM.out ?_)
          | (go_at_call 56; (with_reducible refine (IsMachine_any _ m hk.out true hi.out).mono ?_); rintro e w1 ⟨rfl, hb⟩; have hM2 := hid (hM.out.below hb hM.out.lt); have hR2 := hid (hR.out.below hb hR.out.lt); have hB2 := hid (hB.out.trans (hb.mono hB.out.size)); have cS := hM2.out.cS; rw [gS.out] at cS; clear hb hM hB hR hi)
          | (go_at_call 50; (with_reducible refine (within_any _ _ _ true (decide_eq_true (by omega)).symm _).mono ?_); rintro e w' ⟨rfl, rfl⟩)
          | (go_at_call 57; (with_reducible refine (isReversible_any _ _ m hM2.out l s g.out true hr.out).mono ?_); rintro e wx ⟨rfl, rfl⟩; clear hr; have hM3 := hM2; have hR3 := hR2; have hB3 := hB2; clear cS; have cS := hM3.out.cS; have cL := hM3.out.cL; rw [gS.out] at cS; rw [gL.out] at cL; have hne := hid hR2.out.lt; clear hM2 hB2 hR2)
          | ((with_reducible refine gate (N := 26) rfl ?_); refine build_mach rfl _ _ rfl (s : Int) (l : Int) rfl rfl ?_)
          | ((with_reducible refine gateOp (op := .store 31 (.tmp 4) (.tmp 26)) rfl ?_); have a1 := hid (hM3.out.alloc (.cells zs 31)); have a2 := hid (hR3.out.alloc (.cells zs 31)); have aB := hid (below_alloc hB3.out (Nat.le_refl _) (.cells zs 31)); refine store_mach rfl _ _ rfl w1.heap.size rfl ⟨(s : Int), (l : Int), fun _ => 0, fun _ => 0⟩ rfl 31 _ (h0.out w1) ?_; intro w3 hV ho hsz hbl; have t1 := hid (show MB w3 31 w.heap.size m from World.rowIs.of_block a1.out (ho _ (by have := hne.out; omega))); have t2 := hid (show MB w3 31 (w.heap.size + 1) zeroM from World.rowIs.of_block a2.out (ho _ (by have := hne.out; omega))); have tB := hid (hbl _ _ hB3.out.size aB.out); have t3 := hid (show MB w3 31 w1.heap.size (allD m s 0) by unfold allD; rw [gS.out, gL.out]; exact hV); clear cS cL; have cL := t1.out.cL; rw [gL.out] at cL; clear ho hsz hbl hV a1 a2 aB hM3 hR3 hB3 hz))
        clear cL
        go_loopw [29] (fun i wr => ∃ x : Nat, x ≤ l ∧ i = .int .i64 x ∧ MB wr 31 w.heap.size m ∧ MB wr 31 (w.heap.size + 1) zeroM ∧ MB wr 31 w1.heap.size (allD m s x) ∧ Below w.heap.size w wr) (fun i _ => l - (intOf i).toNat)
        case atStart => exact ⟨0, by omega, rfl, t1.out, t2.out, t3.out, tB.out⟩
        case round =>
          obtain ⟨x, hx, rfl, r1, r2, r3, rB⟩ := hrel
          clear t1 t2 t3 tB
          have cL := r1.cL
          have cS := r1.cS
          rw [gL.out] at cL
          rw [gS.out] at cS
          replace r1 := hid r1; replace r2 := hid r2; replace r3 := hid r3; replace rB := hid rB
          by_cases hlx : x < l
          · have dx : decide ((x : Int) < (l : Int)) = true := decide_eq_true (by omega)
            obtain ⟨wo, rfl⟩ : ∃ wo : World, wo = wr := ⟨_, rfl⟩
            go_wp2
            clear cL cS
            go_loopw [34] (fun i wr => ∃ q : Nat, q ≤ s ∧ i = .int .i64 q ∧ MB wr 31 w.heap.size m ∧ MB wr 31 (w.heap.size + 1) zeroM ∧ MB wr 31 w1.heap.size (rowD m x q (allD m s x)) ∧ Below w.heap.size w wr) (fun i _ => s - (intOf i).toNat)
            case atStart => exact ⟨0, by omega, rfl, r1.out, r2.out, r3.out, rB.out⟩
            case round =>
              obtain ⟨q, hq, rfl, r1, r2, r3, rB⟩ := hrel
              have cL := r1.cL
              have cS := r1.cS
              rw [gL.out] at cL
              rw [gS.out] at cS
              replace r1 := hid r1; replace r2 := hid r2; replace r3 := hid r3; replace rB := hid rB
              by_cases hlq : q < s
              · have dq : decide ((q : Int) < (s : Int)) = true := decide_eq_true (by omega)
                have h1c := hid (fun W (hW : MB W 31 w.heap.size m) => hW.cot q x (by omega) (by omega))
                have h1 := r1.out.cnx q x (by omega) (by omega)
                have hst := hid (show rowD m x (q + 1) (allD m s x) = { rowD m x q (allD m s x) with nx := upd (rowD m x q (allD m s x)).nx (x * 3 + q) (m.ot (q * 3 + x)), ot := upd (rowD m x q (allD m s x)).ot (x * 3 + q) (m.nx (q * 3 + x)) } from rfl)
                generalize m.nx (q * 3 + x) = nx at *
                generalize m.ot (q * 3 + x) = ot at *
                obtain ⟨vo, co⟩ : ∃ u, wr.cell? ⟨w1.heap.size, 50 + x * 3 + q, none⟩ = some u := ⟨_, r3.out.cot x q (by omega) (by omega)⟩
                have fo : wr.frozen? ⟨w1.heap.size, 50 + x * 3 + q, none⟩ = false := World.rowIs.frozen r3.out _
                have hne' := hne.out
                replace hne := hid hne
                have h2 := h1c.out wr r1.out
                obtain ⟨vn, cn⟩ : ∃ u, wr.cell? ⟨w1.heap.size, 2 + x * 3 + q, none⟩ = some u := ⟨_, r3.out.cnx x q (by omega) (by omega)⟩
                have fn : wr.frozen? ⟨w1.heap.size, 2 + x * 3 + q, none⟩ = false := World.rowIs.frozen r3.out _
                go_upto_region 14 with (fail)
                go_region
                go_wp2
                go_roundw
                case rel =>
                  refine ⟨q + 1, by omega, by go_num, ((r1.out.setOther (by simp; omega) _).setOther (by simp; omega) _).drew, ((r2.out.setOther (by simp; omega) _).setOther (by simp; omega) _).drew, ?_, ((rB.out.setCell (by simp; omega) _).setCell (by simp; omega) _).drew⟩
                  rw [hst.out]
                  exact ((r3.out.setOt x q nx (by omega) (by omega)).setNx x q ot (by omega) (by omega)).drew
                case measure => simp [intOf]; omega
              · obtain rfl : q = s := by omega
                go_wp2
                go_roundw
                case rel => exact ⟨x + 1, by omega, by go_num, r1.out, r2.out, r3.out, rB.out⟩
                case measure => simp [intOf]; omega
          · obtain rfl : x = l := by omega
            have hne' := hne.out
            go_wp2_with (first
              | ((with_reducible refine gate (N := 61) rfl ?_); refine load_mach rfl _ rfl w1.heap.size rfl _ r3.out ?_)
              | ((with_reducible refine gateOp (op := .store 31 (.tmp 2) (.tmp 61)) rfl ?_); refine store_mach rfl _ _ rfl (w.heap.size + 1) rfl _ rfl 31 _ r2.out ?_; intro W3 p2 ho hsz hbl; have pB := hid (hbl _ _ (by omega) rB.out); replace p2 := hid p2; clear ho hsz hbl))
            exact ret_mach_i rfl rfl rfl p2.out rfl ⟨rfl, pB.out⟩
      · have hr : Tells false (RevP m l s) := ⟨fun h => (by cases h), fun h => absurd h hrv⟩
        replace hA := hid (show dualAns m = (zeroM, 5) by rw [hA.out, if_pos hs, if_neg hrv])
        replace g := hid g
        rw [hA.out]
        clear hrv
        go_enter Try.func23, Try.ntmps23
        go_wp2_with (first
          | ((with_reducible refine gate (N := 8) rfl ?_); refine load_mach rfl _ rfl w.heap.size rfl m hM.out ?_)
          | (go_at_call 56; (with_reducible refine (IsMachine_any _ m hk.out true hi.out).mono ?_); rintro e w1 ⟨rfl, hb⟩; have hM2 := hid (hM.out.below hb hM.out.lt); have hR2 := hid (hR.out.below hb hR.out.lt); have hB2 := hid (hB.out.trans (hb.mono hB.out.size)); have cS := hM2.out.cS; rw [gS.out] at cS; clear hb hM hB hR hi)
          | (go_at_call 50; (with_reducible refine (within_any _ _ _ true (decide_eq_true (by omega)).symm _).mono ?_); rintro e w' ⟨rfl, rfl⟩)
          | (go_at_call 57; (with_reducible refine (isReversible_any _ _ m hM2.out l s g.out false hr.out).mono ?_); rintro e wx ⟨rfl, rfl⟩; have hR3 := hR2; have hB3 := hB2; clear cS hM2 hB2 hR2 hr)
          | ((with_reducible refine gate (N := 21) rfl ?_); refine build_zero rfl rfl ?_)
          | ((with_reducible refine gateOp (op := .store 31 (.tmp 2) (.tmp 21)) rfl ?_); refine store_mach rfl _ _ rfl (w.heap.size + 1) rfl zeroM rfl 31 _ hR3.out ?_; intro W3 p2 ho hsz hbl; have pB := hid (hbl _ _ (by omega) hB3.out); replace p2 := hid p2; clear ho hsz hbl))
        exact ret_mach_i rfl rfl rfl p2.out rfl ⟨rfl, pB.out⟩
    · replace hA := hid (show dualAns m = (zeroM, 2) by rw [hA.out, if_neg hs])
      replace g := hid g
      rw [hA.out]
      have hs' := hid (show true = true ∧ False ∨ ¬ (2 ≤ (s : Int) ∧ (s : Int) ≤ 3) from .inr (by omega))
      have hin := hid (fun W => within_any (s : Int) 2 3 false (decide_eq_false (by omega)).symm W)
      clear hs
      go_enter Try.func23, Try.ntmps23
      go_wp2_with (first
        | ((with_reducible refine gate (N := 8) rfl ?_); refine load_mach rfl _ rfl w.heap.size rfl m hM.out ?_)
        | (go_at_call 56; (with_reducible refine (IsMachine_any _ m hk.out true hi.out).mono ?_); rintro e w1 ⟨rfl, hb⟩; have hM2 := hid (hM.out.below hb hM.out.lt); have hR2 := hid (hR.out.below hb hR.out.lt); have hB2 := hid (hB.out.trans (hb.mono hB.out.size)); have cS := hM2.out.cS; rw [gS.out] at cS; clear hb hM hB hR hi)
        | (go_at_call 50; (with_reducible refine (hin.out _).mono ?_); rintro e w' ⟨rfl, rfl⟩)
        | ((with_reducible refine gate (N := 17) rfl ?_); refine build_zero rfl rfl ?_)
        | ((with_reducible refine gateOp (op := .store 31 (.tmp 2) (.tmp 17)) rfl ?_); refine store_mach rfl _ _ rfl (w.heap.size + 1) rfl zeroM rfl 31 _ hR2.out ?_; intro W3 p2 ho hsz hbl; have pB := hid (hbl _ _ (by omega) hB2.out); replace p2 := hid p2; clear ho hsz hbl))
      exact ret_mach_i rfl rfl rfl p2.out rfl ⟨rfl, pB.out⟩
  · have hi : Tells false (IsM m) := ⟨fun h => (by cases h), fun h => absurd h hm⟩
    have hA := hid (show dualAns m = (zeroM, 1) by unfold dualAns; rw [if_neg hm])
    clear hm
    rw [hA.out]
    go_enter Try.func23, Try.ntmps23
    go_wp2_with (first
      | ((with_reducible refine gate (N := 8) rfl ?_); refine load_mach rfl _ rfl w.heap.size rfl m hM.out ?_)
      | (go_at_call 56; (with_reducible refine (IsMachine_any _ m hk.out false hi.out).mono ?_); rintro e w1 ⟨rfl, hb⟩; have hM2 := hid (hM.out.below hb hM.out.lt); have hR2 := hid (hR.out.below hb hR.out.lt); have hB2 := hid (hB.out.trans (hb.mono hB.out.size)); clear hb hM hB hR hi)
      | ((with_reducible refine gate (N := 11) rfl ?_); refine build_zero rfl rfl ?_)
      | ((with_reducible refine gateOp (op := .store 31 (.tmp 2) (.tmp 11)) rfl ?_); refine store_mach rfl _ _ rfl (w.heap.size + 1) rfl zeroM rfl 31 _ hR2.out ?_; intro W3 p2 ho hsz hbl; have pB := hid (hbl _ _ (by omega) hB2.out); replace p2 := hid p2; clear ho hsz hbl))
    exact ret_mach_i rfl rfl rfl p2.out rfl ⟨rfl, pB.out⟩

set_option maxHeartbeats 2000000 in
theorem lawDual_any (w : World) (m : Mach) (hk : m.Ok) :
    Calls Try.prog 6 #[.agg (mcells m)] w fun e w' => e = .returned (.bool true) ∧ Below w.heap.size w w' := by
  have hM := hid (MB.new w m 28)
  have hB := hid ((Below.refl w.heap.size w).alloc (Nat.le_refl _) (.cells (mcells m) 28))
  have hz := zeroM_run
  replace hk := hid hk
  have hs := hid (fun W => specDual_any W m hk.out)
  have hp := hid (fun W => implDual_any W m hk.out)
  have hcc : ((dualAns m).2 != (dualAns m).2) = false := by simp
  generalize (dualAns m).1 = D at *
  generalize (dualAns m).2 = c at *
  have h0 := hid (fun w' : World => MB.new w' zeroM 31)
  generalize mcells zeroM = zs at *
  go_enter Try.func6, Try.ntmps6
  go_wp2_with (first
    | ((with_reducible refine gate (N := 8) rfl ?_); refine load_lmach rfl _ rfl w.heap.size rfl m hM.out ?_)
    | (go_at_call 22; (with_reducible refine (hs.out _).mono ?_); rintro e w2 ⟨rfl, hb⟩; have hM3 := hid ((hM2.out.below hb hM2.out.lt).alloc (.cells zs 31)); have hB3 := hid (hB2.out.trans (hb.mono hB2.out.size)); have hB3a := hid (below_alloc hB3.out (Nat.le_refl _) (.cells zs 31)); have hn2 := hid (Nat.lt_of_lt_of_le hM2.out.lt hb.size); clear hb hM2 hB2 hs)
    | ((with_reducible refine gateOp (op := .store 31 (.tmp 3) (.tmp 11)) rfl ?_); refine store_mach rfl _ _ rfl w2.heap.size rfl D rfl 31 _ (h0.out w2) ?_; intro w3 hV ho hsz hbl; have hM4 := hid (show MB w3 28 w.heap.size m from World.rowIs.of_block hM3.out (ho _ (by have := hn2.out; omega))); have hB4 := hid (hbl _ _ hB3.out.size hB3a.out); replace hV := hid hV; clear ho hsz hbl hM3 hB3 hB3a)
    | ((with_reducible refine gate (N := 14) rfl ?_); refine load_lmach rfl _ rfl w.heap.size rfl m hM4.out ?_)
    | (go_at_call 18; (with_reducible refine (toMachine_any m hk.out _).mono ?_); rintro e w4 ⟨rfl, hb⟩; have hV5 := hid (hV.out.below hb hV.out.lt); have hB5 := hid (hB4.out.trans (hb.mono hB4.out.size)); clear hb hB4 hV hM4)
    | (go_at_call 18; (with_reducible refine (toMachine_any m hk.out _).mono ?_); rintro e w1 ⟨rfl, hb⟩; have hM2 := hid (hM.out.below hb hM.out.lt); have hB2 := hid (hB.out.trans (hb.mono hB.out.size)); clear hb hM hB)
    | (go_at_call 23; (with_reducible refine (hp.out _).mono ?_); rintro e w5 ⟨rfl, hb⟩; have hV6 := hid ((hV5.out.below hb hV5.out.lt).alloc (.cells zs 31)); have hB6 := hid (hB5.out.trans (hb.mono hB5.out.size)); have hB6a := hid (below_alloc hB6.out (Nat.le_refl _) (.cells zs 31)); have hn5 := hid (Nat.lt_of_lt_of_le hV5.out.lt hb.size); clear hb hB5 hV5 hp)
    | ((with_reducible refine gateOp (op := .store 31 (.tmp 5) (.tmp 17)) rfl ?_); refine store_mach rfl _ _ rfl w5.heap.size rfl D rfl 31 _ (h0.out w5) ?_; intro w6 hU ho hsz hbl; have hV7 := hid (show MB w6 31 w2.heap.size D from World.rowIs.of_block hV6.out (ho _ (by have := hn5.out; omega))); have hB7 := hid (hbl _ _ hB6.out.size hB6a.out); replace hU := hid hU; clear ho hsz hbl hV6 hB6 hB6a)
    | ((with_reducible refine gate (N := 19) rfl ?_); refine load_mach rfl _ rfl w5.heap.size rfl D hU.out ?_)
    | ((with_reducible refine gate (N := 20) rfl ?_); refine load_mach rfl _ rfl w2.heap.size rfl D hV7.out ?_)
    | (go_at_call 24; (with_reducible refine (eqMachine_same D _).mono ?_); rintro e w7 ⟨rfl, hb⟩; have hB8 := hid (hB7.out.trans (hb.mono hB7.out.size)); clear hb hB7))
  go_ret
  exact ⟨rfl, hB8.out⟩
end Go.Proofs.Ytapbcfnlcnboeaa
