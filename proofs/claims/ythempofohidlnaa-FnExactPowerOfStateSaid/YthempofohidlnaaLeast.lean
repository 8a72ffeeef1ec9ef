/- The program's least equal states. -/
import Derived.Test.YthempofohidlnaaTab
import Derived.Test.YthempofohidlnaaSl
import Derived.StillTailTactics
namespace Go.Proofs.Ythempofohidlnaa
open Go.RowKit
set_option linter.unusedVariables false
set_option linter.unusedSimpArgs false

theorem rwI_eq (f : Nat → Nat → Nat) (a b L : Nat) : rwI f a L = rwI f b L ↔ (alls L fun x => f a x == f b x) = true := by
  rw [alls_iff]
  constructor
  · intro h x hx
    have h1 := rwI_get f a L x hx
    rw [h, rwI_get f b L x hx] at h1
    simp at h1; simp; omega
  · intro h
    unfold rwI
    apply List.map_congr_left
    intro x hx
    have := h x (List.mem_range.1 hx)
    simp at this; rw [this]

set_option maxHeartbeats 1000000 in
theorem least1_any (w : World) (bt bq G q j : Nat) (vN vO r : Value) (T : Tab) (hL : T.L < 100) (hn : T.n < 100000) (hTB : TB w G vN vO T) (hbt : w.cell? ⟨bt, 0, none⟩ = some (.pointer (some ⟨G, 0, none⟩))) (hbq : w.cell? ⟨bq, 0, none⟩ = some (.int .i64 q)) (hq : q < T.n) (base : Nat) (hr : Own w base 2 r (ints (rwI T.ot j T.L))) :
    Calls Try.prog 166 #[r, .pointer (some ⟨bt, 0, none⟩), .pointer (some ⟨bq, 0, none⟩)] w fun e w' => e = .returned (.bool (alls T.L fun x => T.ot j x == T.ot q x)) ∧ ∃ d, w' = w.drewN d := by
  obtain ⟨gO, cO, rfl, _, _⟩ := hTB.2.2.blk (fun e => by have h1 := congrArg List.length e; rw [tbL_length] at h1; simp at h1; omega)
  have c1 := hTB.c1
  obtain ⟨rr, cr, hrr⟩ := hTB.2.2.row q _ (tbL_get T.ot T.n T.L q hq)
  rw [tbL_length] at c1
  have he := hid (fun n => slEqual_any (w.drewN n) _ _ _ _ (rwI T.ot j T.L) (rwI T.ot q T.L) (hr.drewN n) (hrr.drewN n) (by rw [rwI_length]; omega) (by rw [rwI_length]; omega) (alls T.L fun x => T.ot j x == T.ot q x) (rwI_eq T.ot j q T.L).symm)
  generalize (alls T.L fun x => T.ot j x == T.ot q x) = res at *
  clear hTB hr hrr hL
  generalize T.n = n at *
  go_enter Try.func166, Try.ntmps166
  go_wp2
  go_quiet ((go_at_call 124; exact Calls.quiet_of (he.out _)))
  go_wp2
  go_ret
  exact ⟨rfl, _, rfl⟩

set_option maxHeartbeats 2000000 in
theorem indexRows_any (w : World) (bt bq G q : Nat) (vN vO : Value) (T : Tab) (hL : T.L < 100) (hn : T.n < 100000) (hTB : TB w G vN vO T) (hbt : w.cell? ⟨bt, 0, none⟩ = some (.pointer (some ⟨G, 0, none⟩))) (hbq : w.cell? ⟨bq, 0, none⟩ = some (.int .i64 q)) (hq : q < T.n) :
    Calls Try.prog 121 #[vO, .func (.func 166) #[] #[.pointer (some ⟨bt, 0, none⟩), .pointer (some ⟨bq, 0, none⟩)]] w fun e w' => e = .returned (.int .i64 (cls T 1 q : Nat)) ∧ ∃ d, w' = w.drewN d := by
  have hc := hid (fun d j r base hr => least1_any (w.drewN d) bt bq G q j vN vO r T hL hn ⟨hTB.1, ⟨_, (hTB.2.1.choose_spec).1.drewN d, (hTB.2.1.choose_spec).2.1, fun i r l h1 h2 => ((hTB.2.1.choose_spec).2.2 i r l h1 h2).drewN d⟩, ⟨_, (hTB.2.2.choose_spec).1.drewN d, (hTB.2.2.choose_spec).2.1, fun i r l h1 h2 => ((hTB.2.2.choose_spec).2.2 i r l h1 h2).drewN d⟩⟩ hbt hbq hq base hr)
  obtain ⟨gO, cO, rfl, _, _⟩ := hTB.2.2.blk (fun e => by have h1 := congrArg List.length e; rw [tbL_length] at h1; simp at h1; omega)
  have hrow := hid (fun j (hj : j < T.n) => hTB.2.2.row j _ (tbL_get T.ot T.n T.L j hj))
  rw [tbL_length]
  clear hTB hbt hbq
  generalize hnn : T.n = n at *
  replace hnn := hid hnn
  go_enter Try.func121, Try.ntmps121
  go_wp2
  go_loopw [8] (fun i wr => ∃ k d : Nat, k ≤ q ∧ i = .int .i64 k ∧ wr = w.drewN d ∧ Hid (∀ j, j < k → (alls T.L fun x => T.ot j x == T.ot q x) = false)) (fun i _ => n - (intOf i).toNat)
  case atStart => exact ⟨0, 0, Nat.zero_le _, rfl, rfl, fun j hj => by omega⟩
  case round =>
    obtain ⟨k, d, hk, rfl, rfl, hall⟩ := hrel
    have hkn : k < n := by omega
    obtain ⟨r, cr, hr⟩ := hrow.out k hkn
    have hc1 := hid (hc.out d k r _ (hr.drewN d))
    have hone := hid (fun h => cls_one T q k hk hall.out h)
    have hself : Hid (k = q → (alls T.L fun x => T.ot k x == T.ot q x) = true) := fun e => by subst e; rw [alls_iff]; intro x _; simp
    have hnext : Hid ((alls T.L fun x => T.ot k x == T.ot q x) = false → ∀ j, j < k + 1 → (alls T.L fun x => T.ot j x == T.ot q x) = false) := fun h j hj => by
      by_cases e : j = k
      · subst e; exact h
      · exact hall.out j (by omega)
    clear hr
    cases hres : (alls T.L fun x => T.ot k x == T.ot q x) with
    | true =>
      rw [hres] at hc1
      have h1 := hid (hone.out hres)
      clear hres
      go_wp2_with (first
        | (go_at_call 166; (with_reducible refine (hc1.out).mono ?_); rintro e w1 ⟨rfl, d2, rfl⟩))
      go_ret
      exact ⟨retI (by rw [h1.out]), _, rfl⟩
    | false =>
      rw [hres] at hc1
      have h1 := hid (hnext.out hres)
      have hkq : k ≠ q := fun e => by have := hself.out e; rw [hres] at this; cases this
      clear hres
      go_wp2_with (first
        | (go_at_call 166; (with_reducible refine (hc1.out).mono ?_); rintro e w1 ⟨rfl, d2, rfl⟩))
      go_roundw
      case rel => exact ⟨k + 1, _, by omega, by go_num, rfl, h1⟩
      case measure => simp [intOf]; omega

def clsL (T : Tab) (k n : Nat) : List Nat := (List.range n).map (cls T k)
theorem clsL_length (T : Tab) (k n : Nat) : (clsL T k n).length = n := by simp [clsL]
theorem clsL_get (T : Tab) (k n q : Nat) (h : q < n) : (nats (clsL T k n))[q]? = some (.int .i64 (cls T k q : Nat)) := by simp [nats, clsL, h]
theorem alls_succ (x : Nat) (p : Nat → Bool) : alls (x + 1) p = (alls x p && p x) := by
  unfold alls; rw [List.range_succ, List.all_append]; simp

set_option maxHeartbeats 4000000 in
set_option maxRecDepth 100000 in
theorem like_any (w : World) (G q k base : Nat) (vN vO vof : Value) (T : Tab) (hT : T.Ok) (hL : T.L < 100) (hL0 : 0 < T.L) (hn : T.n < 100000) (hTB : TB w G vN vO T) (hof : Own w base 2 vof (nats (clsL T (k + 1) T.n))) (hq : q < T.n) :
    Calls Try.prog 167 #[.pointer (some ⟨G, 0, none⟩), vof, .int .i64 q] w fun e w' => e = .returned (.int .i64 (cls T (k + 2) q : Nat)) ∧ ∃ d, w' = w.drewN d := by
  obtain ⟨gN, cN, rfl, _, _⟩ := hTB.2.1.blk (fun e => by have h1 := congrArg List.length e; rw [tbL_length] at h1; simp at h1; omega)
  obtain ⟨go, co, rfl, _, _⟩ := hof.blk (fun e => by have h1 := congrArg List.length e; rw [nats_length, clsL_length] at h1; simp at h1; omega)
  have c0 := hTB.c0
  have hrow := hid (fun j (hj : j < T.n) => hTB.2.1.row j _ (tbL_get T.nx T.n T.L j hj))
  have hcell := hid (fun j (hj : j < T.n) => hof.cellAt j _ (clsL_get T (k + 1) T.n j hj))
  have hle := hid (fun j => cls_le T (k + 1) j)
  have hnext := hid (fun r => cls_next T k q r)
  have hsame := hid (fun r (h : cls T (k + 1) r = cls T (k + 1) q) => like_same h)
  have hdiff := hid (fun r (h : cls T (k + 1) r ≠ cls T (k + 1) q) => (show like T (cls T (k + 1)) r q = false from by
    cases hl : like T (cls T (k + 1)) r q with
    | false => rfl
    | true => exact absurd ((like_iff _ _ _ _).1 hl).1 h))
  have hnx := hid (fun j x (hj : j < T.n) (hx : x < T.L) => hT.nx j x hj hx)
  rw [tbL_length] at c0
  rw [nats_length, clsL_length]
  have cq := hcell.out q hq
  have hleq := hle.out q
  clear hTB hof hT
  replace hrow := hid (show ∀ j, j < T.n → ∃ g c, w.cell? ⟨gN, j, none⟩ = some (.slice (some ⟨g, 0, none⟩) T.L c) ∧ ∀ x, x < T.L → w.cell? ⟨g, x, none⟩ = some (.int .i64 (T.nx j x : Nat)) from fun j hj => by
    obtain ⟨r, cr, hr⟩ := hrow.out j hj
    obtain ⟨g, c, rfl, _, _⟩ := hr.blk (fun e => by have h1 := congrArg List.length e; rw [ints_length, rwI_length] at h1; simp at h1; omega)
    rw [ints_length, rwI_length] at cr hr
    exact ⟨g, c, cr, fun x hx => hr.cellAt x _ (by simp [ints, rwI_get _ _ _ _ hx])⟩)
  generalize hnn : T.n = n at *
  generalize hLL : T.L = L at *
  replace hnn := hid hnn
  replace hLL := hid hLL
  generalize hc0 : cls T (k + 1) q = cq0 at *
  replace hc0 := hid hc0
  go_enter Try.func167, Try.ntmps167
  go_wp2
  clear cq
  go_loopw [7] (fun i wr => ∃ r d : Nat, cq0 ≤ r ∧ r ≤ q ∧ i = .int .i64 r ∧ wr = w.drewN d ∧ Hid (∀ j, cq0 ≤ j → j < r → like T (cls T (k + 1)) j q = false)) (fun i _ => n - (intOf i).toNat)
  case atStart => exact ⟨cq0, 0, Nat.le_refl _, hleq, rfl, rfl, fun j h1 h2 => by omega⟩
  case round =>
    obtain ⟨r, d, hr0, hrq, rfl, rfl, hall⟩ := hrel
    by_cases hlt : r < q
    · have dr : decide ((r : Int) < (q : Int)) = true := decide_eq_true (by omega)
      have hrn : r < n := by omega
      have cr := hcell.out r hrn
      have cq := hcell.out q hq
      rw [hc0.out] at cq
      have hno : Hid (like T (cls T (k + 1)) r q = false → ∀ j, cq0 ≤ j → j < r + 1 → like T (cls T (k + 1)) j q = false) := fun h j h1 h2 => by
        by_cases e : j = r
        · subst e; exact h
        · exact hall.out j h1 (by omega)
      by_cases hcl : cls T (k + 1) r = cq0
      · have hs := hid (hsame.out r hcl)
        rw [hcl] at cr
        have hbb : (cq0 != cq0) = false := by simp
        have hbz : ((cq0 : Int) != (cq0 : Int)) = false := by simp
        obtain ⟨gq, cgq, crq, hxq⟩ := hrow.out q hq
        obtain ⟨gr, cgr, crr, hxr⟩ := hrow.out r hrn
        replace hxq := hid hxq; replace hxr := hid hxr
        go_upto_region 4 with (fail)
        go_quiet (fail)
        go_wp2
        clear cr cq hbb hbz
        go_loopw [8, 37] (fun s i wr => ∃ x d : Nat, x ≤ L ∧ i = .int .i64 x ∧ wr = w.drewN d ∧ s = .bool (alls x fun y => cls T (k + 1) (T.nx q y) == cls T (k + 1) (T.nx r y))) (fun _ i _ => L - (intOf i).toNat)
        case atStart => exact ⟨0, _, Nat.zero_le _, rfl, rfl, rfl⟩
        case round =>
          obtain ⟨x, d2, hx, rfl, rfl, rfl⟩ := hrel
          have hsx := hid (alls_succ x fun y => cls T (k + 1) (T.nx q y) == cls T (k + 1) (T.nx r y))
          by_cases hxL : x < L
          · have e1 := hxq.out x hxL
            have e2 := hxr.out x hxL
            have h1 := hnx.out q x hq hxL
            have h2 := hnx.out r x hrn hxL
            have e3 := hcell.out _ h1
            have e4 := hcell.out _ h2
            generalize T.nx q x = a at *
            generalize T.nx r x = b at *
            generalize cls T (k + 1) a = ca at *
            generalize cls T (k + 1) b = cb at *
            cases hal : alls x fun y => cls T (k + 1) (T.nx q y) == cls T (k + 1) (T.nx r y) with
            | true =>
              rw [hal] at hsx
              have hbeq : (((ca : Nat) : Int) == ((cb : Nat) : Int)) = (ca == cb) := by
                by_cases e : ca = cb
                · subst e; simp
                · have h1 : (ca == cb) = false := by simpa using e
                  rw [h1]
                  have : ((ca : Nat) : Int) ≠ ((cb : Nat) : Int) := by omega
                  simpa using this
              replace hbeq := hid hbeq
              clear hal
              go_upto_region 9 with (fail)
              go_quiet (fail)
              go_wp2
              go_roundw
              case rel => exact ⟨x + 1, _, by omega, by go_num, rfl, by rw [hsx.out]; simp; first | exact hbeq.out | (rw [← hbeq.out]; simp)⟩
              case measure => simp [intOf]; omega
            | false =>
              rw [hal] at hsx
              clear hal
              go_upto_region 9 with (fail)
              go_quiet (fail)
              go_wp2
              go_roundw
              case rel => exact ⟨x + 1, _, by omega, by go_num, rfl, by rw [hsx.out]; rfl⟩
              case measure => simp [intOf]; omega
          · obtain rfl : L = x := by omega
            rw [← hs.out]
            have hres := hid (hnext.out r hr0 hrq hall.out)
            cases hal : like T (cls T (k + 1)) r q with
            | true =>
              have hres2 := hid (hres.out fun _ => hal)
              clear hal
              go_wp2
              go_ret
              exact ⟨retI (by rw [hres2.out]), _, rfl⟩
            | false =>
              have hno2 := hid (hno.out hal)
              clear hal
              go_wp2
              go_roundw
              case rel => exact ⟨r + 1, _, by omega, by omega, by go_num, rfl, hno2⟩
              case measure => simp [intOf]; omega
      · have hdf := hid (hno.out (hdiff.out r hcl))
        generalize cls T (k + 1) r = cr0 at *
        have hbz : ((cr0 : Int) != (cq0 : Int)) = true := by rw [bne_iff_ne]; omega
        clear hcl
        go_upto_region 4 with (fail)
        go_quiet (fail)
        go_wp2
        go_roundw
        case rel => exact ⟨r + 1, _, by omega, by omega, by go_num, rfl, hdf⟩
        case measure => simp [intOf]; omega
    · obtain rfl : r = q := by omega
      have hres := hid (hnext.out r hr0 hrq hall.out (fun h => absurd h (by omega)))
      have dr : decide ((r : Int) < (r : Int)) = false := decide_eq_false (by omega)
      go_wp2
      go_ret
      exact ⟨retI (by rw [hres.out]), _, rfl⟩
end Go.Proofs.Ythempofohidlnaa
