/- What the proof of LevelOrbits leans on, part 5 of 13. -/
import Derived.Test.YtgpjcekpmhfljaaZLevelOrbitsD
import Derived.StillTailTactics
import Derived.Deep.LoopGhost
/- The program's least equal states. -/
namespace Go.Proofs.Ytgpjcekpmhfljaa
open Go.RowKit
set_option linter.unusedVariables false
set_option linter.unusedSimpArgs false

theorem rwI_eq (f : Nat → Nat → Nat) (a b L : Nat) : rwI f a L = rwI f b L ↔ (alls L fun x => f a x == f b x) = true := by
  rw [alls_iff]
  constructor
  · intro h x hx
    have h1 := rwI_get f a L x hx
    rw [h, rwI_get f b L x hx] at h1
    simp at h1; simp; omega
  · intro h
    unfold rwI
    apply List.map_congr_left
    intro x hx
    have := h x (List.mem_range.1 hx)
    simp at this; rw [this]

set_option maxHeartbeats 1000000 in
theorem least1_any (w : World) (bt bq G q j : Nat) (vN vO r : Value) (T : Tab) (hL : T.L < 100) (hn : T.n < 100000) (hTB : TB w G vN vO T) (hbt : w.cell? ⟨bt, 0, none⟩ = some (.pointer (some ⟨G, 0, none⟩))) (hbq : w.cell? ⟨bq, 0, none⟩ = some (.int .i64 q)) (hq : q < T.n) (base : Nat) (hr : Own w base 2 r (ints (rwI T.ot j T.L))) :
    Calls Try.prog 169 #[r, .pointer (some ⟨bt, 0, none⟩), .pointer (some ⟨bq, 0, none⟩)] w fun e w' => e = .returned (.bool (alls T.L fun x => T.ot j x == T.ot q x)) ∧ ∃ d, w' = w.drewN d := by
  obtain ⟨gO, cO, rfl, _, _⟩ := hTB.2.2.blk (fun e => by have h1 := congrArg List.length e; rw [tbL_length] at h1; simp at h1; omega)
  have c1 := hTB.c1
  obtain ⟨rr, cr, hrr⟩ := hTB.2.2.row q _ (tbL_get T.ot T.n T.L q hq)
  rw [tbL_length] at c1
  have he := hid (fun n => slEqual_any (w.drewN n) _ _ _ _ (rwI T.ot j T.L) (rwI T.ot q T.L) (hr.drewN n) (hrr.drewN n) (by rw [rwI_length]; omega) (by rw [rwI_length]; omega) (alls T.L fun x => T.ot j x == T.ot q x) (rwI_eq T.ot j q T.L).symm)
  generalize (alls T.L fun x => T.ot j x == T.ot q x) = res at *
  clear hTB hr hrr hL
  generalize T.n = n at *
  go_enter Try.func169, Try.ntmps169
  go_wp2
  go_quiet ((go_at_call 170; exact Calls.quiet_of (he.out _)))
  go_wp2
  go_ret
  exact ⟨rfl, _, rfl⟩

set_option maxHeartbeats 2000000 in
theorem indexRows_any (w : World) (bt bq G q : Nat) (vN vO : Value) (T : Tab) (hL : T.L < 100) (hn : T.n < 100000) (hTB : TB w G vN vO T) (hbt : w.cell? ⟨bt, 0, none⟩ = some (.pointer (some ⟨G, 0, none⟩))) (hbq : w.cell? ⟨bq, 0, none⟩ = some (.int .i64 q)) (hq : q < T.n) :
    Calls Try.prog 112 #[vO, .func (.func 169) #[] #[.pointer (some ⟨bt, 0, none⟩), .pointer (some ⟨bq, 0, none⟩)]] w fun e w' => e = .returned (.int .i64 (cls T 1 q : Nat)) ∧ ∃ d, w' = w.drewN d := by
  have hc := hid (fun d j r base hr => least1_any (w.drewN d) bt bq G q j vN vO r T hL hn ⟨hTB.1, ⟨_, (hTB.2.1.choose_spec).1.drewN d, (hTB.2.1.choose_spec).2.1, fun i r l h1 h2 => ((hTB.2.1.choose_spec).2.2 i r l h1 h2).drewN d⟩, ⟨_, (hTB.2.2.choose_spec).1.drewN d, (hTB.2.2.choose_spec).2.1, fun i r l h1 h2 => ((hTB.2.2.choose_spec).2.2 i r l h1 h2).drewN d⟩⟩ hbt hbq hq base hr)
  obtain ⟨gO, cO, rfl, _, _⟩ := hTB.2.2.blk (fun e => by have h1 := congrArg List.length e; rw [tbL_length] at h1; simp at h1; omega)
  have hrow := hid (fun j (hj : j < T.n) => hTB.2.2.row j _ (tbL_get T.ot T.n T.L j hj))
  rw [tbL_length]
  clear hTB hbt hbq
  generalize hnn : T.n = n at *
  replace hnn := hid hnn
  go_enter Try.func112, Try.ntmps112
  go_wp2
  go_loopw [8] (fun i wr => ∃ k d : Nat, k ≤ q ∧ i = .int .i64 k ∧ wr = w.drewN d ∧ Hid (∀ j, j < k → (alls T.L fun x => T.ot j x == T.ot q x) = false)) (fun i _ => n - (intOf i).toNat)
  case atStart => exact ⟨0, 0, Nat.zero_le _, rfl, rfl, fun j hj => by omega⟩
  case round =>
    obtain ⟨k, d, hk, rfl, rfl, hall⟩ := hrel
    have hkn : k < n := by omega
    obtain ⟨r, cr, hr⟩ := hrow.out k hkn
    have hc1 := hid (hc.out d k r _ (hr.drewN d))
    have hone := hid (fun h => cls_one T q k hk hall.out h)
    have hself : Hid (k = q → (alls T.L fun x => T.ot k x == T.ot q x) = true) := fun e => by subst e; rw [alls_iff]; intro x _; simp
    have hnext : Hid ((alls T.L fun x => T.ot k x == T.ot q x) = false → ∀ j, j < k + 1 → (alls T.L fun x => T.ot j x == T.ot q x) = false) := fun h j hj => by
      by_cases e : j = k
      · subst e; exact h
      · exact hall.out j (by omega)
    clear hr
    cases hres : (alls T.L fun x => T.ot k x == T.ot q x) with
    | true =>
      rw [hres] at hc1
      have h1 := hid (hone.out hres)
      clear hres
      go_wp2_with (first
        | (go_at_call 169; (with_reducible refine (hc1.out).mono ?_); rintro e w1 ⟨rfl, d2, rfl⟩))
      go_ret
      exact ⟨retI (by rw [h1.out]), _, rfl⟩
    | false =>
      rw [hres] at hc1
      have h1 := hid (hnext.out hres)
      have hkq : k ≠ q := fun e => by have := hself.out e; rw [hres] at this; cases this
      clear hres
      go_wp2_with (first
        | (go_at_call 169; (with_reducible refine (hc1.out).mono ?_); rintro e w1 ⟨rfl, d2, rfl⟩))
      go_roundw
      case rel => exact ⟨k + 1, _, by omega, by go_num, rfl, h1⟩
      case measure => simp [intOf]; omega

def clsL (T : Tab) (k n : Nat) : List Nat := (List.range n).map (cls T k)
theorem clsL_length (T : Tab) (k n : Nat) : (clsL T k n).length = n := by simp [clsL]
theorem clsL_get (T : Tab) (k n q : Nat) (h : q < n) : (nats (clsL T k n))[q]? = some (.int .i64 (cls T k q : Nat)) := by simp [nats, clsL, h]
theorem alls_succ (x : Nat) (p : Nat → Bool) : alls (x + 1) p = (alls x p && p x) := by
  unfold alls; rw [List.range_succ, List.all_append]; simp

set_option maxHeartbeats 4000000 in
set_option maxRecDepth 100000 in
theorem like_any (w : World) (G q k base : Nat) (vN vO vof : Value) (T : Tab) (hT : T.Ok) (hL : T.L < 100) (hL0 : 0 < T.L) (hn : T.n < 100000) (hTB : TB w G vN vO T) (hof : Own w base 2 vof (nats (clsL T (k + 1) T.n))) (hq : q < T.n) :
    Calls Try.prog 171 #[.pointer (some ⟨G, 0, none⟩), vof, .int .i64 q] w fun e w' => e = .returned (.int .i64 (cls T (k + 2) q : Nat)) ∧ ∃ d, w' = w.drewN d := by
  obtain ⟨gN, cN, rfl, _, _⟩ := hTB.2.1.blk (fun e => by have h1 := congrArg List.length e; rw [tbL_length] at h1; simp at h1; omega)
  obtain ⟨go, co, rfl, _, _⟩ := hof.blk (fun e => by have h1 := congrArg List.length e; rw [nats_length, clsL_length] at h1; simp at h1; omega)
  have c0 := hTB.c0
  have hrow := hid (fun j (hj : j < T.n) => hTB.2.1.row j _ (tbL_get T.nx T.n T.L j hj))
  have hcell := hid (fun j (hj : j < T.n) => hof.cellAt j _ (clsL_get T (k + 1) T.n j hj))
  have hle := hid (fun j => cls_le T (k + 1) j)
  have hnext := hid (fun r => cls_next T k q r)
  have hsame := hid (fun r (h : cls T (k + 1) r = cls T (k + 1) q) => like_same h)
  have hdiff := hid (fun r (h : cls T (k + 1) r ≠ cls T (k + 1) q) => (show like T (cls T (k + 1)) r q = false from by
    cases hl : like T (cls T (k + 1)) r q with
    | false => rfl
    | true => exact absurd ((like_iff _ _ _ _).1 hl).1 h))
  have hnx := hid (fun j x (hj : j < T.n) (hx : x < T.L) => hT.nx j x hj hx)
  rw [tbL_length] at c0
  rw [nats_length, clsL_length]
  have cq := hcell.out q hq
  have hleq := hle.out q
  clear hTB hof hT
  replace hrow := hid (show ∀ j, j < T.n → ∃ g c, w.cell? ⟨gN, j, none⟩ = some (.slice (some ⟨g, 0, none⟩) T.L c) ∧ ∀ x, x < T.L → w.cell? ⟨g, x, none⟩ = some (.int .i64 (T.nx j x : Nat)) from fun j hj => by
    obtain ⟨r, cr, hr⟩ := hrow.out j hj
    obtain ⟨g, c, rfl, _, _⟩ := hr.blk (fun e => by have h1 := congrArg List.length e; rw [ints_length, rwI_length] at h1; simp at h1; omega)
    rw [ints_length, rwI_length] at cr hr
    exact ⟨g, c, cr, fun x hx => hr.cellAt x _ (by simp [ints, rwI_get _ _ _ _ hx])⟩)
  generalize hnn : T.n = n at *
  generalize hLL : T.L = L at *
  replace hnn := hid hnn
  replace hLL := hid hLL
  generalize hc0 : cls T (k + 1) q = cq0 at *
  replace hc0 := hid hc0
  go_enter Try.func171, Try.ntmps171
  go_wp2
  clear cq
  go_loopw [7] (fun i wr => ∃ r d : Nat, cq0 ≤ r ∧ r ≤ q ∧ i = .int .i64 r ∧ wr = w.drewN d ∧ Hid (∀ j, cq0 ≤ j → j < r → like T (cls T (k + 1)) j q = false)) (fun i _ => n - (intOf i).toNat)
  case atStart => exact ⟨cq0, 0, Nat.le_refl _, hleq, rfl, rfl, fun j h1 h2 => by omega⟩
  case round =>
    obtain ⟨r, d, hr0, hrq, rfl, rfl, hall⟩ := hrel
    by_cases hlt : r < q
    · have dr : decide ((r : Int) < (q : Int)) = true := decide_eq_true (by omega)
      have hrn : r < n := by omega
      have cr := hcell.out r hrn
      have cq := hcell.out q hq
      rw [hc0.out] at cq
      have hno : Hid (like T (cls T (k + 1)) r q = false → ∀ j, cq0 ≤ j → j < r + 1 → like T (cls T (k + 1)) j q = false) := fun h j h1 h2 => by
        by_cases e : j = r
        · subst e; exact h
        · exact hall.out j h1 (by omega)
      by_cases hcl : cls T (k + 1) r = cq0
      · have hs := hid (hsame.out r hcl)
        rw [hcl] at cr
        have hbb : (cq0 != cq0) = false := by simp
        have hbz : ((cq0 : Int) != (cq0 : Int)) = false := by simp
        obtain ⟨gq, cgq, crq, hxq⟩ := hrow.out q hq
        obtain ⟨gr, cgr, crr, hxr⟩ := hrow.out r hrn
        replace hxq := hid hxq; replace hxr := hid hxr
        go_upto_region 4 with (fail)
        go_quiet (fail)
        go_wp2
        clear cr cq hbb hbz
        go_loopw [8, 37] (fun s i wr => ∃ x d : Nat, x ≤ L ∧ i = .int .i64 x ∧ wr = w.drewN d ∧ s = .bool (alls x fun y => cls T (k + 1) (T.nx q y) == cls T (k + 1) (T.nx r y))) (fun _ i _ => L - (intOf i).toNat)
        case atStart => exact ⟨0, _, Nat.zero_le _, rfl, rfl, rfl⟩
        case round =>
          obtain ⟨x, d2, hx, rfl, rfl, rfl⟩ := hrel
          have hsx := hid (alls_succ x fun y => cls T (k + 1) (T.nx q y) == cls T (k + 1) (T.nx r y))
          by_cases hxL : x < L
          · have e1 := hxq.out x hxL
            have e2 := hxr.out x hxL
            have h1 := hnx.out q x hq hxL
            have h2 := hnx.out r x hrn hxL
            have e3 := hcell.out _ h1
            have e4 := hcell.out _ h2
            generalize T.nx q x = a at *
            generalize T.nx r x = b at *
            generalize cls T (k + 1) a = ca at *
            generalize cls T (k + 1) b = cb at *
            cases hal : alls x fun y => cls T (k + 1) (T.nx q y) == cls T (k + 1) (T.nx r y) with
            | true =>
              rw [hal] at hsx
              have hbeq : (((ca : Nat) : Int) == ((cb : Nat) : Int)) = (ca == cb) := by
                by_cases e : ca = cb
                · subst e; simp
                · have h1 : (ca == cb) = false := by simpa using e
                  rw [h1]
                  have : ((ca : Nat) : Int) ≠ ((cb : Nat) : Int) := by omega
                  simpa using this
              replace hbeq := hid hbeq
              clear hal
              go_upto_region 9 with (fail)
              go_quiet (fail)
              go_wp2
              go_roundw
              case rel => exact ⟨x + 1, _, by omega, by go_num, rfl, by rw [hsx.out]; simp; first | exact hbeq.out | (rw [← hbeq.out]; simp)⟩
              case measure => simp [intOf]; omega
            | false =>
              rw [hal] at hsx
              clear hal
              go_upto_region 9 with (fail)
              go_quiet (fail)
              go_wp2
              go_roundw
              case rel => exact ⟨x + 1, _, by omega, by go_num, rfl, by rw [hsx.out]; rfl⟩
              case measure => simp [intOf]; omega
          · obtain rfl : L = x := by omega
            rw [← hs.out]
            have hres := hid (hnext.out r hr0 hrq hall.out)
            cases hal : like T (cls T (k + 1)) r q with
            | true =>
              have hres2 := hid (hres.out fun _ => hal)
              clear hal
              go_wp2
              go_ret
              exact ⟨retI (by rw [hres2.out]), _, rfl⟩
            | false =>
              have hno2 := hid (hno.out hal)
              clear hal
              go_wp2
              go_roundw
              case rel => exact ⟨r + 1, _, by omega, by omega, by go_num, rfl, hno2⟩
              case measure => simp [intOf]; omega
      · have hdf := hid (hno.out (hdiff.out r hcl))
        generalize cls T (k + 1) r = cr0 at *
        have hbz : ((cr0 : Int) != (cq0 : Int)) = true := by rw [bne_iff_ne]; omega
        clear hcl
        go_upto_region 4 with (fail)
        go_quiet (fail)
        go_wp2
        go_roundw
        case rel => exact ⟨r + 1, _, by omega, by omega, by go_num, rfl, hdf⟩
        case measure => simp [intOf]; omega
    · obtain rfl : r = q := by omega
      have hres := hid (hnext.out r hr0 hrq hall.out (fun h => absurd h (by omega)))
      have dr : decide ((r : Int) < (r : Int)) = false := decide_eq_false (by omega)
      go_wp2
      go_ret
      exact ⟨retI (by rw [hres.out]), _, rfl⟩
end Go.Proofs.Ytgpjcekpmhfljaa

/- The program's least equal states: all rounds. -/
namespace Go.Proofs.Ytgpjcekpmhfljaa
open Go.RowKit
set_option linter.unusedVariables false
set_option linter.unusedSimpArgs false

/-- A list that is filled from its beginning. -/
def filL (f : Nat → Nat) (q n : Nat) : List Nat := (List.range n).map fun j => if j < q then f j else 0
theorem filL_length (f : Nat → Nat) (q n : Nat) : (filL f q n).length = n := by simp [filL]
theorem filL_zero (f : Nat → Nat) (n : Nat) : List.replicate n (Value.int .i64 0) = nats (filL f 0 n) := by
  apply List.ext_getElem?
  intro i
  by_cases h : i < n
  · simp [nats, filL, h]
  · simp [nats, filL, h]
theorem filL_set (f : Nat → Nat) (q n : Nat) : (nats (filL f q n)).set q (.int .i64 (f q : Nat)) = nats (filL f (q + 1) n) := by
  apply List.ext_getElem?
  intro i
  rw [List.getElem?_set]
  by_cases hi : q = i
  · subst hi
    by_cases h : q < n
    · rw [if_pos rfl, if_pos (by simp [nats, filL]; exact h)]
      simp [nats, filL, h]
    · rw [if_pos rfl, if_neg (by simp [nats, filL]; omega)]
      simp [nats, filL, h]
  · rw [if_neg hi]
    by_cases h : i < n
    · simp only [nats, filL, List.getElem?_map, List.getElem?_range h, Option.map_some]
      by_cases hl : i < q
      · rw [if_pos hl, if_pos (by omega)]
      · rw [if_neg hl, if_neg (by omega)]
    · simp [nats, filL, h]
theorem filL_all (T : Tab) (k n : Nat) : filL (cls T k) n n = clsL T k n := by
  unfold filL clsL
  apply List.map_congr_left
  intro j hj
  rw [if_pos (List.mem_range.1 hj)]
theorem filL_get (f : Nat → Nat) (q n j : Nat) (h : j < n) : ∃ u, (nats (filL f q n))[j]? = some u := ⟨_, List.getElem?_eq_getElem (by rw [nats_length, filL_length]; exact h)⟩
theorem clsL_fix {T : Tab} (hT : T.Ok) {k : Nat} (hk : k ≤ T.n) (h : Stable T k) : clsL T k T.n = (List.range T.n).map (fix T) := by
  unfold clsL
  apply List.map_congr_left
  intro q hq
  exact (fix_of hT hk h q (List.mem_range.1 hq)).symm

set_option maxHeartbeats 8000000 in
set_option maxRecDepth 100000 in
theorem least_any (w : World) (G : Nat) (vN vO : Value) (T : Tab) (hT : T.Ok) (hL : T.L < 100) (hL0 : 0 < T.L) (hn : T.n < 100000) (hTB : TB w G vN vO T) :
    Calls Try.prog 159 #[.pointer (some ⟨G, 0, none⟩)] w fun e w' => ∃ v, e = .returned v ∧ Own w' w.heap.size 2 v (nats ((List.range T.n).map (fix T))) ∧ Below w.heap.size w w' := by
  obtain ⟨gO, cO, rfl, _, _⟩ := hTB.2.2.blk (fun e => by have h1 := congrArg List.length e; rw [tbL_length] at h1; simp at h1; have := hT.pos; omega)
  rw [tbL_length] at hTB
  have hS := hid ((St.start w).newBlk #[.pointer (some ⟨G, 0, none⟩)] 164)
  have hGlt := hTB.lt
  have c1 := (hTB.below (below_alloc (Below.refl w.heap.size w) (Nat.le_refl _) (.cells #[.pointer (some ⟨G, 0, none⟩)] 164))).c1
  have hidx := hid (fun W bt bq q hW h1 h2 hq => indexRows_any W bt bq G q vN (.slice (some ⟨gO, 0, none⟩) T.n cO) T hL hn hW h1 h2 hq)
  have hlike := hid (fun W q k base vof hW h1 hq => like_any W G q k base vN (.slice (some ⟨gO, 0, none⟩) T.n cO) vof T hT hL hL0 hn hW h1 hq)
  have hmk := fun W : World => run_make_row' (P := Try.prog) 34 2 (.int .i64 0) 8 Try.underlying34 info_i64 rfl .i64 .i64 T.n (by omega) (by omega) W
  have hmc := hid (toList_madeCells_one (.int .i64 0) T.n)
  generalize madeCells #[.int .i64 0] T.n = mc at *
  have hmcs := hid (show mc.size = T.n by rw [← Array.length_toList, hmc.out, List.length_replicate])
  have hmf : ∀ (fn : Fn) (first cap : Array Value) (w : World), (Instr.makeFunc fn first cap).run Try.prog w = .ok (.func fn first cap) w := fun _ _ _ _ => rfl
  have hcb := hid (fun k => cnt1_le T (k + 1) T.n)
  have hcp := hid (cnt1_pos T 0 T.n hT.pos)
  have hst := hid (fun k => stable_or T k)
  have hfx := hid (fun k hk h => clsL_fix hT (k := k) hk h)
  have hTB' := hid hTB
  replace hT := hid hT
  clear hTB
  have hTB := hTB'
  clear hTB'
  generalize hnn : T.n = n at *
  replace hnn := hid hnn
  go_enter Try.func159, Try.ntmps159
  go_upto_region 2 with (fail)
  clear c1
  have c1 : ((w.alloc (.cells #[.pointer (some ⟨G, 0, none⟩)] 164)).alloc (.cells mc 2)).cell? ⟨G, 1, none⟩ = some (.slice (some ⟨gO, 0, none⟩) n cO) := (hTB.out.below ((hS.out.alloc _).bel)).c1
  have hS1 := hid (hS.out.newArr mc n hmcs.out 2 (by omega))
  rw [hmc.out, filL_zero (cls T 1) n] at hS1
  clear hS
  have hbt := hid (show w.heap.size = w.heap.size from rfl)
  rw [heap_alloc_size] at hS1
  have e2 : ((w.alloc (.cells #[.pointer (some ⟨G, 0, none⟩)] 164)).alloc (.cells mc 2)).cell? ⟨w.heap.size, 0, none⟩ = some (.pointer (some ⟨G, 0, none⟩)) := cell_of_row _ _ 0 _ _ _ hS1.out.k1
  generalize (w.alloc (.cells #[.pointer (some ⟨G, 0, none⟩)] 164)).alloc (.cells mc 2) = W1 at *
  go_wp2
  clear e2 c1
  generalize hbt' : w.heap.size = bt at *
  replace hbt := hid hbt'
  clear hbt'
  go_loopw [19] (fun i wr => ∃ q : Nat, q ≤ n ∧ i = .int .i64 q ∧ St bt w [Asn.own bt 2 (.slice (some ⟨bt + 1, 0, none⟩) n n) (nats (filL (cls T 1) q n)), Asn.blk bt #[.pointer (some ⟨G, 0, none⟩)] 164] wr) (fun i _ => n - (intOf i).toNat)
  case atStart => exact ⟨0, Nat.zero_le _, rfl, hS1.out⟩
  case round =>
    obtain ⟨q, hq, rfl, rS⟩ := hrel
    clear hS1
    replace rS := hid rS
    by_cases hqn : q < n
    · go_upto_region 5 with (fail)
      have yS := hid (rS.out.newBlk #[.int .i64 (q : Int)] 3)
      clear rS
      generalize wr.alloc (.cells #[.int .i64 (q : Int)] 3) = wa at *
      generalize wr.heap.size = bq at *
      have hTd := hid (hTB.out.below (by have h := yS.out.drew.bel; rw [← hbt.out] at h; exact h))
      have zS := hid yS.out.drew
      clear yS
      have hw0 : (∃ md, wa.drew = wa.drew.drewN md) := ⟨0, rfl⟩
      refine wp_region_heldL (L := [(9, (fun w' : World => ∃ md, w' = wa.drew.drewN md))]) (by kernel_rfl) (HeldL.cons (fun _ => hw0) HeldL.nil) (fun hHeld => ?_)
      clear hw0
      generalize wa.drew = wb at *
      have e1 : wb.cell? ⟨bq, 0, none⟩ = some (.int .i64 (q : Int)) := cell_of_row _ _ 0 _ _ _ zS.out.k0
      have e2 : wb.cell? ⟨bt, 0, none⟩ = some (.pointer (some ⟨G, 0, none⟩)) := cell_of_row _ _ 0 _ _ _ zS.out.k2
      have e3 := hTd.out.c1
      have hi := hid (hidx.out wb bt bq q hTd.out e2 e1 hqn)
      obtain ⟨u, hu⟩ := filL_get (cls T 1) q n q hqn
      have co := Own.cellAt zS.out.o1 q u hu
      have fo := Own.frozenAt zS.out.o1 (by rw [nats_length, filL_length]) q
      have hs := hid (filL_set (cls T 1) q n)
      clear hu hTd
      generalize cls T 1 q = cq at *
      refine wpAnyL_take0 (i := 0) (v := ?_) rfl (by kernel_rfl) (by kernel_rfl) (by kernel_rfl) (by rfl) (fun _ _ _ h => h) (Or.inl ⟨by rfl, ?_⟩) (by assumption) ?_
      rotate_left
      · (intro W _; go_simp; (with_reducible rfl))
      intro hHeld'
      clear hHeld; have hHeld := hHeld'; clear hHeld'
      try simp only [Act.put, List.setIfInBounds_toArray, List.set_cons_zero, List.set_cons_succ]
      refine wpAnyL_takeP (i := 1) 9 [] (v := ?_) (fun w' : World => ∃ md, w' = wb.drewN md) rfl (by kernel_rfl) (by kernel_rfl) (by kernel_rfl) (by rfl) (by kernel_rfl) (by simp) (fun _ _ _ h => h) (Or.inl ⟨by rfl, ?_⟩) (by assumption) ?_
      rotate_left
      · (intro W hW; (obtain ⟨md, rfl⟩ := hW); go_simp; (with_reducible rfl))
      intro hHeld'
      clear hHeld; have hHeld := hHeld'; clear hHeld'
      try simp only [Act.put, List.setIfInBounds_toArray, List.set_cons_zero, List.set_cons_succ]
      refine wpAnyL_takeP (i := 2) 9 [] (v := ?_) (fun w' : World => ∃ md, w' = wb.drewN md) rfl (by kernel_rfl) (by kernel_rfl) (by kernel_rfl) (by rfl) (by kernel_rfl) (by simp) (fun _ _ _ h => h) (Or.inl ⟨by rfl, ?_⟩) (by assumption) ?_
      rotate_left
      · (intro W hW; (obtain ⟨md, rfl⟩ := hW); go_simp; (with_reducible rfl))
      intro hHeld'
      clear hHeld; have hHeld := hHeld'; clear hHeld'
      try simp only [Act.put, List.setIfInBounds_toArray, List.set_cons_zero, List.set_cons_succ]
      refine wpAnyL_take0 (i := 3) (v := ?_) rfl (by kernel_rfl) (by kernel_rfl) (by kernel_rfl) (by rfl) (fun _ _ _ h => h) (Or.inl ⟨by rfl, ?_⟩) (by assumption) ?_
      rotate_left
      · (intro W _; go_simp; (with_reducible rfl))
      intro hHeld'
      clear hHeld; have hHeld := hHeld'; clear hHeld'
      try simp only [Act.put, List.setIfInBounds_toArray, List.set_cons_zero, List.set_cons_succ]
      refine wpAnyL_take0 (i := 4) (v := ?_) rfl (by kernel_rfl) (by kernel_rfl) (by kernel_rfl) (by rfl) (fun _ _ _ h => h) (Or.inl ⟨by rfl, ?_⟩) (by assumption) ?_
      rotate_left
      · (intro W _; go_simp; (with_reducible rfl))
      intro hHeld'
      clear hHeld; have hHeld := hHeld'; clear hHeld'
      try simp only [Act.put, List.setIfInBounds_toArray, List.set_cons_zero, List.set_cons_succ]
      refine wpAnyL_takeP (i := 5) 9 [] (v := ?_) (fun w' : World => ∃ md, w' = wb.drewN md) rfl (by kernel_rfl) (by kernel_rfl) (by kernel_rfl) (by rfl) (by kernel_rfl) (by simp) (fun _ _ _ h => h) (Or.inl ⟨by rfl, ?_⟩) (by assumption) ?_
      rotate_left
      · (intro W hW; (obtain ⟨md, rfl⟩ := hW); go_simp; (with_reducible rfl))
      intro hHeld'
      clear hHeld; have hHeld := hHeld'; clear hHeld'
      try simp only [Act.put, List.setIfInBounds_toArray, List.set_cons_zero, List.set_cons_succ]
      refine wpAnyL_take0 (i := 6) (v := ?_) rfl (by kernel_rfl) (by kernel_rfl) (by kernel_rfl) (by rfl) (fun _ _ _ h => h) (Or.inl ⟨by rfl, ?_⟩) (by assumption) ?_
      rotate_left
      · (intro W _; go_simp; (with_reducible rfl))
      intro hHeld'
      clear hHeld; have hHeld := hHeld'; clear hHeld'
      try simp only [Act.put, List.setIfInBounds_toArray, List.set_cons_zero, List.set_cons_succ]
      refine wpAnyL_ready (rs := [7]) (by kernel_rfl) (by simp) ?_
      refine AllReadyL.cons rfl (fun K hK => ?_) AllReadyL.nil
      go_simp
      go_at_call 112
      (with_reducible refine (hi.out).mono ?_)
      rintro e w1 ⟨rfl, d, rfl⟩
      go_simp
      refine hK.out _ _ (HeldL.cons (fun _ => ⟨d, rfl⟩) HeldL.nil) (fun hHeld' => ?_)
      clear hK K hHeld; have hHeld := hHeld'; clear hHeld'
      try simp only [Act.put, List.setIfInBounds_toArray, List.set_cons_zero, List.set_cons_succ]
      clear e1 e2 e3
      refine wpAnyL_take0 (i := 8) (v := ?_) rfl (by kernel_rfl) (by kernel_rfl) (by kernel_rfl) (by rfl) (fun _ _ _ h => h) (Or.inl ⟨by rfl, ?_⟩) (by assumption) ?_
      rotate_left
      · (intro W _; go_simp; (with_reducible rfl))
      intro hHeld'
      clear hHeld; have hHeld := hHeld'; clear hHeld'
      try simp only [Act.put, List.setIfInBounds_toArray, List.set_cons_zero, List.set_cons_succ]
      refine wpAnyL_ready (rs := [9]) (by kernel_rfl) (by simp) ?_
      refine AllReadyL.cons rfl (fun K hK => ?_) AllReadyL.nil
      go_simp
      have zS2 := hid ((zS.out.drewN d).drop.setOwn (by rw [nats_length, filL_length]) q (.int .i64 (cq : Int)) hqn)
      rw [hs.out] at zS2
      refine hK.out _ _ (HeldL.cons (fun h => absurd h (by decide +kernel)) HeldL.nil) (fun hHeld' => ?_)
      clear hK K hHeld; have hHeld := hHeld'; clear hHeld'
      try simp only [Act.put, List.setIfInBounds_toArray, List.set_cons_zero, List.set_cons_succ]
      refine wpAnyL_done (by kernel_rfl) ?_ _
      go_wp2
      go_roundw
      case rel => exact ⟨q + 1, by omega, by go_num, zS2.out⟩
      case measure => simp [intOf]; omega
    · obtain rfl : n = q := by omega
      have hS2 := rS.out
      rw [← hnn.out, filL_all, hnn.out] at hS2
      replace hS2 := hid hS2
      clear rS
      go_wp2
      go_loopg [3] n (fun gk v wr => ∃ k, k + 1 ≤ cnt1 T (k + 1) n ∧ gk = n - k ∧ St bt w [Asn.own bt 2 v (nats (clsL T (k + 1) n)), Asn.blk bt #[.pointer (some ⟨G, 0, none⟩)] 164] wr)
      case atStart => exact ⟨0, hcp.out, by omega, hS2.out⟩
      case round =>
        obtain ⟨k, hk, rfl, rS⟩ := hrel
        clear hS2
        have hkn : k < n := by have := hcb.out k; omega
        obtain ⟨g1, c1, rfl, _, _⟩ := rS.o0.blk (fun e => by have h1 := congrArg List.length e; rw [nats_length, clsL_length] at h1; simp at h1; omega)
        rw [nats_length, clsL_length] at rS ⊢
        have yS := hid (rS.newArr mc n hmcs.out 2 (by omega))
        rw [hmc.out, filL_zero (cls T (k + 2)) n] at yS
        clear rS
        go_wp2
        generalize wr.alloc (.cells mc 2) = wa at *
        generalize wr.heap.size = g2 at *
        go_loopw [6, 37] (fun s i wr => ∃ q : Nat, q ≤ n ∧ i = .int .i64 q ∧ s = .bool (alls q fun j => cls T (k + 2) j == cls T (k + 1) j) ∧ St bt w [Asn.own bt 2 (.slice (some ⟨g2, 0, none⟩) n n) (nats (filL (cls T (k + 2)) q n)), Asn.own bt 2 (.slice (some ⟨g1, 0, none⟩) n c1) (nats (clsL T (k + 1) n)), Asn.blk bt #[.pointer (some ⟨G, 0, none⟩)] 164] wr) (fun _ i _ => n - (intOf i).toNat)
        case atStart => exact ⟨0, Nat.zero_le _, rfl, rfl, yS.out⟩
        case round =>
          obtain ⟨q, hq, rfl, rfl, zS⟩ := hrel
          clear yS
          by_cases hqn : q < n
          · have e2 : wr.cell? ⟨bt, 0, none⟩ = some (.pointer (some ⟨G, 0, none⟩)) := cell_of_row _ _ 0 _ _ _ zS.k2
            have hTa := hid (hTB.out.below (by have h := zS.bel; rw [← hbt.out] at h; exact h))
            have hl := hid (hlike.out wr q k bt (.slice (some ⟨g1, 0, none⟩) n c1) hTa.out (by have h := zS.o1; exact h) hqn)
            obtain ⟨u, hu⟩ := filL_get (cls T (k + 2)) q n q hqn
            have co := Own.cellAt zS.o0 q u hu
            have fo := Own.frozenAt zS.o0 (by rw [nats_length, filL_length]) q
            have hs := hid (filL_set (cls T (k + 2)) q n)
            have hsame := hid (alls_succ q fun j => cls T (k + 2) j == cls T (k + 1) j)
            have hnew := hid (show (nats (filL (cls T (k + 2)) (q + 1) n))[q]? = some (.int .i64 (cls T (k + 2) q : Nat)) by simp [nats, filL, hqn])
            have hold := hid (clsL_get T (k + 1) n q hqn)
            replace zS := hid zS
            clear hu hTa
            generalize cls T (k + 2) q = ca at *
            generalize cls T (k + 1) q = cb at *
            go_upto_region 13 with (go_at_call 171; (with_reducible refine (hl.out).mono ?_); rintro e w1 ⟨rfl, d, rfl⟩)
            have zS2 := hid ((zS.out.drewN d).setOwn (by rw [nats_length, filL_length]) q (.int .i64 (ca : Int)) hqn)
            rw [hs.out] at zS2
            clear co fo zS hl e2
            generalize ((wr.drewN d).setCell ⟨g2, q, none⟩ (.int .i64 (ca : Int))) = wc at *
            have e3 := Own.cellAt zS2.out.o0 q _ hnew.out
            have e4 := Own.cellAt zS2.out.o1 q _ hold.out
            have hbeq : (((ca : Nat) : Int) == ((cb : Nat) : Int)) = (ca == cb) := by
              by_cases e : ca = cb
              · subst e; simp
              · have h1 : (ca == cb) = false := by simpa using e
                rw [h1]
                have : ((ca : Nat) : Int) ≠ ((cb : Nat) : Int) := by omega
                simpa using this
            replace hbeq := hid hbeq
            cases hal : alls q fun j => cls T (k + 2) j == cls T (k + 1) j with
            | true =>
              rw [hal] at hsame
              clear hal
              go_quiet (fail)
              go_wp2
              go_roundw
              case rel => exact ⟨q + 1, by omega, by go_num, by rw [hsame.out]; simp; first | exact hbeq.out | (rw [← hbeq.out]; simp), zS2.out.drewN _⟩
              case measure => simp [intOf]; omega
            | false =>
              rw [hal] at hsame
              clear hal
              go_quiet (fail)
              go_wp2
              go_roundw
              case rel => exact ⟨q + 1, by omega, by go_num, by rw [hsame.out]; rfl, zS2.out.drewN _⟩
              case measure => simp [intOf]; omega
          · obtain rfl : n = q := by omega
            have hS2 := zS
            rw [← hnn.out, filL_all, hnn.out] at hS2
            replace hS2 := hid hS2
            clear zS
            cases hal : alls n fun j => cls T (k + 2) j == cls T (k + 1) j with
            | true =>
              have hstab := hid (show Stable T (k + 1) from fun q hq => by have h := (alls_iff n _).1 hal q (by rw [← hnn.out]; exact hq); simpa using h)
              have hf := hid (hfx.out (k + 1) (by omega) hstab.out)
              clear hal
              go_wp2
              go_ret
              exact ⟨_, rfl, by rw [hbt.out, ← hf.out]; exact hS2.out.o1, by rw [hbt.out]; exact hS2.out.bel⟩
            | false =>
              have hns := hid (show ¬ Stable T (k + 1) from fun h => by
                rw [(alls_iff n _).2 (fun q hq => by simpa using h q (by rw [hnn.out]; exact hq))] at hal
                cases hal)
              have hcn := hid (hst.out k hns.out)
              clear hal
              go_wp2
              go_roundg (n - (k + 1))
              case measure => omega
              case rel => exact ⟨k + 1, by have h1 := hcn.out; show k + 1 + 1 ≤ cnt1 T (k + 2) n; omega, rfl, hS2.out.f1.drop⟩
end Go.Proofs.Ytgpjcekpmhfljaa

/- The machine of a state of a table, as the program makes it. -/
namespace Go.Proofs.Ytgpjcekpmhfljaa
open Go.RowKit
set_option linter.unusedVariables false
set_option linter.unusedSimpArgs false

theorem idxZ_nat {l : List Nat} {c : Nat} (h : c ∈ l) : idxZ (l.map Int.ofNat) ((c : Nat) : Int) = ((l.idxOf c : Nat) : Int) := by
  have hlt := List.idxOf_lt_length_of_mem h
  refine idxZ_at ?_ (fun j hj e => ?_)
  · rw [List.getElem?_map, List.getElem?_eq_getElem hlt, List.getElem_idxOf hlt]; rfl
  · rw [List.getElem?_map] at e
    have hj' : j < l.length := by omega
    rw [List.getElem?_eq_getElem hj'] at e
    have h1 : l[j] = c := by
      have h2 : ((l[j] : Nat) : Int) = (c : Int) := by simpa using e
      omega
    have := List.not_of_lt_findIdx (p := (· == c)) (xs := l) hj
    simp [h1] at this


theorem u8_in (n : Nat) (h : n < 256) : IntKind.u8.wrap (n : Int) = (n : Int) := by
  have h1 : IntKind.u8.wrap (n : Int) = (n : Int) % 256 := by first | rfl | (unfold IntKind.wrap; simp)
  rw [h1]; omega
end Go.Proofs.Ytgpjcekpmhfljaa

/- Equal machines are found equal by eqMachine; the dual machine; the two DualMachine answer alike. -/
namespace Go.Proofs.Ytgpjcekpmhfljaa
open Go.RowKit
set_option linter.unusedVariables false
set_option linter.unusedSimpArgs false


theorem still_gate {P : Program} {ops : Array Oper} {o : Oper} {rest : List Oper} {a : Act} {w : World} {Q : Act → Prop} (N : Nat) (_ : o.dst = some N) (h : wpStill P ops w Q (o :: rest) a) : wpStill P ops w Q (o :: rest) a := h
/-- In a region that draws, all reads ahead of the rest: a row read whole. -/
theorem still_row {P : Program} {ops : Array Oper} {o : Oper} {rest : List Oper} {a : Act} {w : World} {Q : Act → Prop} (hgd : o.guard = none) (ty : TypeId) (x : Operand) (ho : o.op = .load ty x)
    (b off : Nat) (hx : a.eval x = .pointer (some ⟨b, off, none⟩)) (cs : List Value) (d : TypeDesc) (hc : w.rangeAt b off cs) (hu : P.underlying ty = some d) (hd : d.isRow = true) (hi : (P.info? ty).map (·.size) = some cs.length)
    (h : wpStill P ops w Q rest (a.put o.dst (.agg cs.toArray))) : wpStill P ops w Q (o :: rest) a := by
  refine wpStill_step fun K hK => ?_
  rw [if_pos (by simp [Region.wanted, hgd])]
  unfold Oper.still execOp
  simp only [ho, hx, Instr.loadAt, Instr.sureAddr, Sem.run_bind, Sem.run_pure, Result.andThen_ok, run_loadVar_mid w b off ty cs d hc hu hd hi]
  exact ⟨rfl, hK _ h⟩

end Go.Proofs.Ytgpjcekpmhfljaa

/- The two DualMachine answer alike; the statement's walk. -/
namespace Go.Proofs.Ytgpjcekpmhfljaa
open Go.RowKit
set_option linter.unusedVariables false
set_option linter.unusedSimpArgs false

/-- A machine and a number handed back. -/
theorem ret_mach_i {fn : Func} {R : Ending → World → Prop} {a : Act} {w : World} {p q : Nat} (h : fn.results = #[.cell p 29, .tmp q]) {g t : Nat} {m : Mach} {n : Int}
    (hp : a.tmps.getD p undef = .pointer (some ⟨g, 0, none⟩)) (hq : a.tmps.getD q undef = .int .i64 n) (hm : MB w t g m) (hdf : a.defers = []) (hR : R (.returned (.tuple #[.agg (mcells m), .int .i64 n])) w) : bodyPost Try.prog fn R .ret a w := by
  refine bodyPost_ret (v := .tuple #[.agg (mcells m), .int .i64 n]) ?_ hdf hR
  have hp' : a.tmps[p]?.getD undef = .pointer (some ⟨g, 0, none⟩) := by simpa using hp
  have hq' : a.tmps[q]?.getD undef = .int .i64 n := by simpa using hq
  have := run_loadVar_row (P := Try.prog) w g t 29 (mcells m) (0, 0) _ hm.heap Try.underlying29 rfl (by rw [size_mcells]; exact sz_mach)
  simp [results, h, hp', hq', asAddr, this]

/-- One entry of the dual. -/
def stepD (m : Mach) (x q : Nat) (o : Mach) : Mach :=
  { o with nx := upd o.nx (x * 3 + q) (m.ot (q * 3 + x)), ot := upd o.ot (x * 3 + q) (m.nx (q * 3 + x)) }
def rowD (m : Mach) (x : Nat) : Nat → Mach → Mach
  | 0, o => o
  | q + 1, o => stepD m x q (rowD m x q o)
def allD (m : Mach) (s : Nat) : Nat → Mach
  | 0 => ⟨m.S, m.L, fun _ => 0, fun _ => 0⟩
  | x + 1 => rowD m x s (allD m s x)
def dual (m : Mach) (l s : Nat) : Mach := allD m s l

open Classical in
/-- What DualMachine answers. -/
noncomputable def dualAns (m : Mach) : Mach × Int :=
  if IsM m then (if 2 ≤ m.S ∧ m.S ≤ 3 then (if ∀ l s, Good m l s → RevP m l s then (dual m m.L.toNat m.S.toNat, 0) else (zeroM, 5)) else (zeroM, 2)) else (zeroM, 1)

theorem good_uniq {m : Mach} {l s l' s' : Nat} (g : Good m l s) (g' : Good m l' s') : l' = l ∧ s' = s := by
  have := g.L; have := g.S; have := g'.L; have := g'.S; omega

open Classical in
theorem dualAns_good {m : Mach} {l s : Nat} (g : Good m l s) : dualAns m = if s ≤ 3 ∧ 2 ≤ s then (if RevP m l s then (dual m l s, 0) else (zeroM, 5)) else (zeroM, 2) := by
  unfold dualAns
  rw [if_pos g.isM]
  have hS := g.S
  have hL := g.L
  by_cases h : s ≤ 3 ∧ 2 ≤ s
  · rw [if_pos (by omega), if_pos h]
    by_cases hr : RevP m l s
    · rw [if_pos hr, if_pos (fun l' s' g' => by obtain ⟨rfl, rfl⟩ := good_uniq g g'; exact hr), hS, hL]
      rfl
    · rw [if_neg hr, if_neg (fun hh => hr (hh l s g))]
  · rw [if_neg (by omega), if_neg h]

end Go.Proofs.Ytgpjcekpmhfljaa

/- The machine of a state of a table: the program's search. -/
namespace Go.Proofs.Ytgpjcekpmhfljaa
open Go.RowKit
set_option linter.unusedVariables false
set_option linter.unusedSimpArgs false

end Go.Proofs.Ytgpjcekpmhfljaa

/- The machine of a state of a machine: the program's side. -/
namespace Go.Proofs.Ytgpjcekpmhfljaa
open Go.RowKit
set_option linter.unusedVariables false
set_option linter.unusedSimpArgs false

/-- A machine stored, at a step of a region that draws. -/
theorem step_store_mach {ops : Array Oper} {o : Oper} {a : Act} {w : World} {K : Act → World → Prop} {Q : Exit → Act → World → Prop} {E : Prop} (hgd : o.guard = none) (x y : Operand) (ho : o.op = .store 29 x y)
    (b : Nat) (hx : a.eval x = .pointer (some ⟨b, 0, none⟩)) (m : Mach) (hy : a.eval y = .agg (mcells m)) (t : Nat) (f : Nat → Value) (hrow : w.rowIs b t 98 f)
    (h : ∀ w', MB w' t b m → (∀ k, k ≠ b → w'.heap[k]? = w.heap[k]?) → (∀ (B : Nat) (a : World), B ≤ b → Below B a w → Below B a w') → K (a.put o.dst undef) w') :
    if Region.wanted o (yielded ops a.tmps) = true then Oper.wp Try.prog o a w K Q else E := by
  have hw : Region.wanted o (yielded ops a.tmps) = true := by simp [Region.wanted, hgd]
  rw [if_pos hw]
  refine wp_store_mid 29 x y ho b 0 (mcells m) hx hy (by rw [size_mcells]; exact rowIs_there hrow _ _ (by omega)) (by rw [size_mcells]; exact sz_mach) (one_mach m) ?_
  exact h _ (World.rowIs.congr (rowIs_setCells _ _ _ _ hrow) fun i hi => put_all _ _ _ _ hi) (fun k hk => block_setCells hk _ _ _) (fun B a hB hb => below_setCells hB _ _ hb)
theorem ot256 {m : Mach} {l s : Nat} (g : Good m l s) : ∀ q x, q < (tabOf m l s).n → x < (tabOf m l s).L → (tabOf m l s).ot q x < 256 := fun q x hq hx => by
  have h1 : (tabOf m l s).ot q x < l := g.ot q x hq hx
  have h2 := g.l3
  omega

end Go.Proofs.Ytgpjcekpmhfljaa

/- Group words: what IsGroupWord answers. -/
namespace Go.Proofs.Ytgpjcekpmhfljaa
open Go.RowKit
set_option linter.unusedVariables false
set_option linter.unusedSimpArgs false

/-- A number stands for a state or for its inverse. -/
def isNum (s : Nat) (k : Int) : Prop := k ≠ 0 ∧ -(s : Int) ≤ k ∧ k ≤ s
/-- A list is a group word. -/
def IsGw (m : Mach) (g : List Int) : Prop := IsM m ∧ g.length ≤ 40 ∧ ∀ k ∈ g, isNum m.S.toNat k
def badNum (s : Nat) (k : Int) : Bool := (k == 0) || !decide (-(s : Int) ≤ k ∧ k ≤ s)
theorem badNum_iff (s : Nat) (k : Int) : badNum s k = true ↔ ¬ isNum s k := by
  unfold badNum isNum
  rw [Bool.or_eq_true, Bool.not_eq_true', decide_eq_false_iff_not, beq_iff_eq]
  omega
theorem badAny_iff (s : Nat) (g : List Int) : g.any (badNum s) = true ↔ ¬ ∀ k ∈ g, isNum s k := by
  rw [List.any_eq_true]
  constructor
  · rintro ⟨x, hx, hb⟩ h
    exact (badNum_iff s x).1 hb (h x hx)
  · intro h
    apply Classical.byContradiction
    intro hn
    exact h fun k hk => Classical.byContradiction fun hb => hn ⟨k, hk, (badNum_iff s k).2 hb⟩

set_option maxHeartbeats 1000000 in
theorem gw1_any (b : Nat) (w : World) (m : Mach) (hm : MB w 29 b m) (l s : Nat) (g : Good m l s) (k : Int) :
    Calls Try.prog 156 #[.int .i64 k, .pointer (some ⟨b, 0, none⟩)] w fun e w' => e = .returned (.bool (badNum s k)) ∧ w = w' := by
  have cS := hm.cS
  rw [g.S] at cS
  have s16 := g.s16
  clear hm g
  by_cases hk : k = 0
  · subst hk
    have hr := hid (show badNum s 0 = true from rfl)
    generalize badNum s 0 = r at *
    go_enter Try.func156, Try.ntmps156
    go_wp2
    go_ret
    exact ⟨retB hr.out.symm, rfl⟩
  · have hk0 : (k == 0) = false := by simpa using hk
    have hin := hid (fun W => within_any k (-(s : Int)) s (decide (-(s : Int) ≤ k ∧ k ≤ s)) rfl W)
    have hr := hid (show badNum s k = !decide (-(s : Int) ≤ k ∧ k ≤ s) from by unfold badNum; rw [hk0]; rfl)
    have e1 : IntKind.i64.wrap (-(s : Int)) = -(s : Int) := IntWalk.i64_in _ (by omega)
    generalize badNum s k = r at *
    generalize decide (-(s : Int) ≤ k ∧ k ≤ s) = c at *
    go_enter Try.func156, Try.ntmps156
    go_wp2_with (first
      | (go_at_call 73; (with_reducible refine (hin.out _).mono ?_); rintro e w' ⟨rfl, rfl⟩))
    go_ret
    exact ⟨retB hr.out.symm, rfl⟩
set_option maxHeartbeats 1000000 in
set_option maxRecDepth 100000 in
theorem indexFuncI_gw (b : Nat) (w : World) (base : Nat) (v : Value) (l : List Int) (h : Own w base 2 v (ints l)) (hl : l.length < 2000000) (p : Int → Bool)
    (hcall : ∀ W, Below w.heap.size w W → ∀ x, x ∈ l → Calls Try.prog 156 #[.int .i64 x, .pointer (some ⟨b, 0, none⟩)] W fun e w' => e = .returned (.bool (p x)) ∧ Below W.heap.size W w') :
    Calls Try.prog 140 #[v, .func (.func 156) #[] #[.pointer (some ⟨b, 0, none⟩)]] w fun e w' => e = .returned (.int .i64 (idxP p l 0)) ∧ Below w.heap.size w w' := by
  have hil := ints_length l
  obtain ⟨A1, c1, rfl, _, _⟩ := h.form
  rw [hil] at h ⊢
  have hget := hid (fun (k : Nat) (x : Int) (hx : l[k]? = some x) => (show (ints l)[k]? = some (.int .i64 x) by simp [ints, hx]))
  have hcell := hid (fun (k : Nat) (x : Int) (hx : l[k]? = some x) => (show ∃ g, A1 = some ⟨g, 0, none⟩ ∧ ∀ W, Below w.heap.size w W → W.cell? ⟨g, k, none⟩ = some (.int .i64 x) from by
    obtain ⟨g1, c2, he, _, hg1⟩ := h.blk (fun e => by have h1 := congrArg List.length e; rw [hil] at h1; have h2 := (List.getElem?_eq_some_iff.1 hx).1; rw [List.length_nil] at h1; omega)
    injection he with e1 e2 e3
    subst e1
    exact ⟨g1, rfl, fun W hW => (h.below hW).cellAt k _ (hget.out k x hx)⟩))
  replace hcall := hid hcall
  clear h hil
  obtain ⟨R, hR⟩ : ∃ R, R = idxP p l 0 := ⟨_, rfl⟩
  rw [← hR]
  replace hR := hid hR
  generalize hn : l.length = n at *
  replace hn := hid hn
  go_enter Try.func140, Try.ntmps140
  go_wp2
  go_loopw [8] (fun i wr => ∃ k : Nat, k ≤ n ∧ i = .int .i64 k ∧ Hid (R = idxP p (l.drop k) k) ∧ Below w.heap.size w wr) (fun i _ => n - (intOf i).toNat)
  case atStart => exact ⟨0, Nat.zero_le _, rfl, hR, Below.refl _ _⟩
  case round =>
    obtain ⟨k, hk, rfl, hA, rB⟩ := hrel
    clear hR
    replace rB := hid rB
    by_cases hlt : k < n
    · obtain ⟨x, hx⟩ : ∃ x, l[k]? = some x := ⟨_, List.getElem?_eq_getElem (by rw [hn.out]; exact hlt)⟩
      obtain ⟨g, rfl, hc⟩ := hcell.out k x hx
      have d1 := hc wr rB.out
      have hcl := hid (hcall.out wr rB.out x (List.mem_of_getElem? hx))
      have hT := hid (fun hp => idxP_drop_t (p := p) hx hp k)
      have hF := hid (fun hp => idxP_drop_f (p := p) hx hp k)
      clear hc hx
      cases hp : p x with
      | true =>
        rw [hp] at hcl
        have hA2 := hid (hA.out.trans (hT.out hp))
        clear hp hT hF
        go_wp2_with (first
          | (go_at_call 156; (with_reducible refine (hcl.out).mono ?_); rintro e w1 ⟨rfl, hb⟩; replace rB := hid (rB.out.trans (hb.mono rB.out.size)); clear hb))
        go_ret
        exact ⟨retI (by rw [hA2.out]), rB.out⟩
      | false =>
        rw [hp] at hcl
        have hA2 := hid (hA.out.trans (hF.out hp))
        clear hp hT hF
        go_wp2_with (first
          | (go_at_call 156; (with_reducible refine (hcl.out).mono ?_); rintro e w1 ⟨rfl, hb⟩; replace rB := hid (rB.out.trans (hb.mono rB.out.size)); clear hb))
        go_roundw
        case rel => exact ⟨k + 1, by omega, by go_num, hA2, rB.out⟩
        case measure => simp [intOf]; omega
    · obtain rfl : k = n := by omega
      have hA2 := hid (hA.out.trans (show _ = (-1 : Int) by rw [List.drop_eq_nil_of_le (by rw [hn.out]; exact Nat.le_refl _)]; rfl))
      go_wp2
      go_ret
      exact ⟨retI (by rw [hA2.out]), rB.out⟩
set_option maxHeartbeats 1000000 in
theorem containsFuncI_gw (b : Nat) (w : World) (base : Nat) (v : Value) (l : List Int) (h : Own w base 2 v (ints l)) (hl : l.length < 2000000) (p : Int → Bool)
    (hcall : ∀ W, Below w.heap.size w W → ∀ x, x ∈ l → Calls Try.prog 156 #[.int .i64 x, .pointer (some ⟨b, 0, none⟩)] W fun e w' => e = .returned (.bool (p x)) ∧ Below W.heap.size W w') :
    Calls Try.prog 114 #[v, .func (.func 156) #[] #[.pointer (some ⟨b, 0, none⟩)]] w fun e w' => e = .returned (.bool (l.any p)) ∧ Below w.heap.size w w' := by
  have hi := hid (indexFuncI_gw b w base v l h hl p hcall)
  have ha := hid (idxP_any p l 0 (Int.le_refl _))
  clear hcall h hl
  generalize idxP p l 0 = r at *
  generalize l.any p = c at *
  go_enter Try.func114, Try.ntmps114
  go_wp2_with (first
    | (go_at_call 140; (with_reducible refine (hi.out).mono ?_); rintro e w1 ⟨rfl, hb⟩; replace hb := hid hb))
  go_ret
  refine ⟨retB ?_, hb.out⟩
  have h := ha.out
  rw [Bool.eq_iff_iff, ← h]
  simp

set_option maxHeartbeats 2000000 in
set_option maxRecDepth 4000 in
theorem IsGroupWord_any (w : World) (m : Mach) (hk : m.Ok) (base : Nat) (v : Value) (g : List Int) (h : Own w base 2 v (ints g)) (hl : g.length < 2000000) (r : Bool) (hr : Tells r (IsGw m g)) :
    Calls Try.prog 134 #[.agg (mcells m), v] w fun e w' => e = .returned (.bool r) ∧ Below w.heap.size w w' := by
  have hS := hid ((St.start w).newMB m 29)
  have hmf : ∀ (fn : Fn) (first cap : Array Value) (w : World), (Instr.makeFunc fn first cap).run Try.prog w = .ok (.func fn first cap) w := fun _ _ _ _ => rfl
  have hil := ints_length g
  obtain ⟨A, c, rfl, _, _⟩ := h.form
  rw [hil] at h ⊢
  replace h := hid h
  by_cases hm : IsM m
  · obtain ⟨l, s, gd⟩ := hm.good
    have hS2 : m.S.toNat = s := by rw [gd.S]; rfl
    have hi := hid (fun W => IsMachine_any W m hk true ⟨fun _ => hm, fun _ => rfl⟩)
    have hc := hid (fun W (hW : Below w.heap.size w W) (hmb : MB W 29 w.heap.size m) => containsFuncI_gw w.heap.size W base _ g (h.out.below hW) hl (badNum s) (fun W' hW' x _ => (gw1_any w.heap.size W' m (hmb.below hW' hmb.lt) l s gd x).mono fun e w' hh => ⟨hh.1, hh.2 ▸ Below.refl _ _⟩))
    have hb := badAny_iff s g
    have hgw : IsGw m g ↔ g.length ≤ 40 ∧ ∀ k ∈ g, isNum s k := by unfold IsGw; rw [hS2]; exact ⟨fun h => h.2, fun h => ⟨hm, h⟩⟩
    have hr2 := hr.out
    by_cases h40 : g.length ≤ 40
    · have d1 : decide ((g.length : Int) ≤ 40) = true := decide_eq_true (by omega)
      have hfin : Hid (r = !(g.any (badNum s))) := by
        refine hid ?_
        rw [Bool.eq_iff_iff, hr2, hgw]
        cases hh : g.any (badNum s)
        · rw [hh] at hb
          simp only [Bool.not_false, iff_true]
          exact ⟨h40, Classical.byContradiction fun hn => by have := hb.2 hn; cases this⟩
        · simp only [Bool.not_true, Bool.false_eq_true, iff_false]
          exact fun hn => (hb.1 hh) hn.2
      replace hk := hid hk
      clear hr hr2 hgw hb hm gd
      generalize g.any (badNum s) = bad at *
      generalize g.length = n at *
      go_enter Try.func134, Try.ntmps134
      go_wp2_with (first
        | ((with_reducible refine gate (N := 5) rfl ?_); refine load_mach rfl _ rfl w.heap.size rfl m hS.out.m0 ?_)
        | (go_at_call 70; (with_reducible refine (hi.out _).mono ?_); rintro e w1 ⟨rfl, hb⟩; replace hS := hid (hS.out.call hb); clear hb)
        | (go_at_call 114; (with_reducible refine (hc.out _ hS.out.bel hS.out.m0).mono ?_); rintro e w2 ⟨rfl, hb⟩; replace hS := hid (hS.out.call hb); clear hb))
      go_ret
      exact ⟨retB hfin.out.symm, hS.out.bel⟩
    · have d1 : decide ((g.length : Int) ≤ 40) = false := decide_eq_false (by omega)
      have hfin : Hid (r = false) := by
        refine hid ?_
        rw [Bool.eq_false_iff, Ne, hr2, hgw]
        exact fun hn => h40 hn.1
      replace hk := hid hk
      clear hr hr2 hgw hb hm gd
      generalize g.length = n at *
      go_enter Try.func134, Try.ntmps134
      go_wp2_with (first
        | ((with_reducible refine gate (N := 5) rfl ?_); refine load_mach rfl _ rfl w.heap.size rfl m hS.out.m0 ?_)
        | (go_at_call 70; (with_reducible refine (hi.out _).mono ?_); rintro e w1 ⟨rfl, hb⟩; replace hS := hid (hS.out.call hb); clear hb))
      go_ret
      exact ⟨retB hfin.out.symm, hS.out.bel⟩
  · have hi := hid (fun W => IsMachine_any W m hk false ⟨fun h => (by cases h), fun h => absurd h hm⟩)
    have hfin : Hid (r = false) := by
      refine hid ?_
      rw [Bool.eq_false_iff, Ne, hr.out]
      exact fun hn => hm hn.1
    replace hk := hid hk
    clear hr hm
    generalize g.length = n at *
    go_enter Try.func134, Try.ntmps134
    go_wp2_with (first
      | ((with_reducible refine gate (N := 5) rfl ?_); refine load_mach rfl _ rfl w.heap.size rfl m hS.out.m0 ?_)
      | (go_at_call 70; (with_reducible refine (hi.out _).mono ?_); rintro e w1 ⟨rfl, hb⟩; replace hS := hid (hS.out.call hb); clear hb))
    go_ret
    exact ⟨retB hfin.out.symm, hS.out.bel⟩
end Go.Proofs.Ytgpjcekpmhfljaa

/- Trivial states: what the program's trivial answers. -/
namespace Go.Proofs.Ytgpjcekpmhfljaa
open Go.RowKit
set_option linter.unusedVariables false
set_option linter.unusedSimpArgs false
-- @LONG

/-- A state is trivial: it is among states that keep all letters and go on among themselves. -/
def Tv (T : Tab) (q : Nat) : Prop := ∃ S : Nat → Prop, S q ∧ ∀ r, S r → r < T.n ∧ ∀ x, x < T.L → T.ot r x = x ∧ S (T.nx r x)
theorem Tv.keep {T : Tab} {q : Nat} (h : Tv T q) : ∀ x, x < T.L → T.ot q x = x ∧ Tv T (T.nx q x) := fun x hx => by
  obtain ⟨S, hq, hS⟩ := h
  exact ⟨((hS q hq).2 x hx).1, S, ((hS q hq).2 x hx).2, hS⟩
theorem Tv.lt {T : Tab} {q : Nat} (h : Tv T q) : q < T.n := by obtain ⟨S, hq, hS⟩ := h; exact (hS q hq).1
open Classical in
noncomputable def tvL (T : Tab) : List Bool := (List.range T.n).map fun q => decide (Tv T q)
theorem tvL_length (T : Tab) : (tvL T).length = T.n := by simp [tvL]
theorem tvL_get (T : Tab) (q : Nat) (h : q < T.n) : ∃ b, (tvL T)[q]? = some b ∧ (b = true ↔ Tv T q) := by
  classical
  exact ⟨decide (Tv T q), by simp [tvL, h], decide_eq_true_iff⟩
def bls (l : List Bool) : List Value := l.map Value.bool
theorem bls_length (l : List Bool) : (bls l).length = l.length := by simp [bls]
theorem bls_get {l : List Bool} {i : Nat} {b : Bool} (h : l[i]? = some b) : (bls l)[i]? = some (.bool b) := by simp [bls, h]
theorem bls_set (l : List Bool) (i : Nat) (b : Bool) : (bls l).set i (.bool b) = bls (l.set i b) := by simp [bls, List.map_set]

/-- What keeps all letters. -/
def kept (T : Tab) (q : Nat) : Bool := alls T.L fun x => T.ot q x == x
theorem kept_iff (T : Tab) (q : Nat) : kept T q = true ↔ ∀ x, x < T.L → T.ot q x = x := by unfold kept; rw [alls_iff]; simp
theorem Tv.kept {T : Tab} {q : Nat} (h : Tv T q) : kept T q = true := (kept_iff T q).2 fun x hx => (h.keep x hx).1
/-- What is known on the way: nothing trivial is lost, nothing that turns letters is there. -/
def TvB (T : Tab) (bl : List Bool) : Prop := bl.length = T.n ∧ (∀ q, bl[q]? = some true → Go.Proofs.Ytgpjcekpmhfljaa.kept T q = true) ∧ ∀ q, Tv T q → bl[q]? = some true
/-- Those before q go on among themselves. -/
def TvC (T : Tab) (bl : List Bool) (q : Nat) : Prop := ∀ j, j < q → bl[j]? = some true → ∀ x, x < T.L → bl[T.nx j x]? = some true
/-- Some of the next states is not there. -/
def lost (T : Tab) (bl : List Bool) (q : Nat) : Bool := (rwI T.nx q T.L).any fun r => !(bl.getD r.toNat false)
theorem lost_iff {T : Tab} (hT : T.Ok) {bl : List Bool} (h : bl.length = T.n) {q : Nat} (hq : q < T.n) : lost T bl q = false ↔ ∀ x, x < T.L → bl[T.nx q x]? = some true := by
  unfold lost rwI
  rw [List.any_eq_false]
  constructor
  · intro hh x hx
    have h1 := hh ((T.nx q x : Nat) : Int) (List.mem_map.2 ⟨x, List.mem_range.2 hx, rfl⟩)
    have hlt := hT.nx q x hq hx
    rw [Int.toNat_natCast, List.getD_eq_getElem?_getD, List.getElem?_eq_getElem (by omega)] at h1
    rw [List.getElem?_eq_getElem (by omega)]
    simpa using h1
  · intro hh r hr
    obtain ⟨x, hx, rfl⟩ := List.mem_map.1 hr
    rw [Int.toNat_natCast, List.getD_eq_getElem?_getD, hh x (List.mem_range.1 hx)]
    simp
/-- How many are there. -/
def cntB : List Bool → Nat
  | [] => 0
  | b :: l => (if b then 1 else 0) + cntB l
theorem cntB_set : ∀ (l : List Bool) (q : Nat), l[q]? = some true → cntB (l.set q false) + 1 = cntB l
  | b :: l, 0, h => by simp at h; subst h; simp [cntB]; omega
  | b :: l, q + 1, h => by
    have := cntB_set l q (by simpa using h)
    simp [cntB]; omega
theorem cntB_le : ∀ l : List Bool, cntB l ≤ l.length
  | [] => Nat.le_refl _
  | b :: l => by have := cntB_le l; unfold cntB; simp; split <;> omega
theorem getE_set (l : List Bool) (q j : Nat) (b : Bool) (hq : q < l.length) : (l.set q b)[j]? = if j = q then some b else l[j]? := by
  by_cases h : j = q
  · subst h; rw [if_pos rfl, List.getElem?_set_self hq]
  · rw [if_neg h, List.getElem?_set_ne (Ne.symm h)]
/-- A state that goes on to one that is not there is none. -/
theorem TvB.strike {T : Tab} (hT : T.Ok) {bl : List Bool} (h : TvB T bl) {q : Nat} (hq : q < T.n) (hl : lost T bl q = true) : TvB T (bl.set q false) := by
  refine ⟨by rw [List.length_set]; exact h.1, fun j hj => ?_, fun j hj => ?_⟩
  · rw [getE_set _ _ _ _ (by rw [h.1]; exact hq)] at hj
    split at hj
    · simp at hj
    · exact h.2.1 j hj
  · rw [getE_set _ _ _ _ (by rw [h.1]; exact hq)]
    split
    · rename_i e
      subst e
      have : lost T bl j = false := (lost_iff hT h.1 hq).2 fun x hx => h.2.2 _ (hj.keep x hx).2
      rw [hl] at this; cases this
    · exact h.2.2 j hj
theorem TvC.more {T : Tab} (hT : T.Ok) {bl : List Bool} (hb : bl.length = T.n) {q : Nat} (hq : q < T.n) (h : TvC T bl q) (hl : bl[q]? = some true → lost T bl q = false) : TvC T bl (q + 1) := fun j hj hjt => by
  by_cases e : j = q
  · subst e; exact (lost_iff hT hb hq).1 (hl hjt)
  · exact h j (by omega) hjt
theorem TvB.done {T : Tab} {bl : List Bool} (h : TvB T bl) (hc : TvC T bl T.n) : bl = tvL T := by
  apply List.ext_getElem?
  intro q
  by_cases hq : q < T.n
  · obtain ⟨b, hb, hbi⟩ := tvL_get T q hq
    rw [hb, List.getElem?_eq_getElem (by rw [h.1]; exact hq)]
    congr 1
    rw [Bool.eq_iff_iff, hbi]
    constructor
    · intro hg
      refine ⟨fun r => bl[r]? = some true, by show bl[q]? = some true; rw [List.getElem?_eq_getElem (by rw [h.1]; exact hq), hg], fun r hr => ?_⟩
      have hrl : r < T.n := by rw [← h.1]; exact (List.getElem?_eq_some_iff.1 hr).1
      exact ⟨hrl, fun x hx => ⟨(kept_iff T r).1 (h.2.1 r hr) x hx, hc r hrl hr x hx⟩⟩
    · intro ht
      have := h.2.2 q ht
      rw [List.getElem?_eq_getElem (by rw [h.1]; exact hq)] at this
      simpa using this
  · rw [List.getElem?_eq_none (by rw [h.1]; omega), List.getElem?_eq_none (by rw [tvL_length]; omega)]
/-- The list as far as it is written: q states told, and x letters of the next one. -/
def keptL (T : Tab) (q : Nat) (n : Nat) : List Bool := (List.range n).map fun j => if j < q then Go.Proofs.Ytgpjcekpmhfljaa.kept T j else false
theorem keptL_length (T : Tab) (q n : Nat) : (keptL T q n).length = n := by simp [keptL]
theorem keptL_set (T : Tab) (q n : Nat) : (keptL T q n).set q (Go.Proofs.Ytgpjcekpmhfljaa.kept T q) = keptL T (q + 1) n := by
  apply List.ext_getElem?
  intro j
  by_cases hj : j < n
  · rw [List.getElem?_set]
    by_cases e : q = j
    · subst e; simp [keptL, hj]
    · have e2 : decide (j < q) = decide (j < q + 1) := decide_eq_decide.2 (by omega)
      simp [keptL, hj, e, e2]
  · rw [List.getElem?_eq_none (by simp [keptL]; omega), List.getElem?_eq_none (by simp [keptL]; omega)]
theorem keptL_done (T : Tab) : TvB T (keptL T T.n T.n) := by
  refine ⟨keptL_length _ _ _, fun q hq => ?_, fun q hq => ?_⟩
  · have h1 := (List.getElem?_eq_some_iff.1 hq).1
    rw [keptL_length] at h1
    simpa [keptL, h1] using hq
  · have h1 := hq.lt
    simp [keptL, h1, hq.kept]
theorem keptL_zero (T : Tab) (n : Nat) : bls (keptL T 0 n) = List.replicate n (.bool false) := by
  apply List.ext_getElem?
  intro j
  by_cases hj : j < n
  · simp [bls, keptL, hj]
  · rw [List.getElem?_eq_none (by simp [bls, keptL]; omega), List.getElem?_eq_none (by simp; omega)]
end Go.Proofs.Ytgpjcekpmhfljaa

/- Trivial states: the program's trivial. -/
namespace Go.Proofs.Ytgpjcekpmhfljaa
open Go.RowKit
set_option linter.unusedVariables false
set_option linter.unusedSimpArgs false
-- @LONG

theorem info_bool : (Try.prog.info? 4).map (fun i => (i.zero, i.size, i.bytes)) = some (some (.bool false), 1, 1) := by kernel_rfl
set_option maxHeartbeats 1000000 in
theorem triv1_any (b3 go n c r : Nat) (u : Bool) (w : World) (hb : w.cell? ⟨b3, 0, none⟩ = some (.slice (some ⟨go, 0, none⟩) n c)) (hr : r < n) (hu : w.cell? ⟨go, r, none⟩ = some (.bool u)) :
    Calls Try.prog 172 #[.int .i64 r, .pointer (some ⟨b3, 0, none⟩)] w fun e w' => e = .returned (.bool (!u)) ∧ w = w' := by
  have r0 : (0 : Int) ≤ (r : Int) := Int.natCast_nonneg _
  have r1 : (r : Int) < (n : Int) := by omega
  go_enter Try.func172, Try.ntmps172
  go_wp2
  go_ret
  exact ⟨rfl, rfl⟩
set_option maxHeartbeats 1000000 in
set_option maxRecDepth 100000 in
theorem indexFuncI_triv (b : Nat) (w : World) (base : Nat) (v : Value) (l : List Int) (h : Own w base 2 v (ints l)) (hl : l.length < 2000000) (p : Int → Bool)
    (hcall : ∀ W, Below w.heap.size w W → ∀ x, x ∈ l → Calls Try.prog 172 #[.int .i64 x, .pointer (some ⟨b, 0, none⟩)] W fun e w' => e = .returned (.bool (p x)) ∧ Below W.heap.size W w') :
    Calls Try.prog 140 #[v, .func (.func 172) #[] #[.pointer (some ⟨b, 0, none⟩)]] w fun e w' => e = .returned (.int .i64 (idxP p l 0)) ∧ Below w.heap.size w w' := by
  have hil := ints_length l
  obtain ⟨A1, c1, rfl, _, _⟩ := h.form
  rw [hil] at h ⊢
  have hget := hid (fun (k : Nat) (x : Int) (hx : l[k]? = some x) => (show (ints l)[k]? = some (.int .i64 x) by simp [ints, hx]))
  have hcell := hid (fun (k : Nat) (x : Int) (hx : l[k]? = some x) => (show ∃ g, A1 = some ⟨g, 0, none⟩ ∧ ∀ W, Below w.heap.size w W → W.cell? ⟨g, k, none⟩ = some (.int .i64 x) from by
    obtain ⟨g1, c2, he, _, hg1⟩ := h.blk (fun e => by have h1 := congrArg List.length e; rw [hil] at h1; have h2 := (List.getElem?_eq_some_iff.1 hx).1; rw [List.length_nil] at h1; omega)
    injection he with e1 e2 e3
    subst e1
    exact ⟨g1, rfl, fun W hW => (h.below hW).cellAt k _ (hget.out k x hx)⟩))
  replace hcall := hid hcall
  clear h hil
  obtain ⟨R, hR⟩ : ∃ R, R = idxP p l 0 := ⟨_, rfl⟩
  rw [← hR]
  replace hR := hid hR
  generalize hn : l.length = n at *
  replace hn := hid hn
  go_enter Try.func140, Try.ntmps140
  go_wp2
  go_loopw [8] (fun i wr => ∃ k : Nat, k ≤ n ∧ i = .int .i64 k ∧ Hid (R = idxP p (l.drop k) k) ∧ Below w.heap.size w wr) (fun i _ => n - (intOf i).toNat)
  case atStart => exact ⟨0, Nat.zero_le _, rfl, hR, Below.refl _ _⟩
  case round =>
    obtain ⟨k, hk, rfl, hA, rB⟩ := hrel
    clear hR
    replace rB := hid rB
    by_cases hlt : k < n
    · obtain ⟨x, hx⟩ : ∃ x, l[k]? = some x := ⟨_, List.getElem?_eq_getElem (by rw [hn.out]; exact hlt)⟩
      obtain ⟨g, rfl, hc⟩ := hcell.out k x hx
      have d1 := hc wr rB.out
      have hcl := hid (hcall.out wr rB.out x (List.mem_of_getElem? hx))
      have hT := hid (fun hp => idxP_drop_t (p := p) hx hp k)
      have hF := hid (fun hp => idxP_drop_f (p := p) hx hp k)
      clear hc hx
      cases hp : p x with
      | true =>
        rw [hp] at hcl
        have hA2 := hid (hA.out.trans (hT.out hp))
        clear hp hT hF
        go_wp2_with (first
          | (go_at_call 172; (with_reducible refine (hcl.out).mono ?_); rintro e w1 ⟨rfl, hb⟩; replace rB := hid (rB.out.trans (hb.mono rB.out.size)); clear hb))
        go_ret
        exact ⟨retI (by rw [hA2.out]), rB.out⟩
      | false =>
        rw [hp] at hcl
        have hA2 := hid (hA.out.trans (hF.out hp))
        clear hp hT hF
        go_wp2_with (first
          | (go_at_call 172; (with_reducible refine (hcl.out).mono ?_); rintro e w1 ⟨rfl, hb⟩; replace rB := hid (rB.out.trans (hb.mono rB.out.size)); clear hb))
        go_roundw
        case rel => exact ⟨k + 1, by omega, by go_num, hA2, rB.out⟩
        case measure => simp [intOf]; omega
    · obtain rfl : k = n := by omega
      have hA2 := hid (hA.out.trans (show _ = (-1 : Int) by rw [List.drop_eq_nil_of_le (by rw [hn.out]; exact Nat.le_refl _)]; rfl))
      go_wp2
      go_ret
      exact ⟨retI (by rw [hA2.out]), rB.out⟩
set_option maxHeartbeats 1000000 in
theorem containsFuncI_triv (b : Nat) (w : World) (base : Nat) (v : Value) (l : List Int) (h : Own w base 2 v (ints l)) (hl : l.length < 2000000) (p : Int → Bool)
    (hcall : ∀ W, Below w.heap.size w W → ∀ x, x ∈ l → Calls Try.prog 172 #[.int .i64 x, .pointer (some ⟨b, 0, none⟩)] W fun e w' => e = .returned (.bool (p x)) ∧ Below W.heap.size W w') :
    Calls Try.prog 114 #[v, .func (.func 172) #[] #[.pointer (some ⟨b, 0, none⟩)]] w fun e w' => e = .returned (.bool (l.any p)) ∧ Below w.heap.size w w' := by
  have hi := hid (indexFuncI_triv b w base v l h hl p hcall)
  have ha := hid (idxP_any p l 0 (Int.le_refl _))
  clear hcall h hl
  generalize idxP p l 0 = r at *
  generalize l.any p = c at *
  go_enter Try.func114, Try.ntmps114
  go_wp2_with (first
    | (go_at_call 140; (with_reducible refine (hi.out).mono ?_); rintro e w1 ⟨rfl, hb⟩; replace hb := hid hb))
  go_ret
  refine ⟨retB ?_, hb.out⟩
  have h := ha.out
  rw [Bool.eq_iff_iff, ← h]
  simp

set_option maxHeartbeats 8000000 in
set_option maxRecDepth 100000 in
theorem trivial_any (w : World) (G : Nat) (vN vO : Value) (T : Tab) (hT : T.Ok) (hL : T.L ≤ 3) (hL0 : 0 < T.L) (hn : T.n < 100000) (hTB : TB w G vN vO T) :
    Calls Try.prog 160 #[.pointer (some ⟨G, 0, none⟩)] w fun e w' => ∃ v, e = .returned v ∧ Own w' w.heap.size 4 v (bls (tvL T)) ∧ Below w.heap.size w w' := by
  have hpos := hT.pos
  obtain ⟨gN, cN, rfl, _, _⟩ := hTB.2.1.blk (fun e => by have h1 := congrArg List.length e; rw [tbL_length] at h1; simp at h1; omega)
  obtain ⟨gO, cO, rfl, _, _⟩ := hTB.2.2.blk (fun e => by have h1 := congrArg List.length e; rw [tbL_length] at h1; simp at h1; omega)
  rw [tbL_length, tbL_length] at hTB
  have hread := hid (fun W (hb : Below w.heap.size w W) => (show W.cell? ⟨G, 0, none⟩ = some (.slice (some ⟨gN, 0, none⟩) T.n cN) ∧ W.cell? ⟨G, 1, none⟩ = some (.slice (some ⟨gO, 0, none⟩) T.n cO) from ⟨(hTB.below hb).c0, (hTB.below hb).c1⟩))
  have hrowN := hid (fun q (hq : q < T.n) => (show ∃ g c, ∀ W, Below w.heap.size w W → W.cell? ⟨gN, q, none⟩ = some (.slice (some ⟨g, 0, none⟩) T.L c) ∧ Own W G 2 (.slice (some ⟨g, 0, none⟩) T.L c) (ints (rwI T.nx q T.L)) from by
    obtain ⟨rows, hO, hlr, hall⟩ := hTB.2.1
    have hi : q < rows.length := by rw [hlr, tbL_length]; exact hq
    obtain ⟨r, hr⟩ : ∃ r, rows[q]? = some r := ⟨_, List.getElem?_eq_getElem hi⟩
    have hrow := hall q r _ hr (tbL_get T.nx T.n T.L q hq)
    obtain ⟨g, c, rfl, _, _⟩ := hrow.blk (fun e => by have h1 := congrArg List.length e; rw [ints_length, rwI_length] at h1; simp at h1; omega)
    rw [ints_length, rwI_length] at hr hrow
    exact ⟨g, c, fun W hb => ⟨(hO.below hb).cellAt q _ hr, hrow.below hb⟩⟩))
  have hrowO := hid (fun q (hq : q < T.n) => (show ∃ g c, ∀ W, Below w.heap.size w W → W.cell? ⟨gO, q, none⟩ = some (.slice (some ⟨g, 0, none⟩) T.L c) ∧ ∀ x, x < T.L → W.cell? ⟨g, x, none⟩ = some (.int .i64 (T.ot q x : Nat)) from by
    obtain ⟨rows, hO, hlr, hall⟩ := hTB.2.2
    have hi : q < rows.length := by rw [hlr, tbL_length]; exact hq
    obtain ⟨r, hr⟩ : ∃ r, rows[q]? = some r := ⟨_, List.getElem?_eq_getElem hi⟩
    have hrow := hall q r _ hr (tbL_get T.ot T.n T.L q hq)
    obtain ⟨g, c, rfl, _, _⟩ := hrow.blk (fun e => by have h1 := congrArg List.length e; rw [ints_length, rwI_length] at h1; simp at h1; omega)
    rw [ints_length, rwI_length] at hr hrow
    exact ⟨g, c, fun W hb => ⟨(hO.below hb).cellAt q _ hr, fun x hx => (hrow.below hb).cellAt x _ (by simp [ints, rwI_get _ _ _ _ hx])⟩⟩))
  have hmk := fun W : World => run_make_row' (P := Try.prog) 83 4 (.bool false) 1 Try.underlying83 info_bool rfl .i64 .i64 T.n (by omega) (by omega) W
  have hmc := hid (toList_madeCells_one (.bool false) T.n)
  generalize madeCells #[.bool false] T.n = mc at *
  have hmcs := hid (show mc.size = T.n by rw [← Array.length_toList, hmc.out, List.length_replicate])
  have hmf : ∀ (fn : Fn) (first cap : Array Value) (w : World), (Instr.makeFunc fn first cap).run Try.prog w = .ok (.func fn first cap) w := fun _ _ _ _ => rfl
  have hS := (St.start w).newArr mc T.n hmcs.out 4 (by omega)
  rw [hmc.out, ← keptL_zero T T.n] at hS
  have hS2 := hid (hS.newBlk #[.slice (some ⟨w.heap.size, 0, none⟩) T.n T.n] 83)
  rw [heap_alloc_size] at hS2
  clear hS
  have e1 := (hread.out w (Below.refl _ _)).2
  have hkd := hid (keptL_done T)
  have hks := hid (keptL_set T)
  have hlt := hid (fun q x hq hx => hT.nx q x hq hx)
  have hgo := hid (Nat.le_refl w.heap.size)
  replace hT := hid hT; replace hTB := hid hTB; replace hmcs := hid hmcs
  generalize hnn : T.n = n at *
  generalize hLL : T.L = L at *
  replace hnn := hid hnn; replace hLL := hid hLL
  go_enter Try.func160, Try.ntmps160
  go_upto_region 2 with (fail)
  clear e1
  have e1 := (hread.out _ hS2.out.bel).2
  generalize (w.alloc (.cells mc 4)).alloc (.cells #[.slice (some ⟨w.heap.size, 0, none⟩) n n] 83) = W1 at *
  generalize hgoe : w.heap.size = go at *
  replace hgoe := hid hgoe
  go_wp2
  clear e1
  go_loopw [22] (fun i wr => ∃ q : Nat, q ≤ n ∧ i = .int .i64 q ∧ St go w [Asn.blk (go + 1) #[.slice (some ⟨go, 0, none⟩) n n] 83, Asn.own go 4 (.slice (some ⟨go, 0, none⟩) n n) (bls (keptL T q n))] wr) (fun i _ => n - (intOf i).toNat)
  case atStart => exact ⟨0, Nat.zero_le _, rfl, hS2.out⟩
  case round =>
    obtain ⟨q, hq, rfl, rS⟩ := hrel
    clear hS2
    replace rS := hid rS
    by_cases hqn : q < n
    · obtain ⟨g2, c2, hr2⟩ := hrowO.out q hqn
      have e1 := (hr2 _ rS.out.bel).1
      have cb := cell_of_row _ _ 0 _ _ _ rS.out.k0
      have hl0 := hid (show (bls (keptL T q n)).length = n by rw [bls_length, keptL_length])
      have fo := Own.frozenAt rS.out.o1 hl0.out q
      obtain ⟨u0, hu0⟩ : ∃ u, (bls (keptL T q n))[q]? = some u := ⟨_, List.getElem?_eq_getElem (by rw [hl0.out]; exact hqn)⟩
      have co := Own.cellAt rS.out.o1 q u0 hu0
      clear hu0
      have hset := hid (rS.out.f1.setOwn hl0.out q (.bool true) hqn)
      rw [bls_set] at hset
      go_upto_region 6 with (fail)
      replace hset := hid hset.out
      generalize wr.setCell ⟨go, q, none⟩ (.bool true) = wa at *
      clear e1 cb fo co rS
      go_wp2
      have hset2 := hid (show St go w [Asn.own go 4 (.slice (some ⟨go, 0, none⟩) n n) (bls ((keptL T q n).set q (alls 0 fun x => T.ot q x == x))), Asn.blk (go + 1) #[.slice (some ⟨go, 0, none⟩) n n] 83] wa from hset.out)
      clear hset
      go_loopw [32] (fun i wr => ∃ x : Nat, x ≤ L ∧ i = .int .i64 x ∧ St go w [Asn.own go 4 (.slice (some ⟨go, 0, none⟩) n n) (bls ((keptL T q n).set q (alls x fun x => T.ot q x == x))), Asn.blk (go + 1) #[.slice (some ⟨go, 0, none⟩) n n] 83] wr) (fun i _ => L - (intOf i).toNat)
      case atStart => exact ⟨0, Nat.zero_le _, rfl, hset2.out⟩
      case round =>
        obtain ⟨x, hx, rfl, yS⟩ := hrel
        clear hset2
        replace yS := hid yS
        by_cases hxL : x < L
        · have ci := (hr2 _ yS.out.bel).2 x hxL
          have cb := cell_of_row _ _ 0 _ _ _ yS.out.k1
          have hl1 := hid (show (bls ((keptL T q n).set q (alls x fun x => T.ot q x == x))).length = n by rw [bls_length, List.length_set, keptL_length])
          have hg1 := hid (show ((keptL T q n).set q (alls x fun x => T.ot q x == x))[q]? = some (alls x fun x => T.ot q x == x) by rw [List.getElem?_set_self (by rw [keptL_length]; exact hqn)])
          have hsc := hid (show alls (x + 1) (fun x => T.ot q x == x) = ((alls x fun x => T.ot q x == x) && (T.ot q x == x)) from alls_succ x _)
          have hss := hid (fun b => (show ((keptL T q n).set q (alls x fun x => T.ot q x == x)).set q b = (keptL T q n).set q b by rw [List.set_set]))
          have hnx := hid (fun b => bls_set ((keptL T q n).set q (alls x fun x => T.ot q x == x)) q b)
          generalize (keptL T q n).set q (alls x fun x => T.ot q x == x) = bl at *
          have co := Own.cellAt yS.out.o0 q _ (bls_get hg1.out)
          have fo := Own.frozenAt yS.out.o0 hl1.out q
          have hst := hid (fun b => (show St go w [Asn.own go 4 (.slice (some ⟨go, 0, none⟩) n n) (bls (bl.set q b)), Asn.blk (go + 1) #[.slice (some ⟨go, 0, none⟩) n n] 83] (wr.drew.setCell ⟨go, q, none⟩ (.bool b)) from by have h := yS.out.drew.setOwn hl1.out q (.bool b) hqn; rw [hnx.out] at h; exact h))
          by_cases hyy : T.ot q x = x
          · have hye : (((T.ot q x : Nat) : Int) == (x : Int)) = true := by simp [hyy]
            have hye2 : (T.ot q x == x) = true := by simp [hyy]
            clear hyy
            generalize T.ot q x = y at *
            cases hal : (alls x fun x => T.ot q x == x) with
            | true =>
              rw [hal] at co hsc
              clear hal
              have hfin := hid (show (keptL T q n).set q (alls (x + 1) fun x => T.ot q x == x) = bl.set q true by rw [hsc.out, hye2, hss.out]; rfl)
              have fo2 : wr.drew.frozen? ⟨go, q, none⟩ = false := fo
              have co2 : wr.drew.cell? ⟨go, q, none⟩ = some (.bool true) := co
              replace hst := hid (hst.out true)
              go_upto_region 9 with (fail)
              refine wp_region_still_tail 12 (by kernel_rfl) (by kernel_rfl) ?_
              simp only [List.take_succ_cons, List.take_zero, List.drop_succ_cons, List.drop_zero]
              repeat still_step
              try refine wpStill_nil ?_
              change wpList _ _ _ _ _ wr.drew
              clear fo co cb ci yS
              generalize wr.drew = wd at *
              go_wp2
              go_roundw
              case rel => exact ⟨x + 1, by omega, by go_num, by rw [hfin.out]; exact hst.out⟩
              case measure => simp [intOf]; omega
            | false =>
              rw [hal] at co hsc
              clear hal
              have hfin := hid (show (keptL T q n).set q (alls (x + 1) fun x => T.ot q x == x) = bl.set q false by rw [hsc.out, hye2, hss.out]; rfl)
              have fo2 : wr.drew.frozen? ⟨go, q, none⟩ = false := fo
              have co2 : wr.drew.cell? ⟨go, q, none⟩ = some (.bool false) := co
              replace hst := hid (hst.out false)
              go_upto_region 9 with (fail)
              refine wp_region_still_tail 12 (by kernel_rfl) (by kernel_rfl) ?_
              simp only [List.take_succ_cons, List.take_zero, List.drop_succ_cons, List.drop_zero]
              repeat still_step
              try refine wpStill_nil ?_
              change wpList _ _ _ _ _ wr.drew
              clear fo co cb ci yS
              generalize wr.drew = wd at *
              go_wp2
              go_roundw
              case rel => exact ⟨x + 1, by omega, by go_num, by rw [hfin.out]; exact hst.out⟩
              case measure => simp [intOf]; omega
          · have hye : (((T.ot q x : Nat) : Int) == (x : Int)) = false := by simp; omega
            have hye2 : (T.ot q x == x) = false := by simp [hyy]
            clear hyy
            generalize T.ot q x = y at *
            cases hal : (alls x fun x => T.ot q x == x) with
            | true =>
              rw [hal] at co hsc
              clear hal
              have hfin := hid (show (keptL T q n).set q (alls (x + 1) fun x => T.ot q x == x) = bl.set q false by rw [hsc.out, hye2, hss.out]; rfl)
              have fo2 : wr.drew.frozen? ⟨go, q, none⟩ = false := fo
              have co2 : wr.drew.cell? ⟨go, q, none⟩ = some (.bool true) := co
              replace hst := hid (hst.out false)
              go_upto_region 9 with (fail)
              refine wp_region_still_tail 12 (by kernel_rfl) (by kernel_rfl) ?_
              simp only [List.take_succ_cons, List.take_zero, List.drop_succ_cons, List.drop_zero]
              repeat still_step
              try refine wpStill_nil ?_
              change wpList _ _ _ _ _ wr.drew
              clear fo co cb ci yS
              generalize wr.drew = wd at *
              go_wp2
              go_roundw
              case rel => exact ⟨x + 1, by omega, by go_num, by rw [hfin.out]; exact hst.out⟩
              case measure => simp [intOf]; omega
            | false =>
              rw [hal] at co hsc
              clear hal
              have hfin := hid (show (keptL T q n).set q (alls (x + 1) fun x => T.ot q x == x) = bl.set q false by rw [hsc.out, hye2, hss.out]; rfl)
              have fo2 : wr.drew.frozen? ⟨go, q, none⟩ = false := fo
              have co2 : wr.drew.cell? ⟨go, q, none⟩ = some (.bool false) := co
              replace hst := hid (hst.out false)
              go_upto_region 9 with (fail)
              refine wp_region_still_tail 12 (by kernel_rfl) (by kernel_rfl) ?_
              simp only [List.take_succ_cons, List.take_zero, List.drop_succ_cons, List.drop_zero]
              repeat still_step
              try refine wpStill_nil ?_
              change wpList _ _ _ _ _ wr.drew
              clear fo co cb ci yS
              generalize wr.drew = wd at *
              go_wp2
              go_roundw
              case rel => exact ⟨x + 1, by omega, by go_num, by rw [hfin.out]; exact hst.out⟩
              case measure => simp [intOf]; omega
        · obtain rfl : x = L := by omega
          have hk : (keptL T q n).set q (alls x fun x => T.ot q x == x) = keptL T (q + 1) n := by rw [← hks.out q n]; unfold Go.Proofs.Ytgpjcekpmhfljaa.kept; rw [hLL.out]
          rw [hk] at yS
          clear hk
          go_wp2
          go_roundw
          case rel => exact ⟨q + 1, by omega, by go_num, yS.out.f1⟩
          case measure => simp [intOf]; omega
    · obtain rfl : q = n := by omega
      have hB0 : Hid (TvB T (keptL T q q)) := hkd
      obtain ⟨bl, hbl⟩ : ∃ bl, bl = keptL T q q := ⟨_, rfl⟩
      rw [← hbl] at hB0 rS
      clear hbl hkd hks hrowO hmk hmc hmcs
      have hcb := hid (show cntB bl + 1 ≤ q + 1 from by have h1 := cntB_le bl; have h2 := hB0.out.1; rw [hnn.out] at h2; omega)
      go_wp2
      go_loopg [8] (q + 1) (fun gk a wr => ∃ (bl : List Bool) (ab : Bool), a = .bool ab ∧ Hid (TvB T bl) ∧ Hid (ab = true → cntB bl + 1 ≤ gk) ∧ Hid (ab = false → TvC T bl q) ∧ St go w [Asn.blk (go + 1) #[.slice (some ⟨go, 0, none⟩) q q] 83, Asn.own go 4 (.slice (some ⟨go, 0, none⟩) q q) (bls bl)] wr)
      case atStart => exact ⟨bl, true, rfl, hB0, fun _ => hcb.out, fun h => (by cases h), rS.out⟩
      case round =>
        obtain ⟨bl, ab, rfl, hB, hc1, hc2, yS⟩ := hrel
        clear rS hB0 hcb
        replace yS := hid yS
        cases ab with
        | false =>
          have hfin := hid (hB.out.done (by have h := hc2.out rfl; rw [← hnn.out] at h; exact h))
          clear hc1 hc2
          have cb := cell_of_row _ _ 0 _ _ _ yS.out.k0
          go_wp2
          go_ret
          exact ⟨_, rfl, by rw [← hfin.out, hgoe.out]; exact yS.out.o1, by rw [hgoe.out]; exact yS.out.bel⟩
        | true =>
          clear hc2
          have e0 := (hread.out _ yS.out.bel).1
          go_wp2
          clear e0
          go_loopw [8, 57] (fun a i wr => ∃ (j : Nat) (b2 : List Bool) (a2 : Bool), j ≤ q ∧ i = .int .i64 j ∧ a = .bool a2 ∧ Hid (TvB T b2) ∧ Hid (cntB b2 ≤ cntB bl) ∧ Hid (a2 = true → cntB b2 + 1 ≤ cntB bl) ∧ Hid (a2 = false → TvC T b2 j) ∧ St go w [Asn.blk (go + 1) #[.slice (some ⟨go, 0, none⟩) q q] 83, Asn.own go 4 (.slice (some ⟨go, 0, none⟩) q q) (bls b2)] wr) (fun _ i _ => q - (intOf i).toNat)
          case atStart => exact ⟨0, bl, false, Nat.zero_le _, rfl, rfl, hB, Nat.le_refl _, (fun h => by cases h), (fun _ j hj => absurd hj (by omega)), yS.out⟩
          case round =>
            obtain ⟨j, b2, a2, hj, rfl, rfl, hB2, hle, hd1, hd2, zS⟩ := hrel
            clear yS
            replace zS := hid zS
            by_cases hjq : j < q
            · obtain ⟨g2, c2, hr2⟩ := hrowN.out j hjq
              have e1 := (hr2 _ zS.out.bel).1
              have cb := cell_of_row _ _ 0 _ _ _ zS.out.k0
              have hbl := hid (show (bls b2).length = q by rw [bls_length, hB2.out.1, hnn.out])
              obtain ⟨u, hu⟩ : ∃ u, b2[j]? = some u := ⟨_, List.getElem?_eq_getElem (by rw [hB2.out.1, hnn.out]; exact hjq)⟩
              have co := Own.cellAt zS.out.o1 j _ (bls_get hu)
              cases u with
              | false =>
                have hC := hid (fun h => TvC.more hT.out hB2.out.1 (by rw [hnn.out]; exact hjq) (hd2.out h) (fun k => by rw [hu] at k; cases k))
                clear hu
                go_wp2
                go_roundw
                case rel => exact ⟨j + 1, b2, a2, by omega, by go_num, rfl, hB2, hle, hd1, hC, zS.out⟩
                case measure => simp [intOf]; omega
              | true =>
                have hlo : (rwI T.nx j L).any (fun r => !(b2.getD r.toNat false)) = lost T b2 j := by rw [← hLL.out]; rfl
                have hcf := hid (containsFuncI_triv (go + 1) wr G (.slice (some ⟨g2, 0, none⟩) L c2) (rwI T.nx j L) (hr2 _ zS.out.bel).2 (by rw [rwI_length]; omega) (fun r => !(b2.getD r.toNat false)) (fun W' hW' x hx => by
                  obtain ⟨k, hk, rfl⟩ := List.mem_map.1 hx
                  have hkl := hlt.out j k hjq (List.mem_range.1 hk)
                  have zS' := zS.out.call hW'
                  have hg : b2[T.nx j k]? = some (b2.getD (T.nx j k) false) := by
                    have hl2 : T.nx j k < b2.length := by rw [hB2.out.1, hnn.out]; exact hkl
                    rw [List.getD_eq_getElem?_getD, List.getElem?_eq_getElem hl2]; rfl
                  refine (triv1_any (go + 1) go q q (T.nx j k) _ W' (cell_of_row _ _ 0 _ _ _ zS'.k0) hkl (Own.cellAt zS'.o1 _ _ (bls_get hg))).mono ?_
                  rintro e w' ⟨rfl, rfl⟩
                  exact ⟨rfl, Below.refl _ _⟩))
                rw [hlo] at hcf
                cases hl : lost T b2 j with
                | false =>
                  rw [hl] at hcf
                  have hC := hid (fun h => TvC.more hT.out hB2.out.1 (by rw [hnn.out]; exact hjq) (hd2.out h) (fun _ => hl))
                  clear hu hl hlo
                  go_wp2_with (first
                    | (go_at_call 114; (with_reducible refine (hcf.out).mono ?_); rintro e w2 ⟨rfl, hb⟩; replace zS := hid (zS.out.call hb); clear hb))
                  go_roundw
                  case rel => exact ⟨j + 1, b2, a2, by omega, by go_num, rfl, hB2, hle, hd1, hC, zS.out⟩
                  case measure => simp [intOf]; omega
                | true =>
                  rw [hl] at hcf
                  have hB3 := hid (TvB.strike hT.out hB2.out (by rw [hnn.out]; exact hjq) hl)
                  have hc3 := hid (show cntB (b2.set j false) + 1 ≤ cntB bl from by have h1 := cntB_set b2 j hu; have h2 := hle.out; omega)
                  clear hl hlo
                  go_upto_region 19 with (first
                    | (go_at_call 114; (with_reducible refine (hcf.out).mono ?_); rintro e w2 ⟨rfl, hb⟩; replace zS := hid (zS.out.call hb); clear hb))
                  clear cb co e1
                  have cb := cell_of_row _ _ 0 _ _ _ zS.out.k0
                  have co := Own.cellAt zS.out.o1 j _ (bls_get hu)
                  have fo := Own.frozenAt zS.out.o1 hbl.out j
                  clear hu
                  have zS2 := hid (zS.out.f1.setOwn hbl.out j (.bool false) hjq)
                  rw [bls_set] at zS2
                  go_wp2
                  go_roundw
                  case rel => exact ⟨j + 1, b2.set j false, true, by omega, by go_num, rfl, hB3, hid (by have := hc3.out; omega), fun _ => hc3.out, (fun h => by cases h), zS2.out.f1⟩
                  case measure => simp [intOf]; omega
            · obtain rfl : j = q := by omega
              have hc4 := hid (show (a2 = true → cntB b2 + 1 ≤ (if a2 = true then cntB b2 + 1 else 0)) ∧ (if a2 = true then cntB b2 + 1 else 0) < gk from by
                have h1 := hc1.out (by first | rfl | trivial)
                cases a2 with
                | true => have h2 := hd1.out rfl; simp; omega
                | false => simp; omega)
              clear hc1
              go_wp2
              go_roundg (if a2 = true then cntB b2 + 1 else 0)
              case measure => exact hc4.out.2
              case rel => exact ⟨b2, a2, rfl, hB2, hid hc4.out.1, hd2, zS.out⟩
end Go.Proofs.Ytgpjcekpmhfljaa
