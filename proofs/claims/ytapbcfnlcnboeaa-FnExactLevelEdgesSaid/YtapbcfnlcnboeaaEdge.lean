/- Lists of edges: three numbers an element; compared, marked and held. -/
import Derived.Test.YtapbcfnlcnboeaaOwnN
import Derived.Test.YtapbcfnlcnboeaaRes
import Derived.Test.YtapbcfnlcnboeaaDual
namespace Go.Proofs.Ytapbcfnlcnboeaa
open Go.RowKit
set_option linter.unusedVariables false
set_option linter.unusedSimpArgs false

def c3 (a b c : Int) : List Value := [.int .i64 a, .int .i64 b, .int .i64 c]
theorem c3_one (a b c : Int) : ∀ u ∈ c3 a b c, u.oneCell' = true := by intro u hu; simp [c3] at hu; rcases hu with rfl | rfl | rfl <;> rfl
/-- The edges of the first k words, and q of the next one. -/
def edL (F : Nat → Nat → Nat) (s k q : Nat) : List (Nat × Nat × Nat) := ((List.range k).flatMap fun i => (List.range s).map fun p => (i, p, F p i)) ++ (List.range q).map fun p => (k, p, F p k)
def ecs (E : List (Nat × Nat × Nat)) : List Value := E.flatMap fun e => c3 e.1 e.2.1 e.2.2
theorem edL_snoc (F : Nat → Nat → Nat) (s k q : Nat) : edL F s k (q + 1) = edL F s k q ++ [(k, q, F q k)] := by simp [edL, List.range_succ]
theorem edL_row (F : Nat → Nat → Nat) (s k : Nat) : edL F s k s = edL F s (k + 1) 0 := by simp [edL, List.range_succ]
theorem edL_length (F : Nat → Nat → Nat) (s k q : Nat) : (edL F s k q).length = k * s + q := by
  have h : ∀ k, ((List.range k).flatMap fun i => (List.range s).map fun p => (i, p, F p i)).length = k * s := by
    intro k
    induction k with
    | zero => simp
    | succ k ih => rw [List.range_succ, List.flatMap_append, List.length_append, ih, Nat.succ_mul]; simp
  simp [edL, h k]
theorem ecs_snoc (E : List (Nat × Nat × Nat)) (a b c : Nat) : ecs (E ++ [(a, b, c)]) = ecs E ++ c3 a b c := by simp [ecs]
theorem ecs_length (E : List (Nat × Nat × Nat)) : (ecs E).length = E.length * 3 := by
  induction E with
  | nil => rfl
  | cons e E ih => simp [ecs, c3] at ih ⊢; rw [ih]; omega
theorem ecs_get (E : List (Nat × Nat × Nat)) (i : Nat) (e : Nat × Nat × Nat) (h : E[i]? = some e) : ∀ j, j < 3 → (ecs E)[i * 3 + j]? = (c3 e.1 e.2.1 e.2.2)[j]? := by
  induction E generalizing i with
  | nil => simp at h
  | cons x E ih =>
    intro j hj
    have hc : ecs (x :: E) = c3 x.1 x.2.1 x.2.2 ++ ecs E := by simp [ecs]
    have hl : (c3 x.1 x.2.1 x.2.2).length = 3 := rfl
    rw [hc]
    cases i with
    | zero =>
      simp at h
      subst h
      rw [Nat.zero_mul, Nat.zero_add, List.getElem?_append_left (by rw [hl]; exact hj)]
    | succ i =>
      rw [List.getElem?_append_right (by rw [hl]; omega), hl, show (i + 1) * 3 + j - 3 = i * 3 + j by omega]
      exact ih i (by simpa using h) j hj

theorem eqEdge_same (a b c : Int) (w : World) : Calls Try.prog 72 #[.agg (c3 a b c).toArray, .agg (c3 a b c).toArray] w fun e w' => e = .returned (.bool true) ∧ Below w.heap.size w w' := by
  have n1 : (a != a) = false := by simp
  have n2 : (b != b) = false := by simp
  have n3 : (c != c) = false := by simp
  unfold c3
  go_enter Try.func72, Try.ntmps72
  go_wp2
  go_ret
  exact ⟨rfl, ((Below.refl _ _).alloc (Nat.le_refl _) _).alloc (by simp) _⟩

theorem sz_edge : (Try.prog.info? 81).map (·.size) = some 3 := by kernel_rfl
set_option maxHeartbeats 1000000 in
set_option maxRecDepth 100000 in
theorem eqEdgeS_any (w : World) (b1 b2 : Nat) (v1 v2 : Value) (E : List (Nat × Nat × Nat)) (h1 : OwnN w b1 81 3 v1 E.length (ecs E)) (h2 : OwnN w b2 81 3 v2 E.length (ecs E)) (hl : E.length < 1000000) :
    Calls Try.prog 38 #[v1, v2] w fun e w' => e = .returned (.bool true) ∧ Below w.heap.size w w' := by
  by_cases hne : E.length = 0
  · rw [hne] at h1 h2
    have e1 : (∃ A c, v1 = .slice A 0 c) ∧ (∃ A c, v2 = .slice A 0 c) := by
      constructor
      · rcases h1.form with ⟨h, _⟩ | ⟨g, c, h⟩
        · exact ⟨_, _, h⟩
        · exact ⟨_, _, h⟩
      · rcases h2.form with ⟨h, _⟩ | ⟨g, c, h⟩
        · exact ⟨_, _, h⟩
        · exact ⟨_, _, h⟩
    obtain ⟨⟨A1, c1, rfl⟩, A2, c2, rfl⟩ := e1
    clear h1 h2
    go_enter Try.func38, Try.ntmps38
    go_wp2
    go_loopw [5] (fun i wr => i = .int .i64 0 ∧ wr = w) (fun _ _ => 0)
    case atStart => exact ⟨rfl, rfl⟩
    case round =>
      obtain ⟨rfl, rfl⟩ := hrel
      go_wp2
      go_ret
      exact ⟨rfl, Below.refl _ _⟩
  · obtain ⟨g1, c1, rfl⟩ := h1.blk (by omega)
    obtain ⟨g2, c2, rfl⟩ := h2.blk (by omega)
    have hget := hid (ecs_get E)
    replace h1 := hid h1
    replace h2 := hid h2
    clear hne
    generalize hn : E.length = n at *
    go_enter Try.func38, Try.ntmps38
    go_wp2
    go_loopw [5] (fun i wr => ∃ k : Nat, k ≤ n ∧ i = .int .i64 k ∧ Below w.heap.size w wr) (fun i _ => n - (intOf i).toNat)
    case atStart => exact ⟨0, Nat.zero_le _, rfl, Below.refl _ _⟩
    case round =>
      obtain ⟨k, hk, rfl, rB⟩ := hrel
      replace rB := hid rB
      by_cases hlt : k < n
      · obtain ⟨⟨a, b, c⟩, hx⟩ : ∃ x, E[k]? = some x := ⟨_, List.getElem?_eq_getElem (by omega)⟩
        have rg1 := hid ((h1.out.keep (w' := wr) fun j hj => rB.out.block j (h1.out.lt j hj).2).range (k * 3) (c3 a b c) (fun j hj => hget.out k _ hx j hj))
        have rg2 := hid ((h2.out.keep (w' := wr) fun j hj => rB.out.block j (h2.out.lt j hj).2).range (k * 3) (c3 a b c) (fun j hj => hget.out k _ hx j hj))
        have hcall := hid (fun W => eqEdge_same (a : Int) (b : Int) (c : Int) W)
        clear hx
        go_upto_region 6 with (fail)
        refine wp_region_still_tail 8 (by kernel_rfl) (by kernel_rfl) ?_
        simp only [List.take_succ_cons, List.take_zero, List.drop_succ_cons, List.drop_zero]
        repeat (first
          | ((with_reducible refine still_gate 20 rfl ?_); refine still_row rfl 81 _ rfl g1 (k * 3) rfl _ _ rg1.out Try.underlying81 rfl sz_edge ?_)
          | ((with_reducible refine still_gate 24 rfl ?_); refine still_row rfl 81 _ rfl g2 (k * 3) rfl _ _ rg2.out Try.underlying81 rfl sz_edge ?_)
          | still_step)
        try refine wpStill_nil ?_
        change wpList _ _ _ _ _ wr.drew
        have rBd := hid rB.out.drew
        clear rg1 rg2 rB
        generalize wr.drew = wd at *
        go_wp2_with (go_at_call 72; refine (hcall.out _).mono ?_; rintro e w1 ⟨rfl, hb⟩; have rB2 := hid (rBd.out.trans (hb.mono rBd.out.size)); clear hb rBd)
        go_roundw
        case rel => exact ⟨k + 1, by omega, by go_num, rB2.out⟩
        case measure => simp [intOf]; omega
      · obtain rfl : k = n := by omega
        go_wp2
        go_ret
        exact ⟨rfl, rB.out⟩

theorem mark_step3 (k j n : Nat) (cs : List Value) (hn : cs.length = n * 3) (hj : j < n) :
    (((marks k (j * 3) ++ cs.drop (j * 3)).set (j * 3) (.int .i64 ((k + j * 3 : Nat) : Int))).set (j * 3 + 1) (.int .i64 ((k + (j * 3 + 1) : Nat) : Int))).set (j * 3 + 2) (.int .i64 ((k + (j * 3 + 2) : Nat) : Int)) = marks k ((j + 1) * 3) ++ cs.drop ((j + 1) * 3) := by
  rw [mark_step k (j * 3) (n * 3) cs hn (by omega), mark_step k (j * 3 + 1) (n * 3) cs hn (by omega), mark_step k (j * 3 + 1 + 1) (n * 3) cs hn (by omega), show j * 3 + 1 + 1 + 1 = (j + 1) * 3 by omega]
set_option maxHeartbeats 1000000 in
set_option maxRecDepth 100000 in
theorem markEdgeS_any (w : World) (base : Nat) (v : Value) (cs : List Value) (n k : Nat) (h : OwnN w base 81 3 v n cs) (hl : n * 3 + k < 1000000) :
    Calls Try.prog 39 #[v, .int .i64 k] w fun e w' => e = .returned (.int .i64 ((k + n * 3 : Nat) : Int)) ∧ OwnN w' base 81 3 v n (marks k (n * 3)) ∧ Below base w w' := by
  have hcs := h.len
  by_cases hne : n = 0
  · subst hne
    have e1 : ∃ A c, v = .slice A 0 c := by
      rcases h.form with ⟨h, _⟩ | ⟨g, c, h⟩
      · exact ⟨_, _, h⟩
      · exact ⟨_, _, h⟩
    obtain ⟨A1, c1, rfl⟩ := e1
    have hcs0 : cs = [] := List.eq_nil_of_length_eq_zero (by omega)
    subst hcs0
    have hm : marks k (0 * 3) = [] := rfl
    rw [hm]
    replace h := hid h
    replace hm := hid hm
    clear hcs
    go_enter Try.func39, Try.ntmps39
    go_wp2
    go_loopw [1, 5] (fun i j wr => i = .int .i64 k ∧ j = .int .i64 0 ∧ wr = w) (fun _ _ _ => 0)
    case atStart => exact ⟨rfl, rfl, rfl⟩
    case round =>
      obtain ⟨rfl, rfl, rfl⟩ := hrel
      go_wp2
      go_ret
      exact ⟨by simp, h.out, Below.refl _ _⟩
  · obtain ⟨g, c, rfl⟩ := h.blk (by omega)
    have hb := (h.lt g rfl).1
    replace h := hid h
    replace hcs := hid hcs
    go_enter Try.func39, Try.ntmps39
    go_wp2
    go_loopw [1, 5] (fun q i wr => ∃ j : Nat, j ≤ n ∧ i = .int .i64 j ∧ q = .int .i64 ((k + j * 3 : Nat) : Int) ∧ OwnN wr base 81 3 (.slice (some ⟨g, 0, none⟩) n c) n (marks k (j * 3) ++ cs.drop (j * 3)) ∧ Below base w wr) (fun _ i _ => n - (intOf i).toNat)
    case atStart => exact ⟨0, Nat.zero_le _, rfl, rfl, h.out, Below.refl _ _⟩
    case round =>
      obtain ⟨j, hj, rfl, rfl, r1, rB⟩ := hrel
      by_cases hlt : j < n
      · have hst := hid (mark_step3 k j n cs hcs.out hlt)
        have hex : ∀ o, o < 3 → ∃ u, wr.cell? ⟨g, j * 3 + o, none⟩ = some u := fun o ho => by
          have hlen : (marks k (j * 3) ++ cs.drop (j * 3)).length = n * 3 := r1.len
          exact ⟨_, r1.cellAt (j * 3 + o) _ (List.getElem?_eq_getElem (by omega))⟩
        obtain ⟨u0, c0⟩ := hex 0 (by omega)
        obtain ⟨u1, c1'⟩ := hex 1 (by omega)
        obtain ⟨u2, c2'⟩ := hex 2 (by omega)
        rw [Nat.add_zero] at c0
        have f0 := r1.frozenAt (j * 3)
        have f1 := r1.frozenAt (j * 3 + 1)
        have f2 := r1.frozenAt (j * 3 + 2)
        have y1 := hid (((r1.set (j * 3) (.int .i64 ((k + j * 3 : Nat) : Int))).set (j * 3 + 1) (.int .i64 ((k + (j * 3 + 1) : Nat) : Int))).set (j * 3 + 2) (.int .i64 ((k + (j * 3 + 2) : Nat) : Int)))
        have yB := hid (((rB.setCell (p := ⟨g, j * 3, none⟩) hb (.int .i64 ((k + j * 3 : Nat) : Int))).setCell (p := ⟨g, j * 3 + 1, none⟩) hb (.int .i64 ((k + (j * 3 + 1) : Nat) : Int))).setCell (p := ⟨g, j * 3 + 2, none⟩) hb (.int .i64 ((k + (j * 3 + 2) : Nat) : Int)))
        clear h r1 rB hex
        have e1 : ((k + (j * 3 + 1) : Nat) : Int) = ((k + j * 3 : Nat) : Int) + 1 := by omega
        have e2 : ((k + (j * 3 + 2) : Nat) : Int) = ((k + j * 3 : Nat) : Int) + 1 + 1 := by omega
        have e3 : ((k + (j + 1) * 3 : Nat) : Int) = ((k + j * 3 : Nat) : Int) + 1 + 1 + 1 := by omega
        have e4 : ((k + j * 3 : Nat) : Int) < 1000000 := by omega
        have e5 : 0 ≤ ((k + j * 3 : Nat) : Int) := by omega
        rw [e1, e2] at y1 yB hst
        replace e3 := hid e3
        clear e1 e2
        generalize hkj : ((k + j * 3 : Nat) : Int) = kj at *
        go_wp2
        go_roundw
        case rel => exact ⟨j + 1, by omega, by go_num, by rw [e3.out], by rw [← hst.out]; exact y1.out, yB.out⟩
        case measure => simp [intOf]; omega
      · obtain rfl : j = n := by omega
        have hm : marks k (j * 3) ++ cs.drop (j * 3) = marks k (j * 3) := by rw [← hcs.out, List.drop_length, List.append_nil]
        rw [hm] at r1
        replace r1 := hid r1
        replace rB := hid rB
        replace hm := hid hm
        clear h
        go_wp2
        go_ret
        exact ⟨rfl, r1.out, rB.out⟩
theorem markEdge1 (w : World) (base : Nat) (v : Value) (cs : List Value) (n : Nat) (h : OwnN w base 81 3 v n cs) (hl : n < 300000) :
    Calls Try.prog 39 #[v, .int .i64 1] w fun e w' => e = .returned (.int .i64 (((n * 3 : Nat) : Int) + 1)) ∧ OwnN w' base 81 3 v n (marks 1 (n * 3)) ∧ Below base w w' :=
  (markEdgeS_any w base v cs n 1 h (by omega)).mono fun e w' ⟨h1, h2⟩ => ⟨h1.trans (retI (by omega)), h2⟩

set_option maxHeartbeats 1000000 in
set_option maxRecDepth 100000 in
theorem heldEdgeS_any (w : World) (base : Nat) (v : Value) (n k : Nat) (h : OwnN w base 81 3 v n (marks k (n * 3))) (hl : n * 3 + k < 1000000) :
    Calls Try.prog 40 #[v, .int .i64 k] w fun e w' => e = .returned (.int .i64 ((k + n * 3 : Nat) : Int)) ∧ w = w' := by
  by_cases hne : n = 0
  · subst hne
    have e1 : ∃ A c, v = .slice A 0 c := by
      rcases h.form with ⟨h, _⟩ | ⟨g, c, h⟩
      · exact ⟨_, _, h⟩
      · exact ⟨_, _, h⟩
    obtain ⟨A1, c1, rfl⟩ := e1
    clear h
    go_enter Try.func40, Try.ntmps40
    go_wp2
    go_loop [1, 5] (fun i j => i = .int .i64 k ∧ j = .int .i64 0) (fun _ _ => 0)
    case atStart => exact ⟨rfl, rfl⟩
    case round =>
      obtain ⟨rfl, rfl⟩ := hrel
      go_wp2
      go_ret
      exact ⟨by simp, rfl⟩
  · obtain ⟨g, c, rfl⟩ := h.blk (by omega)
    replace h := hid h
    go_enter Try.func40, Try.ntmps40
    go_wp2
    go_loop [1, 5] (fun q i => ∃ j : Nat, j ≤ n ∧ i = .int .i64 j ∧ q = .int .i64 ((k + j * 3 : Nat) : Int)) (fun _ i => n - (intOf i).toNat)
    case atStart => exact ⟨0, Nat.zero_le _, rfl, rfl⟩
    case round =>
      obtain ⟨j, hj, rfl, rfl⟩ := hrel
      by_cases hlt : j < n
      · have c0 := h.out.cellAt (j * 3) _ (marks_get k (n * 3) (j * 3) (by omega))
        have c1 := h.out.cellAt (j * 3 + 1) _ (marks_get k (n * 3) (j * 3 + 1) (by omega))
        have c2 := h.out.cellAt (j * 3 + 2) _ (marks_get k (n * 3) (j * 3 + 2) (by omega))
        rw [show ((k + (j * 3 + 1) : Nat) : Int) = ((k + j * 3 : Nat) : Int) + 1 by omega] at c1
        rw [show ((k + (j * 3 + 2) : Nat) : Int) = ((k + j * 3 : Nat) : Int) + 1 + 1 by omega] at c2
        have e3 := hid (show ((k + (j + 1) * 3 : Nat) : Int) = ((k + j * 3 : Nat) : Int) + 1 + 1 + 1 by omega)
        have e4 : ((k + j * 3 : Nat) : Int) < 1000000 := by omega
        have e5 : 0 ≤ ((k + j * 3 : Nat) : Int) := by omega
        generalize hkj : ((k + j * 3 : Nat) : Int) = kj at *
        have n0 : (kj != kj) = false := by simp
        have n1 : (kj + 1 != kj + 1) = false := by simp
        have n2 : (kj + 1 + 1 != kj + 1 + 1) = false := by simp
        go_wp2
        go_round
        case rel => exact ⟨j + 1, by omega, by go_num, by rw [e3.out]⟩
        case measure => simp [intOf]; omega
      · obtain rfl : j = n := by omega
        go_wp2
        go_ret
        exact ⟨rfl, rfl⟩
theorem heldEdge1 (w : World) (base : Nat) (v : Value) (n : Nat) (h : OwnN w base 81 3 v n (marks 1 (n * 3))) (hl : n < 300000) :
    Calls Try.prog 40 #[v, .int .i64 1] w fun e w' => e = .returned (.int .i64 (((n * 3 : Nat) : Int) + 1)) ∧ w = w' :=
  (heldEdgeS_any w base v n 1 h (by omega)).mono fun e w' ⟨h1, h2⟩ => ⟨h1.trans (retI (by omega)), h2⟩
end Go.Proofs.Ytapbcfnlcnboeaa
