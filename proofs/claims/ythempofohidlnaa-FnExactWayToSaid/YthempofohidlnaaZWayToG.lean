/- What the proof of WayTo leans on, part 7 of 15. -/
import Derived.Test.YthempofohidlnaaZWayToF
import Derived.WalkSpells
import Derived.DeepKeys
import Derived.Laws.StructEq
/- A slice of numbers as an argument, and lists of any length that may be handed in. -/
namespace Go.Proofs.Ythempofohidlnaa
open Go.RowKit
set_option linter.unusedVariables false
set_option linter.unusedSimpArgs false
-- @LONG

/-- A slice of numbers that was handed in. -/
def ArgI (W : World) (v : Value) (l : List Int) : Prop :=
  ∃ A c, v = .slice A l.length c ∧ ((A = none ∧ l = []) ∨ ∃ a : Addr, A = some a ∧ ∀ i x, l[i]? = some x → W.cell? (a.add i) = some (.int .i64 x) ∧ (a.add i).block < W.heap.size)
theorem ArgI.below {W W' : World} {v : Value} {l : List Int} (h : ArgI W v l) (hb : Below W.heap.size W W') : ArgI W' v l := by
  obtain ⟨A, c, rfl, h | ⟨a, rfl, hc⟩⟩ := h
  · exact ⟨A, c, rfl, .inl h⟩
  · exact ⟨_, c, rfl, .inr ⟨a, rfl, fun i x hx => ⟨(hb.cell (hc i x hx).2).trans (hc i x hx).1, Nat.lt_of_lt_of_le (hc i x hx).2 hb.size⟩⟩⟩
theorem cellsL_i64 : Try.prog.cellsOf 2 = 1 := by kernel_rfl
theorem readable_ints : Try.prog.readableRec 22 = true := by kernel_rfl
theorem cell_lt {W : World} {a : Addr} {v : Value} (h : W.cell? a = some v) : a.block < W.heap.size := by
  rcases Nat.lt_or_ge a.block W.heap.size with h1 | h1
  · exact h1
  · exfalso
    unfold World.cell? at h
    rw [Array.getElem?_eq_none h1] at h
    simp at h
set_option maxRecDepth 1000000 in
theorem open_argI {H : Type} {enc : TypeId × Value → H} {W : World} {b0 : Nat} {v : Value} {d : DataW H} {p : List MemPlace} (hval : Value.okWide Try.prog W .any b0 22 v) (h : DataW.Trod enc Try.prog W 0 (fun _ => true) true 22 v d p) : ∃ l, ArgI W v l := by
  obtain ⟨a0, len, cap, rfl⟩ := Go.WideShapes.okWide_slice Try.underlying22 hval
  obtain ⟨fuel, hf⟩ := h
  rcases Go.ChangeShapes.open_ints Try.underlying22 Try.underlying2 cellsL_i64 hf with ⟨hcs, _⟩ | ⟨a, len', cap', zs, hcs, _, hl, _, hz, _, hcell, _⟩
  · simp [Value.cells] at hcs
    obtain ⟨rfl, rfl, rfl⟩ := hcs
    exact ⟨[], none, 0, rfl, .inl ⟨rfl, rfl⟩⟩
  · simp [Value.cells] at hcs
    obtain ⟨rfl, rfl, rfl⟩ := hcs
    simp only [if_true] at hz
    have hlen : (zs.take len).length = len := by rw [List.length_take]; omega
    refine ⟨zs.take len, some a, cap, by rw [hlen], .inr ⟨a, rfl, fun i x hx => ?_⟩⟩
    have hi := (List.getElem?_eq_some_iff.1 hx).1
    rw [hlen] at hi
    rw [List.getElem?_take_of_lt hi] at hx
    have hc := hcell i (by omega)
    rw [List.getD_eq_getElem?_getD, hx] at hc
    exact ⟨hc, cell_lt hc⟩
theorem Own.litL (w : World) (base e : Nat) (cs : List Value) (hb : base ≤ w.heap.size) (hm : cs.length ≤ 4000000) :
    Own (w.alloc (.cells cs.toArray e)) base e (.slice (some ⟨w.heap.size, 0, none⟩) cs.length cs.length) cs := by
  have := World.ownsRow_lit (base := base) (e := e) (size := 1) w cs.toArray cs.length hb (by simp only [maxLen]; omega) (by simp)
  simpa [Own] using this
theorem St.newArrL {base : Nat} {w0 w : World} {L : List Asn} (h : St base w0 L w) (cs : Array Value) (n : Nat) (hn : cs.size = n) (t : Nat) (hm : n ≤ 4000000) : St base w0 (Asn.own base t (.slice (some ⟨w.heap.size, 0, none⟩) n n) cs.toList :: L) (w.alloc (.cells cs t)) := by
  subst hn
  have hl : cs.toList.length = cs.size := Array.length_toList
  have := h.allocPush (a := Asn.own base t (.slice (some ⟨w.heap.size, 0, none⟩) cs.toList.length cs.toList.length) cs.toList) (.cells cs t) (Own.litL w base t cs.toList h.le (by rw [hl]; exact hm)) fun k hk => by
    have : w.heap.size = k := by simpa [Asn.own, Value.ownBlock] using hk
    exact this.symm
  rw [hl] at this
  exact this
set_option maxHeartbeats 4000000 in
set_option maxRecDepth 100000 in
theorem eqInt64SL_any (w : World) (b1 b2 : Nat) (v1 v2 : Value) (l : List Int) (h1 : Own w b1 2 v1 (ints l)) (h2 : Own w b2 2 v2 (ints l)) (hl : l.length < 4000000) :
    Calls Try.prog 18 #[v1, v2] w fun e w' => e = .returned (.bool true) ∧ Below w.heap.size w w' := by
  have hil := ints_length l
  by_cases hne : l = []
  · subst hne
    obtain ⟨A1, c1, rfl, _, _⟩ := h1.form
    obtain ⟨A2, c2, rfl, _, _⟩ := h2.form
    rw [hil]
    clear h1 h2
    go_enter Try.func18, Try.ntmps18
    go_wp2
    go_loopw [5] (fun i wr => i = .int .i64 0 ∧ wr = w) (fun _ _ => 0)
    case atStart => exact ⟨rfl, rfl⟩
    case round =>
      obtain ⟨rfl, rfl⟩ := hrel
      go_wp2
      go_ret
      exact ⟨rfl, Below.refl _ _⟩
  · have hne' : ints l ≠ [] := fun e => hne (by rw [← List.length_eq_zero_iff, ← hil, e]; rfl)
    obtain ⟨g1, c1, rfl, _, hg1⟩ := h1.blk hne'
    obtain ⟨g2, c2, rfl, _, hg2⟩ := h2.blk hne'
    rw [hil] at *
    have hget := hid (fun (k : Nat) (x : Int) (hx : l[k]? = some x) => (show (ints l)[k]? = some (.int .i64 x) by simp [ints, hx]))
    replace h1 := hid h1
    replace h2 := hid h2
    clear hne hne' hil
    generalize hn : l.length = n at *
    go_enter Try.func18, Try.ntmps18
    go_wp2
    go_loopw [5] (fun i wr => ∃ k : Nat, k ≤ n ∧ i = .int .i64 k ∧ Below w.heap.size w wr) (fun i _ => n - (intOf i).toNat)
    case atStart => exact ⟨0, Nat.zero_le _, rfl, Below.refl _ _⟩
    case round =>
      obtain ⟨k, hk, rfl, rB⟩ := hrel
      replace rB := hid rB
      by_cases hlt : k < n
      · obtain ⟨x, hx⟩ : ∃ x, l[k]? = some x := ⟨_, List.getElem?_eq_getElem (by omega)⟩
        have d1 := (h1.out.below rB.out).cellAt k _ (hget.out k x hx)
        have d2 := (h2.out.below rB.out).cellAt k _ (hget.out k x hx)
        go_upto_region 6 with (fail)
        go_quiet (fail)
        go_wp2
        go_roundw
        case rel => exact ⟨k + 1, by omega, by go_num, below_drewN rB.out _⟩
        case measure => simp [intOf]; omega
      · obtain rfl : k = n := by omega
        go_wp2
        go_ret
        exact ⟨rfl, rB.out⟩
set_option maxHeartbeats 4000000 in
set_option maxRecDepth 100000 in
theorem markInt64SL_any (w : World) (base : Nat) (v : Value) (cs : List Value) (n k : Nat) (hn : cs.length = n) (h : Own w base 2 v cs) (hl : n + k < 4000000) :
    Calls Try.prog 19 #[v, .int .i64 k] w fun e w' => e = .returned (.int .i64 ((k + n : Nat) : Int)) ∧ Own w' base 2 v (marks k n) ∧ Below base w w' := by
  by_cases hne : n = 0
  · subst hne
    obtain ⟨A1, c1, rfl, _, _⟩ := h.form
    have hcs := List.eq_nil_of_length_eq_zero hn
    rw [hn]
    have hm : marks k 0 = cs := by rw [hcs]; rfl
    rw [hm]
    rw [hn] at h
    replace h := hid h
    go_enter Try.func19, Try.ntmps19
    go_wp2
    go_loopw [1, 5] (fun i j wr => i = .int .i64 k ∧ j = .int .i64 0 ∧ wr = w) (fun _ _ _ => 0)
    case atStart => exact ⟨rfl, rfl, rfl⟩
    case round =>
      obtain ⟨rfl, rfl, rfl⟩ := hrel
      go_wp2
      go_ret
      exact ⟨rfl, h.out, Below.refl _ _⟩
  · obtain ⟨g, c, rfl, hb, hg⟩ := h.blk (fun e => hne (by rw [← hn, e]; rfl))
    rw [hn] at h ⊢
    replace h := hid h
    go_enter Try.func19, Try.ntmps19
    go_wp2
    go_loopw [1, 5] (fun q i wr => ∃ j : Nat, j ≤ n ∧ i = .int .i64 j ∧ q = .int .i64 ((k + j : Nat) : Int) ∧ Own wr base 2 (.slice (some ⟨g, 0, none⟩) n c) (marks k j ++ cs.drop j) ∧ Below base w wr) (fun _ i _ => n - (intOf i).toNat)
    case atStart => exact ⟨0, Nat.zero_le _, rfl, rfl, h.out, Below.refl _ _⟩
    case round =>
      obtain ⟨j, hj, rfl, rfl, r1, rB⟩ := hrel
      have hjl : (marks k j ++ cs.drop j).length = n := by rw [List.length_append, marks_length, List.length_drop]; omega
      by_cases hlt : j < n
      · have hst := hid (mark_step k j n cs hn hlt)
        obtain ⟨u, hu⟩ : ∃ u, (marks k j ++ cs.drop j)[j]? = some u := ⟨_, List.getElem?_eq_getElem (by omega)⟩
        have co := r1.cellAt j u hu
        have fo := r1.frozenAt hjl j
        have y1 := hid (r1.set hjl j (.int .i64 ((k + j : Nat) : Int)) hlt)
        have yB := hid (rB.setCell (p := ⟨g, j, none⟩) hb (.int .i64 ((k + j : Nat) : Int)))
        clear h r1 rB hu
        replace hjl := hid hjl
        have e1 : ((k + j : Nat) : Int) + 1 = ((k + (j + 1) : Nat) : Int) := by omega
        have e2 : ((k + j : Nat) : Int) < 4000000 := by omega
        have e3 : 0 ≤ ((k + j : Nat) : Int) := by omega
        generalize hkj : ((k + j : Nat) : Int) = kj at *
        go_wp2
        go_roundw
        case rel => exact ⟨j + 1, by omega, by go_num, by go_num, by rw [← hst.out]; exact y1.out, yB.out⟩
        case measure => simp [intOf]; omega
      · obtain rfl : j = n := by omega
        have hm : marks k j ++ cs.drop j = marks k j := by rw [← hn, List.drop_length, List.append_nil]
        rw [hm] at r1
        replace r1 := hid r1
        replace rB := hid rB
        clear h
        go_wp2
        go_ret
        exact ⟨rfl, r1.out, rB.out⟩
set_option maxHeartbeats 4000000 in
set_option maxRecDepth 100000 in
theorem heldInt64SL_any (w : World) (base : Nat) (v : Value) (n k : Nat) (h : Own w base 2 v (marks k n)) (hl : n + k < 4000000) :
    Calls Try.prog 20 #[v, .int .i64 k] w fun e w' => e = .returned (.int .i64 ((k + n : Nat) : Int)) ∧ w = w' := by
  have hml := marks_length k n
  by_cases hne : n = 0
  · subst hne
    obtain ⟨A1, c1, rfl, _, _⟩ := h.form
    rw [hml]
    clear h
    go_enter Try.func20, Try.ntmps20
    go_wp2
    go_loop [1, 5] (fun i j => i = .int .i64 k ∧ j = .int .i64 0) (fun _ _ => 0)
    case atStart => exact ⟨rfl, rfl⟩
    case round =>
      obtain ⟨rfl, rfl⟩ := hrel
      go_wp2
      go_ret
      exact ⟨rfl, rfl⟩
  · obtain ⟨g, c, rfl, hb, hg⟩ := h.blk (fun e => hne (by rw [← hml, e]; rfl))
    rw [hml] at h ⊢
    replace h := hid h
    go_enter Try.func20, Try.ntmps20
    go_wp2
    go_loop [1, 5] (fun q i => ∃ j : Nat, j ≤ n ∧ i = .int .i64 j ∧ q = .int .i64 ((k + j : Nat) : Int)) (fun _ i => n - (intOf i).toNat)
    case atStart => exact ⟨0, Nat.zero_le _, rfl, rfl⟩
    case round =>
      obtain ⟨j, hj, rfl, rfl⟩ := hrel
      by_cases hlt : j < n
      · have co := h.out.cellAt j _ (marks_get k n j hlt)
        have e1 : ((k + j : Nat) : Int) + 1 = ((k + (j + 1) : Nat) : Int) := by omega
        have e2 : ((k + j : Nat) : Int) < 4000000 := by omega
        have e3 : 0 ≤ ((k + j : Nat) : Int) := by omega
        generalize hkj : ((k + j : Nat) : Int) = kj at *
        go_wp2
        go_round
        case rel => exact ⟨j + 1, by omega, by go_num, by go_num⟩
        case measure => simp [intOf]; omega
      · obtain rfl : j = n := by omega
        go_wp2
        go_ret
        exact ⟨rfl, rfl⟩
theorem mark1L (w : World) (base : Nat) (v : Value) (cs : List Value) (n : Nat) (hn : cs.length = n) (h : Own w base 2 v cs) (hl : n < 3999999) :
    Calls Try.prog 19 #[v, .int .i64 1] w fun e w' => e = .returned (.int .i64 ((n : Int) + 1)) ∧ Own w' base 2 v (marks 1 n) ∧ Below base w w' :=
  (markInt64SL_any w base v cs n 1 hn h (by omega)).mono fun e w' ⟨h1, h2⟩ => ⟨h1.trans (retI (by omega)), h2⟩
theorem held1L (w : World) (base : Nat) (v : Value) (n : Nat) (h : Own w base 2 v (marks 1 n)) (hl : n < 3999999) :
    Calls Try.prog 20 #[v, .int .i64 1] w fun e w' => e = .returned (.int .i64 ((n : Int) + 1)) ∧ w = w' :=
  (heldInt64SL_any w base v n 1 h (by omega)).mono fun e w' ⟨h1, h2⟩ => ⟨h1.trans (retI (by omega)), h2⟩
set_option maxHeartbeats 2000000 in
set_option maxRecDepth 100000 in
theorem toInt64S_any (w : World) (v : Value) (l : List Int) (h : ArgI w v l) (hl : l.length ≤ 2000000) :
    Calls Try.prog 16 #[v] w fun e w' => ∃ v', e = .returned v' ∧ Own w' w.heap.size 2 v' (ints l) ∧ Below w.heap.size w w' := by
  obtain ⟨A, c, rfl, hA⟩ := h
  have hcell := hid (fun (k : Nat) (x : Int) (hx : l[k]? = some x) => (show ∃ a : Addr, A = some a ∧ ∀ W, Below w.heap.size w W → W.cell? (a.add k) = some (.int .i64 x) from by
    rcases hA with ⟨_, rfl⟩ | ⟨a, rfl, hc⟩
    · simp at hx
    · exact ⟨a, rfl, fun W hW => (hW.cell (hc k x hx).2).trans (hc k x hx).1⟩))
  clear hA
  have hmk := fun W : World => run_make_row' (P := Try.prog) 22 2 (.int .i64 0) 8 Try.underlying22 info_i64 rfl .i64 .i64 l.length (by omega) (by omega) W
  have hmc := hid (toList_madeCells_one (.int .i64 0) l.length)
  generalize madeCells #[.int .i64 0] l.length = mc at *
  have hmcs := hid (show mc.size = l.length by rw [← Array.length_toList, hmc.out, List.length_replicate])
  have hS := (St.start w).newArrL mc l.length hmcs.out 2 (by omega)
  rw [hmc.out, ← wr0_nil l.length] at hS
  replace hS := hid (show St w.heap.size w [Asn.own w.heap.size 2 (.slice (some ⟨w.heap.size, 0, none⟩) l.length l.length) (ints (wr0 (l.take 0) l.length))] _ from hS)
  have hfull := hid (show l = wr0 (l.take l.length) l.length by rw [List.take_length]; exact (wr0_full l).symm)
  have hst := hid (fun k x (hx : l[k]? = some x) => (show (ints (wr0 (l.take k) l.length)).set k (.int .i64 x) = ints (wr0 (l.take (k + 1)) l.length) from by
    have hk := (List.getElem?_eq_some_iff.1 hx).1
    have hlk : (l.take k).length = k := by rw [List.length_take]; omega
    have h := wr0_set (l.take k) l.length (by rw [hlk]; exact hk) x
    rw [hlk] at h
    rw [List.take_add_one, hx, Option.toList_some, ← h]; simp [ints, List.map_set]))
  have hwl := hid (fun k (hk : k ≤ l.length) => (show (ints (wr0 (l.take k) l.length)).length = l.length by rw [ints_length]; exact wr0_length _ _ (by rw [List.length_take]; omega)))
  generalize hgo : w.heap.size = go at *
  replace hgo := hid hgo
  clear hmc
  generalize hn : l.length = n at *
  replace hn := hid hn
  go_enter Try.func16, Try.ntmps16
  go_upto_region 2 with (fail)
  rw [hgo.out]
  generalize w.alloc (.cells mc 2) = W1 at *
  clear hmk
  go_wp2
  go_loopw [4] (fun i wr => ∃ k : Nat, k ≤ n ∧ i = .int .i64 k ∧ St go w [Asn.own go 2 (.slice (some ⟨go, 0, none⟩) n n) (ints (wr0 (l.take k) n))] wr) (fun i _ => n - (intOf i).toNat)
  case atStart => exact ⟨0, Nat.zero_le _, rfl, hS.out⟩
  case round =>
    obtain ⟨k, hk, rfl, rS⟩ := hrel
    clear hS
    replace rS := hid rS
    by_cases hkn : k < n
    · have dc : decide ((k : Int) < (n : Int)) = true := decide_eq_true (by omega)
      obtain ⟨x, hx⟩ : ∃ x, l[k]? = some x := ⟨_, List.getElem?_eq_getElem (by rw [hn.out]; exact hkn)⟩
      obtain ⟨a, rfl, hc⟩ := hcell.out k x hx
      have hs2 := hid (hst.out k x hx)
      have k0 : (0 : Int) ≤ (k : Int) := Int.natCast_nonneg _
      have k1 : (k : Int) < (n : Int) := by omega
      replace hc := hid hc
      have hl1 := hid (hwl.out k hk)
      obtain ⟨c0, hc0⟩ : ∃ z, (ints (wr0 (l.take k) n))[k]? = some z := ⟨_, List.getElem?_eq_getElem (by rw [hl1.out]; exact hkn)⟩
      have co := Own.cellAt rS.out.o0 k _ hc0
      have fo := Own.frozenAt rS.out.o0 hl1.out k
      have d1 := hc.out wr (by have h := rS.out.bel; exact h)
      have rS2 := hid (rS.out.setOwn hl1.out k (.int .i64 x) hkn)
      rw [hs2.out] at rS2
      clear hx hc0 hc
      go_wp2
      go_roundw
      case rel => exact ⟨k + 1, by omega, by go_num, rS2.out⟩
      case measure => simp [intOf]; omega
    · obtain rfl : k = n := by omega
      have dc : decide ((k : Int) < (k : Int)) = false := decide_eq_false (by omega)
      go_wp2
      go_ret
      exact ⟨_, rfl, by have h := rS.out.o0; rw [← hfull.out] at h; exact h, rS.out.bel⟩
end Go.Proofs.Ythempofohidlnaa

/- Marking one of several slices. -/
namespace Go.Proofs.Ythempofohidlnaa
open Go.RowKit
set_option linter.unusedVariables false
set_option linter.unusedSimpArgs false

set_option maxHeartbeats 1000000 in
set_option maxRecDepth 100000 in
theorem markS_any (base : Nat) (w0 : World) (L : List Asn) (w : World) (v : Value) (cs : List Value) (n k : Nat) (hn : cs.length = n) (hS : St base w0 (Asn.own base 2 v cs :: L) w) (hl : n + k < 4000000) :
    Calls Try.prog 19 #[v, .int .i64 k] w fun e w' => e = .returned (.int .i64 ((k + n : Nat) : Int)) ∧ St base w0 (Asn.own base 2 v (marks k n) :: L) w' := by
  have h := hS.o0
  by_cases hne : n = 0
  · subst hne
    obtain ⟨A1, c1, rfl, _, _⟩ := h.form
    have hcs := List.eq_nil_of_length_eq_zero hn
    rw [hn]
    have hm : marks k 0 = cs := by rw [hcs]; rfl
    rw [hm]
    rw [hn] at hS
    replace hS := hid hS
    clear h
    go_enter Try.func19, Try.ntmps19
    go_wp2
    go_loopw [1, 5] (fun i j wr => i = .int .i64 k ∧ j = .int .i64 0 ∧ wr = w) (fun _ _ _ => 0)
    case atStart => exact ⟨rfl, rfl, rfl⟩
    case round =>
      obtain ⟨rfl, rfl, rfl⟩ := hrel
      go_wp2
      go_ret
      exact ⟨rfl, hS.out⟩
  · obtain ⟨g, c, rfl, hb, hg⟩ := h.blk (fun e => hne (by rw [← hn, e]; rfl))
    rw [hn] at hS ⊢
    clear h
    replace hS := hid hS
    go_enter Try.func19, Try.ntmps19
    go_wp2
    go_loopw [1, 5] (fun q i wr => ∃ j : Nat, j ≤ n ∧ i = .int .i64 j ∧ q = .int .i64 ((k + j : Nat) : Int) ∧ St base w0 (Asn.own base 2 (.slice (some ⟨g, 0, none⟩) n c) (marks k j ++ cs.drop j) :: L) wr) (fun _ i _ => n - (intOf i).toNat)
    case atStart => exact ⟨0, Nat.zero_le _, rfl, rfl, hS.out⟩
    case round =>
      obtain ⟨j, hj, rfl, rfl, rS⟩ := hrel
      have r1 := rS.o0
      have hjl : (marks k j ++ cs.drop j).length = n := by rw [List.length_append, marks_length, List.length_drop]; omega
      by_cases hlt : j < n
      · have hst := hid (mark_step k j n cs hn hlt)
        obtain ⟨u, hu⟩ : ∃ u, (marks k j ++ cs.drop j)[j]? = some u := ⟨_, List.getElem?_eq_getElem (by omega)⟩
        have co := r1.cellAt j u hu
        have fo := r1.frozenAt hjl j
        have y1 := hid (rS.setOwn hjl j (.int .i64 ((k + j : Nat) : Int)) hlt)
        clear hS r1 rS hu
        replace hjl := hid hjl
        have e1 : ((k + j : Nat) : Int) + 1 = ((k + (j + 1) : Nat) : Int) := by omega
        have e2 : ((k + j : Nat) : Int) < 4000000 := by omega
        have e3 : 0 ≤ ((k + j : Nat) : Int) := by omega
        generalize hkj : ((k + j : Nat) : Int) = kj at *
        go_wp2
        go_roundw
        case rel => exact ⟨j + 1, by omega, by go_num, by go_num, by rw [← hst.out]; exact y1.out⟩
        case measure => simp [intOf]; omega
      · obtain rfl : j = n := by omega
        have hm : marks k j ++ cs.drop j = marks k j := by rw [← hn, List.drop_length, List.append_nil]
        rw [hm] at rS
        clear r1 hS
        replace rS := hid rS
        go_wp2
        go_ret
        exact ⟨rfl, rS.out⟩
theorem markS1 (base : Nat) (w0 : World) (L : List Asn) (w : World) (v : Value) (cs : List Value) (n : Nat) (hn : cs.length = n) (hS : St base w0 (Asn.own base 2 v cs :: L) w) (hl : n < 3999999) :
    Calls Try.prog 19 #[v, .int .i64 1] w fun e w' => e = .returned (.int .i64 ((n : Int) + 1)) ∧ St base w0 (Asn.own base 2 v (marks 1 n) :: L) w' :=
  (markS_any base w0 L w v cs n 1 hn hS (by omega)).mono fun e w' ⟨h1, h2⟩ => ⟨h1.trans (retI (by omega)), h2⟩
end Go.Proofs.Ythempofohidlnaa

/- The tree of a word in a graph: plain law. -/
namespace Go.Proofs.Ythempofohidlnaa
set_option linter.unusedVariables false
set_option linter.unusedSimpArgs false

/-- A tree: its queue, the distances, the ways. -/
structure Tr where
  q : List Nat
  far : List Int
  ways : List (List Int)
/-- What one step from fr tx `tx` does. -/
def meetT (t : Tr) (fr tx : Nat) (st : Int) : Tr :=
  if t.far.getD tx 0 < 0 then ⟨t.q ++ [tx], t.far.set tx (t.far.getD fr 0 + 1), t.ways.set tx (t.ways.getD fr [] ++ [st])⟩ else t
/-- The step by table j of 2s. -/
def stpT (s j : Nat) : Int := if j < s then (j : Int) + 1 else (s : Int) - (j : Int) - 1
/-- The first j steps from fr. -/
def rndT (T : Nat → Nat → Nat) (s : Nat) (t : Tr) (fr : Nat) : Nat → Tr
  | 0 => t
  | j + 1 => meetT (rndT T s t fr j) fr (T j fr) (stpT s j)
def tr0 (n k : Nat) : Tr := ⟨[k], (List.replicate n (-1)).set k 0, List.replicate n []⟩
/-- The tree when i words of the queue are done. -/
def growT (T : Nat → Nat → Nat) (s n k : Nat) : Nat → Tr
  | 0 => tr0 n k
  | i + 1 => match (growT T s n k i).q[i]? with
    | some fr => rndT T s (growT T s n k i) fr (2 * s)
    | none => growT T s n k i
/-- The tree. -/
def treeT (T : Nat → Nat → Nat) (s n k : Nat) : Tr := growT T s n k n

theorem nodup_le {n : Nat} {q : List Nat} (hd : q.Nodup) (hb : ∀ x ∈ q, x < n) : q.length ≤ n := by
  refine inj_le q.length n (fun i => q.getD i 0) (fun i hi => ?_) ?_
  · simp only [List.getD_eq_getElem?_getD, List.getElem?_eq_getElem hi, Option.getD_some]
    exact hb _ (List.getElem_mem hi)
  · intro i j hij hj e
    have hi : i < q.length := by omega
    simp only [List.getD_eq_getElem?_getD, List.getElem?_eq_getElem hi, List.getElem?_eq_getElem hj, Option.getD_some] at e
    exact List.pairwise_iff_getElem.1 hd i j hi hj hij e

structure TrOk (n : Nat) (t : Tr) : Prop where
  fl : t.far.length = n
  wl : t.ways.length = n
  nd : t.q.Nodup
  qb : ∀ x ∈ t.q, x < n
  fb : ∀ (x : Nat) (v : Int), t.far[x]? = some v → (v = -1 ∧ x ∉ t.q) ∨ (x ∈ t.q ∧ 0 ≤ v ∧ v < t.q.length)
  wb : ∀ (x : Nat) (u : List Int), t.ways[x]? = some u → u.length < t.q.length
theorem TrOk.ql {n : Nat} {t : Tr} (h : TrOk n t) : t.q.length ≤ n := nodup_le h.nd h.qb
theorem tr0_ok {n k : Nat} (hk : k < n) : TrOk n (tr0 n k) where
  fl := by simp [tr0]
  wl := by simp [tr0]
  nd := by simp [tr0]
  qb := fun x hx => by simp [tr0] at hx; omega
  fb := fun x v hv => by
    simp only [tr0, List.getElem?_set] at hv
    by_cases e : k = x
    · subst e
      simp [hk] at hv
      subst hv
      exact .inr ⟨by simp [tr0], by omega, by simp [tr0]⟩
    · rw [if_neg e] at hv
      rw [List.getElem?_replicate] at hv
      split at hv
      · injection hv with hv
        exact .inl ⟨hv.symm, by simp [tr0]; omega⟩
      · simp at hv
  wb := fun x u hu => by
    simp only [tr0, List.getElem?_replicate] at hu
    split at hu
    · injection hu with hu
      subst hu; simp [tr0]
    · simp at hu
theorem TrOk.meet {n : Nat} {t : Tr} (h : TrOk n t) {fr tx : Nat} (st : Int) (hfr : fr ∈ t.q) (hto : tx < n) : TrOk n (meetT t fr tx st) := by
  unfold meetT
  split
  · rename_i hneg
    have hfn := h.qb fr hfr
    have e1 : t.far[tx]? = some (t.far.getD tx 0) := by
      rw [List.getD_eq_getElem?_getD, List.getElem?_eq_getElem (by rw [h.fl]; exact hto)]; rfl
    have e2 : t.far[fr]? = some (t.far.getD fr 0) := by
      rw [List.getD_eq_getElem?_getD, List.getElem?_eq_getElem (by rw [h.fl]; exact hfn)]; rfl
    have e3 : t.ways[fr]? = some (t.ways.getD fr []) := by
      rw [List.getD_eq_getElem?_getD, List.getElem?_eq_getElem (by rw [h.wl]; exact hfn)]; rfl
    have hnq : tx ∉ t.q := by
      rcases h.fb tx _ e1 with h1 | h1
      · exact h1.2
      · omega
    have hff : 0 ≤ t.far.getD fr 0 ∧ t.far.getD fr 0 < t.q.length := by
      rcases h.fb fr _ e2 with h1 | h1
      · exact absurd hfr h1.2
      · exact h1.2
    exact {
      fl := by simp [h.fl]
      wl := by simp [h.wl]
      nd := by
        refine List.nodup_append.2 ⟨h.nd, by simp, fun a ha b hb => ?_⟩
        simp at hb; subst hb
        intro e; subst e; exact hnq ha
      qb := fun x hx => by
        rcases List.mem_append.1 hx with hx | hx
        · exact h.qb x hx
        · simp at hx; omega
      fb := fun x v hv => by
        simp only [List.getElem?_set] at hv
        by_cases e : tx = x
        · subst e
          simp [h.fl, hto] at hv
          subst hv
          exact .inr ⟨by simp, by rw [← List.getD_eq_getElem?_getD]; omega, by rw [← List.getD_eq_getElem?_getD]; simp only [List.length_append, List.length_singleton]; omega⟩
        · rw [if_neg e] at hv
          rcases h.fb x v hv with ⟨h1, h2⟩ | ⟨h1, h2, h3⟩
          · exact .inl ⟨h1, by simp; exact ⟨h2, fun e' => e e'.symm⟩⟩
          · exact .inr ⟨by simp [h1], h2, by simp only [List.length_append, List.length_singleton]; omega⟩
      wb := fun x u hu => by
        have hw := h.wb fr _ e3
        simp only [List.getElem?_set] at hu
        by_cases e : tx = x
        · subst e
          simp only [h.wl, hto, if_true] at hu
          injection hu with hu
          subst hu
          simp only [List.length_append, List.length_singleton]; omega
        · rw [if_neg e] at hu
          have := h.wb x u hu
          simp only [List.length_append, List.length_singleton]; omega }
  · exact h
theorem meetT_mem {t : Tr} {fr tx : Nat} {st : Int} {x : Nat} (h : x ∈ t.q) : x ∈ (meetT t fr tx st).q := by
  unfold meetT; split
  · simp [h]
  · exact h
theorem meetT_get {t : Tr} {fr tx : Nat} {st : Int} {i x : Nat} (h : t.q[i]? = some x) : (meetT t fr tx st).q[i]? = some x := by
  unfold meetT; split
  · show (t.q ++ [tx])[i]? = some x
    rw [List.getElem?_append_left (List.getElem?_eq_some_iff.1 h).1]; exact h
  · exact h
theorem rndT_ok {T : Nat → Nat → Nat} {s n : Nat} {t : Tr} (h : TrOk n t) {fr : Nat} (hfr : fr ∈ t.q) (hT : ∀ j, j < 2 * s → T j fr < n) :
    ∀ j, j ≤ 2 * s → TrOk n (rndT T s t fr j) ∧ fr ∈ (rndT T s t fr j).q
  | 0, _ => ⟨h, hfr⟩
  | j + 1, hj => by
    have ih := rndT_ok h hfr hT j (by omega)
    exact ⟨ih.1.meet _ ih.2 (hT j (by omega)), meetT_mem ih.2⟩
theorem rndT_get {T : Nat → Nat → Nat} {s : Nat} {t : Tr} {fr i x : Nat} (h : t.q[i]? = some x) : ∀ j, (rndT T s t fr j).q[i]? = some x
  | 0 => h
  | j + 1 => meetT_get (rndT_get h j)
theorem growT_ok {T : Nat → Nat → Nat} {s n k : Nat} (hk : k < n) (hT : ∀ j fr, j < 2 * s → fr < n → T j fr < n) : ∀ i, TrOk n (growT T s n k i)
  | 0 => tr0_ok hk
  | i + 1 => by
    have ih := growT_ok hk hT i
    unfold growT
    split
    · rename_i fr hfr
      have hm := List.mem_of_getElem? hfr
      exact (rndT_ok ih hm (fun j hj => hT j fr hj (ih.qb fr hm)) _ (Nat.le_refl _)).1
    · exact ih
theorem growT_step {T : Nat → Nat → Nat} {s n k i fr : Nat} (h : (growT T s n k i).q[i]? = some fr) : growT T s n k (i + 1) = rndT T s (growT T s n k i) fr (2 * s) := by
  rw [growT, h]
theorem growT_stop {T : Nat → Nat → Nat} {s n k i : Nat} (h : (growT T s n k i).q.length ≤ i) : ∀ j, growT T s n k (i + j) = growT T s n k i
  | 0 => rfl
  | j + 1 => by
    have ih := growT_stop h j
    show growT T s n k (i + j + 1) = _
    rw [growT, ih, List.getElem?_eq_none (by omega)]
theorem growT_end {T : Nat → Nat → Nat} {s n k i : Nat} (hi : i ≤ n) (h : (growT T s n k i).q.length ≤ i) : treeT T s n k = growT T s n k i := by
  obtain ⟨j, rfl⟩ := Nat.exists_eq_add_of_le hi
  exact growT_stop (n := i + j) h j
theorem rndT_len {T : Nat → Nat → Nat} {s : Nat} {t : Tr} {fr : Nat} : ∀ j, t.q.length ≤ (rndT T s t fr j).q.length
  | 0 => Nat.le_refl _
  | j + 1 => by
    have ih := rndT_len (T := T) (s := s) (t := t) (fr := fr) j
    show _ ≤ (meetT _ _ _ _).q.length
    unfold meetT; split
    · show _ ≤ (_ ++ [_]).length
      simp; omega
    · exact ih
end Go.Proofs.Ythempofohidlnaa

/- append(dst, src...): a slice behind another one. -/
namespace Go.Proofs.Ythempofohidlnaa
open Go.RowKit
set_option linter.unusedVariables false
set_option linter.unusedSimpArgs false
-- @LONG

theorem run_append_empty {P : Program} (W : World) (t ty e : TypeId) (i : TypeInfo) (ht : P.underlying t = some (.slice e)) (hi : P.info? e = some i) (base : Nat) (v : Value) (cs : List Value) (h : Own W base e v cs) :
    (Builtin.append_ #[t, t] ty #[v, .slice none 0 0]).run P W = .ok v W := by
  obtain ⟨A, c, rfl, hc, hA⟩ := h.form
  rcases hA with ⟨rfl, rfl, rfl⟩ | ⟨g, rfl, _⟩
  · simp [Builtin.append_, run_underlying ht, sizeOf, typeInfo, hi, Builtin.lenOf, Builtin.firstCells, loadCells, loadCellsFrom]
  · simp [Builtin.append_, run_underlying ht, sizeOf, typeInfo, hi, Builtin.lenOf, Builtin.firstCells, hc, storeCells]
theorem run_append_sl {P : Program} (W : World) (t ty e : TypeId) (z : Value) (bytes : Nat) (ht : P.underlying t = some (.slice e)) (hinfo : (P.info? e).map (fun i => (i.zero, i.size, i.bytes)) = some (some z, 1, bytes)) (hz : z.cells.size = 1) (hb : bytes ≤ 64)
    (base : Nat) (v : Value) (cs : List Value) (h : Own W base e v cs) (hbase : base ≤ W.heap.size) (b2 e2 : Nat) (v2 : Value) (cs2 : List Value) (h2 : Own W b2 e2 v2 cs2) (h1 : ∀ u ∈ cs2, u.oneCell' = true) (hlen : cs.length + cs2.length ≤ 1000000000) :
    ∃ v' w', (Builtin.append_ #[t, t] ty #[v, v2]).run P W = .ok v' w' ∧ Own w' base e v' (cs ++ cs2) ∧ Below base W w' ∧ (∀ k, k < W.heap.size → v.ownBlock ≠ some k → w'.heap[k]? = W.heap[k]?) ∧ (v'.ownBlock = v.ownBlock ∨ v'.ownBlock = some W.heap.size) := by
  obtain ⟨i, hi, hz0, hz1, hz2⟩ := info_parts hinfo
  obtain ⟨A, c, rfl, hc, hA⟩ := h2.form
  rcases hA with ⟨rfl, rfl, rfl⟩ | ⟨g, rfl, _, _, hcell⟩
  · refine ⟨v, W, run_append_empty W t ty e i ht hi base v cs h, by rw [List.append_nil]; exact h, Below.refl _ _, fun _ _ _ => rfl, .inl rfl⟩
  · obtain ⟨v', w', hr, h3, h4, _, h5⟩ := run_append_own_at (P := P) W base t ty e i z 1 bytes ht hi hz0 hz1 hz2 hz (by omega) v cs.length cs h ⟨g, 0, none⟩ cs2.length c cs2 (by omega) (fun j u hu => by rw [Addr.add_mid, Nat.zero_add]; exact hcell j u hu) h1
      (by simp only [maxLen]; omega) (Nat.le_trans (Nat.mul_le_mul_left _ hb) (by omega)) hbase
    have hold : ∀ k, k < W.heap.size → v.ownBlock ≠ some k → w'.heap[k]? = W.heap[k]? := fun k hk hne => h4.block k hk (fun e => hne e.symm)
    refine ⟨v', w', hr, ?_, ⟨h4.os, h4.tape, h4.output, h4.size, fun k hk => hold k (by omega) (fun e => by have := (h.lt k e).1; omega)⟩, hold, h5⟩
    unfold Own
    rw [List.length_append]; exact h3
section
variable {ops : Array Oper} {rest : List Oper} {o : Oper} {act : Act} {W w0 : World} {Q : Exit → Act → World → Prop} {L : List Asn} {base : Nat}
theorem St.appdV {t : Nat} {v v' : Value} {cs cs' : List Value} {w w' : World} (h : St base w0 (Asn.own base t v cs :: L) w) (hO : Own w' base t v' cs') (hb : Below base w w') (hold : ∀ k, k < w.heap.size → v.ownBlock ≠ some k → w'.heap[k]? = w.heap[k]?)
    (hg : v'.ownBlock = v.ownBlock ∨ v'.ownBlock = some w.heap.size) : St base w0 (Asn.own base t v' cs' :: L) w' :=
  h.turn (a' := Asn.own base t v' cs') hO (fun k hk => by
    have hk' : v'.ownBlock = some k := hk
    rcases hg with hg | hg
    · exact .inl (hg.symm.trans hk')
    · rw [hg] at hk'; injection hk' with e; exact .inr (by omega)) (fun k hk => ((show Own w base t v cs from h.star.1).lt k hk).1) hb fun k hk hne => hold k hk hne
theorem St.appS (t e : TypeId) (z : Value) (bytes : Nat)
    (ht : Try.prog.underlying t = some (.slice e)) (hinfo : (Try.prog.info? e).map (fun i => (i.zero, i.size, i.bytes)) = some (some z, 1, bytes)) (hz : z.cells.size = 1) (hb : bytes ≤ 64)
    (hgd : o.guard = none) (s x : Operand) (ho : o.op = .call { callee := .builtin .append, args := #[s, x], argTypes := #[t, t] })
    (v : Value) (cs : List Value) (hs : act.eval s = v) (hS : St base w0 (Asn.own base e v cs :: L) W) (b2 e2 : Nat) (v2 : Value) (cs2 : List Value) (hx : act.eval x = v2) (h2 : Own W b2 e2 v2 cs2) (h1 : ∀ u ∈ cs2, u.oneCell' = true) (hlen : cs.length + cs2.length ≤ 1000000000)
    (h : ∀ v' w', St base w0 (Asn.own base e v' (cs ++ cs2) :: L) w' → wpList Try.prog ops Q rest (act.put o.dst v') w') : wpList Try.prog ops Q (o :: rest) act W := by
  obtain ⟨v', w', hr, h3, h4, h5, h6⟩ := run_append_sl (P := Try.prog) W t o.type e z bytes ht hinfo hz hb base v cs hS.star.1 hS.le b2 e2 v2 cs2 h2 h1 hlen
  refine wpList_plain hgd fun K hK => ?_
  unfold Oper.wp execOp
  simp only [ho, resolve, invoke, builtin, Sem.run_bind, Sem.run_pure, Result.andThen_ok, List.map_toArray, List.map_cons, List.map_nil, hs, hx, hr]
  exact hK _ _ (h v' w' (hS.appdV h3 h4 h5 h6))
end
theorem ints_one (l : List Int) : ∀ u ∈ ints l, u.oneCell' = true := fun u hu => by
  obtain ⟨x, _, rfl⟩ := List.mem_map.1 hu
  rfl

set_option maxHeartbeats 1000000 in
set_option maxRecDepth 100000 in
theorem clone_any (w : World) (base : Nat) (v : Value) (l : List Int) (h : Own w base 2 v (ints l)) (hl : l.length ≤ 1000000) :
    Calls Try.prog 82 #[v] w fun e w' => ∃ v', e = .returned v' ∧ Own w' w.heap.size 2 v' (ints l) ∧ Below w.heap.size w w' := by
  have hil := ints_length l
  have hnil := fun (W : World) (a : Option Addr) (n c : Nat) => Lib.run_eql_slice_nil (P := Try.prog) W 22 2 a n c 0 0 Try.underlying22
  obtain ⟨A, c, rfl, _, hA⟩ := h.form
  rw [hil] at h ⊢
  rcases hA with ⟨rfl, h0, rfl⟩ | ⟨g, rfl, _⟩
  · have hl0 : l = [] := by rw [← List.length_eq_zero_iff, ← hil, h0]; rfl
    subst hl0
    clear h
    go_enter Try.func82, Try.ntmps82
    go_wp2
    go_ret
    exact ⟨_, rfl, Own.nil _ _ _, Below.refl _ _⟩
  · have hS := hid ((St.start w).newOwn [] 2 (by simp))
    have h' := hid (h.alloc (.cells #[] 2))
    clear h
    go_enter Try.func82, Try.ntmps82
    go_wp2_with (first
      | ((with_reducible refine gate (N := 7) rfl ?_); refine St.appS 22 2 (.int .i64 0) 8 Try.underlying22 info_i64 rfl (by omega) rfl _ _ rfl _ _ rfl hS.out _ _ _ _ rfl h'.out (ints_one l) (by rw [hil]; simp; omega) ?_; intro v' w2 hS'; replace hS := hid hS'; clear hS'))
    go_ret
    exact ⟨_, rfl, by have h := hS.out.o0; rw [List.nil_append] at h; exact h, hS.out.bel⟩
end Go.Proofs.Ythempofohidlnaa

/- The tree of a word: one step (the program's closure). -/
namespace Go.Proofs.Ythempofohidlnaa
open Go.RowKit
set_option linter.unusedVariables false
set_option linter.unusedSimpArgs false
-- @LONG

/-- A row of a slice of slices set anew; the row's part goes into it. -/
theorem St.setMR {base gn n cap : Nat} {w0 w : World} {L : List Asn} {r : Value} {rows : List Value} {M : List (List Int)} {l : List Int} (h : St base w0 (Asn.mat base (.slice (some ⟨gn, 0, none⟩) n cap) rows M :: Asn.own base 2 r (ints l) :: L) w)
    (hn : M.length = n) (i : Nat) (hi : i < n) : St base w0 (Asn.mat base (.slice (some ⟨gn, 0, none⟩) n cap) (rows.set i r) (M.set i l) :: L) (w.setCell ⟨gn, i, none⟩ r) := by
  obtain ⟨⟨h1, h2, h3⟩, hf, hr, hf2, hL⟩ := h.star
  have hbg : base ≤ gn := (h1.lt gn rfl).1
  have hother : ∀ k, k ≠ gn → (w.setCell ⟨gn, i, none⟩ r).heap[k]? = w.heap[k]? := fun k hk => heap_setCell_other w ⟨gn, i, none⟩ k r (fun e => hk e)
  have hO : Own (w.setCell ⟨gn, i, none⟩ r) base 22 (.slice (some ⟨gn, 0, none⟩) n cap) (rows.set i r) := Own.set h1 (h2.trans hn) i r hi
  have hne : ∀ {r' : Value} {l' : List Value}, Own w base 2 r' l' → ∀ k, r'.ownBlock = some k → k ≠ gn := fun h' k hk e => (h'.ne h1 (by decide) k hk) (by rw [e]; rfl)
  have hb : Below base w (w.setCell ⟨gn, i, none⟩ r) := (Below.refl _ _).setCell hbg r
  refine ⟨h.bel.trans hb, Nat.le_trans h.le hb.size, ⟨hO, by simp [h2], fun j r' l' e1 e2 => ?_⟩, fun k hk hF => ?_, hL.keep fun k hk => hother k fun e => hf gn (.inl rfl) (.inr (e ▸ hk))⟩
  · simp only [List.getElem?_set] at e1 e2
    by_cases e : i = j
    · subst e
      rw [if_pos rfl, if_pos (by omega)] at e1
      rw [if_pos rfl, if_pos (by omega)] at e2
      injection e1 with e1; injection e2 with e2
      subst e1; subst e2
      exact Own.keep hr fun k hk => hother k (hne hr k hk)
    · rw [if_neg e] at e1 e2
      exact (h3 j r' l' e1 e2).keep fun k hk => hother k (hne (h3 j r' l' e1 e2) k hk)
  · rcases hk with hk | ⟨r', hr', hk⟩
    · exact hf k (.inl hk) (.inr hF)
    · rcases List.mem_or_eq_of_mem_set hr' with hr' | rfl
      · exact hf k (.inr ⟨r', hr', hk⟩) (.inr hF)
      · exact hf2 k hk hF
/-- The tree in memory. -/
def treeP (base bt gf cf gw cw n : Nat) (vq : Value) (rows : List Value) (t : Tr) : List Asn :=
  [Asn.blk bt #[vq, .slice (some ⟨gf, 0, none⟩) n cf, .slice (some ⟨gw, 0, none⟩) n cw] 109, Asn.own base 2 vq (nats t.q), Asn.own base 2 (.slice (some ⟨gf, 0, none⟩) n cf) (ints t.far), Asn.mat base (.slice (some ⟨gw, 0, none⟩) n cw) rows t.ways]
/-- What the second part of a step reads. -/
def tcell (bp bt gw n cw bf fr : Nat) (r : Value) (W : World) : Prop :=
  W.cell? ⟨bp, 0, none⟩ = some (.pointer (some ⟨bt, 0, none⟩)) ∧ W.cell? ⟨bt, 2, none⟩ = some (.slice (some ⟨gw, 0, none⟩) n cw) ∧ W.cell? ⟨bf, 0, none⟩ = some (.int .i64 (fr : Nat)) ∧ W.cell? ⟨gw, fr, none⟩ = some r
def qcell (bp bt : Nat) (vq : Value) (W : World) : Prop := W.cell? ⟨bp, 0, none⟩ = some (.pointer (some ⟨bt, 0, none⟩)) ∧ W.cell? ⟨bt, 0, none⟩ = some vq
set_option maxHeartbeats 4000000 in
set_option maxRecDepth 100000 in
theorem meet_any (base : Nat) (w0 : World) (L : List Asn) (w : World) (bp bt bf gf cf gw cw n : Nat) (hbt : base ≤ bt) (hn : n ≤ 81) (vq : Value) (rows : List Value) (t : Tr) (ok : TrOk n t) (fr tx : Nat) (hfr : fr ∈ t.q) (hto : tx < n) (st : Int)
    (hS : St base w0 (treeP base bt gf cf gw cw n vq rows t ++ Asn.blk bp #[.pointer (some ⟨bt, 0, none⟩)] 110 :: Asn.blk bf #[.int .i64 fr] 2 :: L) w) :
    Calls Try.prog 142 #[.int .i64 tx, .int .i64 st, .pointer (some ⟨bp, 0, none⟩), .pointer (some ⟨bf, 0, none⟩)] w fun e w' => e = .returned (.tuple #[]) ∧
      ∃ vq' rows', St base w0 (treeP base bt gf cf gw cw n vq' rows' (meetT t fr tx st) ++ Asn.blk bp #[.pointer (some ⟨bt, 0, none⟩)] 110 :: Asn.blk bf #[.int .i64 fr] 2 :: L) w' := by
  have hfn := ok.qb fr hfr
  have e1 : t.far[tx]? = some (t.far.getD tx 0) := by rw [List.getD_eq_getElem?_getD, List.getElem?_eq_getElem (by rw [ok.fl]; exact hto)]; rfl
  have e2 : t.far[fr]? = some (t.far.getD fr 0) := by rw [List.getD_eq_getElem?_getD, List.getElem?_eq_getElem (by rw [ok.fl]; exact hfn)]; rfl
  have e3 : t.ways[fr]? = some (t.ways.getD fr []) := by rw [List.getD_eq_getElem?_getD, List.getElem?_eq_getElem (by rw [ok.wl]; exact hfn)]; rfl
  have hql := ok.ql
  have hff : 0 ≤ t.far.getD fr 0 ∧ t.far.getD fr 0 < 81 := by
    rcases ok.fb fr _ e2 with h1 | h1
    · exact absurd hfr h1.2
    · have := h1.2.2; omega
  have hww := ok.wb fr _ e3
  have hm1 : meetT t fr tx st = if t.far.getD tx 0 < 0 then ⟨t.q ++ [tx], t.far.set tx (t.far.getD fr 0 + 1), t.ways.set tx (t.ways.getD fr [] ++ [st])⟩ else t := rfl
  have hfl := ok.fl
  have hwl := ok.wl
  obtain ⟨tq, tf, tw⟩ := t
  simp only at hfr e1 e2 e3 hql hff hww hm1 hfl hwl
  replace ok := hid ok
  generalize tf.getD tx 0 = ft at *
  generalize tf.getD fr 0 = ff at *
  generalize tw.getD fr [] = wf at *
  have g1 : (ints tf)[tx]? = some (.int .i64 ft) := by simp [ints, e1]
  have g2 : (ints tf)[fr]? = some (.int .i64 ff) := by simp [ints, e2]
  replace hS := hid (show St base w0 (Asn.blk bt #[vq, .slice (some ⟨gf, 0, none⟩) n cf, .slice (some ⟨gw, 0, none⟩) n cw] 109 :: Asn.own base 2 vq (nats tq) :: Asn.own base 2 (.slice (some ⟨gf, 0, none⟩) n cf) (ints tf) :: Asn.mat base (.slice (some ⟨gw, 0, none⟩) n cw) rows tw ::
    Asn.blk bp #[.pointer (some ⟨bt, 0, none⟩)] 110 :: Asn.blk bf #[.int .i64 fr] 2 :: L) w from hS)
  have q1 : w.cell? ⟨bp, 0, none⟩ = some (.pointer (some ⟨bt, 0, none⟩)) := cell_of_row _ _ 0 _ _ _ hS.out.k4
  have q2 : w.cell? ⟨bt, 1, none⟩ = some (.slice (some ⟨gf, 0, none⟩) n cf) := cell_of_row _ _ 1 _ _ _ hS.out.k0
  have q3 : w.cell? ⟨gf, tx, none⟩ = some (.int .i64 ft) := hS.out.o2.cellAt tx _ g1
  have q4 : w.cell? ⟨gf, fr, none⟩ = some (.int .i64 ff) := hS.out.o2.cellAt fr _ g2
  have q5 : w.cell? ⟨bf, 0, none⟩ = some (.int .i64 fr) := cell_of_row _ _ 0 _ _ _ hS.out.k5
  have t0 : (0 : Int) ≤ (tx : Int) := Int.natCast_nonneg _
  have t1 : (tx : Int) < (n : Int) := by omega
  have f0 : (0 : Int) ≤ (fr : Int) := Int.natCast_nonneg _
  have f1 : (fr : Int) < (n : Int) := by omega
  by_cases hneg : ft < 0
  · rw [if_pos hneg] at hm1
    rw [hm1]
    have ef : IntKind.i64.wrap (ff + 1) = ff + 1 := IntWalk.i64_in _ (by omega)
    have hcl := hid (fun W b v (hO : Own W b 2 v (ints wf)) => clone_any W b v wf hO (by omega))
    have hqn := hid (nats_length tq)
    have fo := hS.out.o2.frozenAt (by rw [ints_length]; exact hfl) tx
    replace hm1 := hid hm1; replace hfl := hid hfl; replace hwl := hid hwl; replace e1 := hid e1; replace e2 := hid e2; replace e3 := hid e3; replace g1 := hid g1; replace g2 := hid g2; replace hfr := hid hfr
    have hf2 := hid (show (ints tf).set tx (.int .i64 (ff + 1)) = ints (tf.set tx (ff + 1)) by simp [ints, List.map_set])
    have hq2 := hid (show nats tq ++ [.int .i64 (tx : Int)] = nats (tq ++ [tx]) by simp [nats])
    have hw2 := hid (show ints wf ++ [.int .i64 st] = ints (wf ++ [st]) by simp [ints])
    go_enter Try.func142, Try.ntmps142
    go_upto_region 1 with (fail)
    refine wp_region_still_tail 13 (by kernel_rfl) (by kernel_rfl) ?_
    simp only [List.take_succ_cons, List.take_zero, List.drop_succ_cons, List.drop_zero]
    repeat still_step
    try refine wpStill_nil ?_
    change wpList _ _ _ _ _ w.drew
    replace hS := hid hS.out.drew
    have q3' : w.drew.cell? ⟨gf, tx, none⟩ = some (.int .i64 ft) := q3
    have fo' : w.drew.frozen? ⟨gf, tx, none⟩ = false := fo
    clear q1 q2 q3 q4 q5 fo
    generalize w.drew = wa at *
    go_upto_region 2 with (fail)
    replace hS := hid ((hS.out.f2.setOwn (by rw [ints_length]; exact hfl.out) tx (.int .i64 (ff + 1)) hto).b2)
    rw [hf2.out] at hS
    generalize wa.setCell ⟨gf, tx, none⟩ (.int .i64 (ff + 1)) = wb at *
    clear q3' fo'
    have hg3 := hS.out.g3
    obtain ⟨r, hr0⟩ : ∃ r, rows[fr]? = some r := ⟨_, List.getElem?_eq_getElem (by rw [hg3.2.1, hwl.out]; exact hfn)⟩
    have hr2 := hid (show Own wb.drew base 2 r (ints wf) from hg3.2.2 fr r wf hr0 e3.out)
    have hT := hid (fun (W : World) (L' : List Asn) (h : St base w0 (Asn.blk bt #[vq, .slice (some ⟨gf, 0, none⟩) n cf, .slice (some ⟨gw, 0, none⟩) n cw] 109 :: Asn.own base 2 vq (nats tq) :: Asn.own base 2 (.slice (some ⟨gf, 0, none⟩) n cf) (ints (tf.set tx (ff + 1))) :: Asn.mat base (.slice (some ⟨gw, 0, none⟩) n cw) rows tw ::
      Asn.blk bp #[.pointer (some ⟨bt, 0, none⟩)] 110 :: Asn.blk bf #[.int .i64 fr] 2 :: L') W) => (show tcell bp bt gw n cw bf fr r W from ⟨cell_of_row _ _ 0 _ _ _ h.k4, cell_of_row _ _ 2 _ _ _ h.k0, cell_of_row _ _ 0 _ _ _ h.k5, h.g3.1.cellAt fr r hr0⟩))
    clear hg3 hr0
    refine wp_region_heldL (L := [(17, tcell bp bt gw n cw bf fr r)]) (by kernel_rfl) (HeldL.cons (fun _ => hT.out _ _ hS.out.drew) HeldL.nil) (fun hHeld => ?_)
    replace hS := hid hS.out.drew
    generalize wb.drew = wc at *
    refine wpAnyL_takeP (i := 0) 17 [] (v := ?_) (tcell bp bt gw n cw bf fr r) rfl (by kernel_rfl) (by kernel_rfl) (by kernel_rfl) (by rfl) (by kernel_rfl) (by simp) (fun _ _ _ h => h) (Or.inl ⟨by rfl, ?_⟩) (by assumption) ?_
    rotate_left
    · (intro W hW; (obtain ⟨h1, h2, h3, h4⟩ := hW); go_simp; (with_reducible rfl))
    intro hHeld'
    clear hHeld; have hHeld := hHeld'; clear hHeld'
    try simp only [Act.put, List.getElem_toArray, List.getElem_cons_succ, List.getElem_cons_zero, List.setIfInBounds_toArray, List.set_cons_zero, List.set_cons_succ]
    refine wpAnyL_take0 (i := 1) (v := ?_) rfl (by kernel_rfl) (by kernel_rfl) (by kernel_rfl) (by rfl) (fun _ _ _ h => h) (Or.inl ⟨by rfl, ?_⟩) (by assumption) ?_
    rotate_left
    · (intro W _; go_simp; (with_reducible rfl))
    intro hHeld'
    clear hHeld; have hHeld := hHeld'; clear hHeld'
    try simp only [Act.put, List.getElem_toArray, List.getElem_cons_succ, List.getElem_cons_zero, List.setIfInBounds_toArray, List.set_cons_zero, List.set_cons_succ]
    refine wpAnyL_take0 (i := 2) (v := ?_) rfl (by kernel_rfl) (by kernel_rfl) (by kernel_rfl) (by rfl) (fun _ _ _ h => h) (Or.inl ⟨by rfl, ?_⟩) (by assumption) ?_
    rotate_left
    · (intro W _; go_simp; (with_reducible rfl))
    intro hHeld'
    clear hHeld; have hHeld := hHeld'; clear hHeld'
    try simp only [Act.put, List.getElem_toArray, List.getElem_cons_succ, List.getElem_cons_zero, List.setIfInBounds_toArray, List.set_cons_zero, List.set_cons_succ]
    refine wpAnyL_takeP (i := 3) 17 [] (v := ?_) (tcell bp bt gw n cw bf fr r) rfl (by kernel_rfl) (by kernel_rfl) (by kernel_rfl) (by rfl) (by kernel_rfl) (by simp) (fun _ _ _ h => h) (Or.inl ⟨by rfl, ?_⟩) (by assumption) ?_
    rotate_left
    · (intro W hW; (obtain ⟨h1, h2, h3, h4⟩ := hW); go_simp; (with_reducible rfl))
    intro hHeld'
    clear hHeld; have hHeld := hHeld'; clear hHeld'
    try simp only [Act.put, List.getElem_toArray, List.getElem_cons_succ, List.getElem_cons_zero, List.setIfInBounds_toArray, List.set_cons_zero, List.set_cons_succ]
    refine wpAnyL_take0 (i := 4) (v := ?_) rfl (by kernel_rfl) (by kernel_rfl) (by kernel_rfl) (by rfl) (fun _ _ _ h => h) (Or.inl ⟨by rfl, ?_⟩) (by assumption) ?_
    rotate_left
    · (intro W _; go_simp; (with_reducible rfl))
    intro hHeld'
    clear hHeld; have hHeld := hHeld'; clear hHeld'
    try simp only [Act.put, List.getElem_toArray, List.getElem_cons_succ, List.getElem_cons_zero, List.setIfInBounds_toArray, List.set_cons_zero, List.set_cons_succ]
    refine wpAnyL_takeP (i := 5) 17 [] (v := ?_) (tcell bp bt gw n cw bf fr r) rfl (by kernel_rfl) (by kernel_rfl) (by kernel_rfl) (by rfl) (by kernel_rfl) (by simp) (fun _ _ _ h => h) (Or.inl ⟨by rfl, ?_⟩) (by assumption) ?_
    rotate_left
    · (intro W hW; (obtain ⟨h1, h2, h3, h4⟩ := hW); go_simp; (with_reducible rfl))
    intro hHeld'
    clear hHeld; have hHeld := hHeld'; clear hHeld'
    try simp only [Act.put, List.getElem_toArray, List.getElem_cons_succ, List.getElem_cons_zero, List.setIfInBounds_toArray, List.set_cons_zero, List.set_cons_succ]
    refine wpAnyL_take0 (i := 6) (v := ?_) rfl (by kernel_rfl) (by kernel_rfl) (by kernel_rfl) (by rfl) (fun _ _ _ h => h) (Or.inl ⟨by rfl, ?_⟩) (by assumption) ?_
    rotate_left
    · (intro W _; go_simp; (with_reducible rfl))
    intro hHeld'
    clear hHeld; have hHeld := hHeld'; clear hHeld'
    try simp only [Act.put, List.getElem_toArray, List.getElem_cons_succ, List.getElem_cons_zero, List.setIfInBounds_toArray, List.set_cons_zero, List.set_cons_succ]
    refine wpAnyL_take0 (i := 7) (v := ?_) rfl (by kernel_rfl) (by kernel_rfl) (by kernel_rfl) (by rfl) (fun _ _ _ h => h) (Or.inl ⟨by rfl, ?_⟩) (by assumption) ?_
    rotate_left
    · (intro W _; go_simp; (with_reducible rfl))
    intro hHeld'
    clear hHeld; have hHeld := hHeld'; clear hHeld'
    try simp only [Act.put, List.getElem_toArray, List.getElem_cons_succ, List.getElem_cons_zero, List.setIfInBounds_toArray, List.set_cons_zero, List.set_cons_succ]
    refine wpAnyL_takeP (i := 8) 17 [] (v := ?_) (tcell bp bt gw n cw bf fr r) rfl (by kernel_rfl) (by kernel_rfl) (by kernel_rfl) (by rfl) (by kernel_rfl) (by simp) (fun _ _ _ h => h) (Or.inl ⟨by rfl, ?_⟩) (by assumption) ?_
    rotate_left
    · (intro W hW; (obtain ⟨h1, h2, h3, h4⟩ := hW); go_simp; (with_reducible rfl))
    intro hHeld'
    clear hHeld; have hHeld := hHeld'; clear hHeld'
    try simp only [Act.put, List.getElem_toArray, List.getElem_cons_succ, List.getElem_cons_zero, List.setIfInBounds_toArray, List.set_cons_zero, List.set_cons_succ]
    refine wpAnyL_takeP (i := 9) 17 [] (v := ?_) (tcell bp bt gw n cw bf fr r) rfl (by kernel_rfl) (by kernel_rfl) (by kernel_rfl) (by rfl) (by kernel_rfl) (by simp) (fun _ _ _ h => h) (Or.inl ⟨by rfl, ?_⟩) (by assumption) ?_
    rotate_left
    · (intro W hW; (obtain ⟨h1, h2, h3, h4⟩ := hW); go_simp; (with_reducible rfl))
    intro hHeld'
    clear hHeld; have hHeld := hHeld'; clear hHeld'
    try simp only [Act.put, List.getElem_toArray, List.getElem_cons_succ, List.getElem_cons_zero, List.setIfInBounds_toArray, List.set_cons_zero, List.set_cons_succ]
    refine wpAnyL_take0 (i := 10) (v := ?_) rfl (by kernel_rfl) (by kernel_rfl) (by kernel_rfl) (by rfl) (fun _ _ _ h => h) (Or.inl ⟨by rfl, ?_⟩) (by assumption) ?_
    rotate_left
    · (intro W _; go_simp; (with_reducible rfl))
    intro hHeld'
    clear hHeld; have hHeld := hHeld'; clear hHeld'
    try simp only [Act.put, List.getElem_toArray, List.getElem_cons_succ, List.getElem_cons_zero, List.setIfInBounds_toArray, List.set_cons_zero, List.set_cons_succ]
    refine wpAnyL_takeP (i := 11) 17 [] (v := ?_) (tcell bp bt gw n cw bf fr r) rfl (by kernel_rfl) (by kernel_rfl) (by kernel_rfl) (by rfl) (by kernel_rfl) (by simp) (fun _ _ _ h => h) (Or.inl ⟨by rfl, ?_⟩) (by assumption) ?_
    rotate_left
    · (intro W hW; (obtain ⟨h1, h2, h3, h4⟩ := hW); go_simp; (with_reducible rfl))
    intro hHeld'
    clear hHeld; have hHeld := hHeld'; clear hHeld'
    try simp only [Act.put, List.getElem_toArray, List.getElem_cons_succ, List.getElem_cons_zero, List.setIfInBounds_toArray, List.set_cons_zero, List.set_cons_succ]
    refine wpAnyL_take0 (i := 13) (v := ?_) rfl (by kernel_rfl) (by kernel_rfl) (by kernel_rfl) (by rfl) (fun _ _ _ h => h) (Or.inl ⟨by rfl, ?_⟩) (by assumption) ?_
    rotate_left
    · (intro W _; go_simp; (with_reducible rfl))
    intro hHeld'
    clear hHeld; have hHeld := hHeld'; clear hHeld'
    try simp only [Act.put, List.getElem_toArray, List.getElem_cons_succ, List.getElem_cons_zero, List.setIfInBounds_toArray, List.set_cons_zero, List.set_cons_succ]
    refine wpAnyL_ready (rs := [12, 14]) (by kernel_rfl) (by simp) ?_
    refine AllReadyL.cons rfl (fun K hK => ?_) ?_
    · skip
      go_simp
      (with_reducible refine (hcl.out _ _ _ hr2.out).mono ?_)
      rintro e w3 ⟨v', rfl, hO, hb⟩
      replace hS := hid (hS.out.callOwn hb hO)
      clear hb hO
      go_simp
      refine hK.out _ _ (HeldL.cons (fun _ => hT.out _ _ hS.out.drop) HeldL.nil) (fun hHeld' => ?_)
      clear hK K hHeld; have hHeld := hHeld'; clear hHeld'
      try simp only [Act.put, List.getElem_toArray, List.getElem_cons_succ, List.getElem_cons_zero, List.setIfInBounds_toArray, List.set_cons_zero, List.set_cons_succ]
      refine wpAnyL_ready (rs := [14]) (by kernel_rfl) (by simp) ?_
      refine AllReadyL.cons rfl (fun K hK => ?_) AllReadyL.nil
      go_simp
      replace hS := hid ((hS.out.newBlk #[.int .i64 st] 2).f1)
      generalize w3.heap.size = bB at *
      generalize w3.alloc (.cells #[.int .i64 st] 2) = wd at *
      refine hK.out _ _ (HeldL.cons (fun _ => hT.out _ _ hS.out.drop.drop) HeldL.nil) (fun hHeld' => ?_)
      clear hK K hHeld; have hHeld := hHeld'; clear hHeld'
      try simp only [Act.put, List.getElem_toArray, List.getElem_cons_succ, List.getElem_cons_zero, List.setIfInBounds_toArray, List.set_cons_zero, List.set_cons_succ]
      refine wpAnyL_ready (rs := [15]) (by kernel_rfl) (by simp) ?_
      refine AllReadyL.cons rfl (fun K hK => ?_) AllReadyL.nil
      refine St.step1 22 2 2 (.int .i64 0) 8 Try.underlying22 info_i64 rfl (by omega) rfl _ _ rfl _ _ rfl hS.out rfl rfl _ (ints_length wf) (by omega) ?_
      intro gn cn we hS'
      replace hS := hid hS'.f1.drop
      clear hS'
      rw [hw2.out] at hS
      refine hK.out _ _ (HeldL.cons (fun _ => hT.out _ _ hS.out.drop) HeldL.nil) (fun hHeld' => ?_)
      clear hK K hHeld; have hHeld := hHeld'; clear hHeld'
      try simp only [Act.put, List.getElem_toArray, List.getElem_cons_succ, List.getElem_cons_zero, List.setIfInBounds_toArray, List.set_cons_zero, List.set_cons_succ]
      refine wpAnyL_take0 (i := 16) (v := ?_) rfl (by kernel_rfl) (by kernel_rfl) (by kernel_rfl) (by rfl) (fun _ _ _ h => h) (Or.inl ⟨by rfl, ?_⟩) (by assumption) ?_
      rotate_left
      · (intro W _; go_simp; (with_reducible rfl))
      intro hHeld'
      clear hHeld; have hHeld := hHeld'; clear hHeld'
      try simp only [Act.put, List.getElem_toArray, List.getElem_cons_succ, List.getElem_cons_zero, List.setIfInBounds_toArray, List.set_cons_zero, List.set_cons_succ]
      have c1 := hS.out.f4.g0.1.cellAt tx
      have c2 := Own.frozenAt hS.out.f4.g0.1 (by rw [hS.out.f4.g0.2.1]; exact hwl.out) tx
      have c3 : ∃ u, rows[tx]? = some u := ⟨_, List.getElem?_eq_getElem (by rw [hS.out.f4.g0.2.1, hwl.out]; exact hto)⟩
      obtain ⟨u0, hu0⟩ := c3
      replace c1 := c1 u0 hu0
      clear hu0
      refine wpAnyL_ready (rs := [17]) (by kernel_rfl) (by simp) ?_
      refine AllReadyL.cons rfl (fun K hK => ?_) AllReadyL.nil
      go_simp
      replace hS := hid ((hS.out.f4.setMR hwl.out tx hto).b3)
      clear c1 c2
      refine hK.out _ _ (HeldL.cons (fun h => absurd h (by decide +kernel)) HeldL.nil) (fun hHeld' => ?_)
      clear hK K hHeld; have hHeld := hHeld'; clear hHeld'
      try simp only [Act.put, List.getElem_toArray, List.getElem_cons_succ, List.getElem_cons_zero, List.setIfInBounds_toArray, List.set_cons_zero, List.set_cons_succ]
      refine wpAnyL_done (by kernel_rfl) ?_ _
      clear hT hr2 hcl hf2
      generalize we.setCell ⟨gw, tx, none⟩ (.slice (some ⟨gn, 0, none⟩) (wf.length + 1) cn) = wg at *
      go_upto_region 3 with (fail)
      have hq0 := hid (fun (W : World) (h1 : W.heap[bp]? = some (.cells #[.pointer (some ⟨bt, 0, none⟩)] 110 (0, 0))) (h2 : W.heap[bt]? = some (.cells #[vq, .slice (some ⟨gf, 0, none⟩) n cf, .slice (some ⟨gw, 0, none⟩) n cw] 109 (0, 0))) => (show qcell bp bt vq W from ⟨cell_of_row _ _ 0 _ _ _ h1, cell_of_row _ _ 0 _ _ _ h2⟩))
      refine wp_region_heldL (L := [(10, qcell bp bt vq)]) (by kernel_rfl) (HeldL.cons (fun _ => hq0.out _ hS.out.drew.k4 hS.out.drew.k0) HeldL.nil) (fun hHeld => ?_)
      replace hS := hid hS.out.drew
      generalize wg.drew = wh at *
      refine wpAnyL_takeP (i := 0) 10 [] (v := ?_) (qcell bp bt vq) rfl (by kernel_rfl) (by kernel_rfl) (by kernel_rfl) (by rfl) (by kernel_rfl) (by simp) (fun _ _ _ h => h) (Or.inl ⟨by rfl, ?_⟩) (by assumption) ?_
      rotate_left
      · (intro W hW; (obtain ⟨h1, h2⟩ := hW); go_simp; (with_reducible rfl))
      intro hHeld'
      clear hHeld; have hHeld := hHeld'; clear hHeld'
      try simp only [Act.put, List.getElem_toArray, List.getElem_cons_succ, List.getElem_cons_zero, List.setIfInBounds_toArray, List.set_cons_zero, List.set_cons_succ]
      refine wpAnyL_takeP (i := 1) 10 [] (v := ?_) (qcell bp bt vq) rfl (by kernel_rfl) (by kernel_rfl) (by kernel_rfl) (by rfl) (by kernel_rfl) (by simp) (fun _ _ _ h => h) (Or.inl ⟨by rfl, ?_⟩) (by assumption) ?_
      rotate_left
      · (intro W hW; (obtain ⟨h1, h2⟩ := hW); go_simp; (with_reducible rfl))
      intro hHeld'
      clear hHeld; have hHeld := hHeld'; clear hHeld'
      try simp only [Act.put, List.getElem_toArray, List.getElem_cons_succ, List.getElem_cons_zero, List.setIfInBounds_toArray, List.set_cons_zero, List.set_cons_succ]
      refine wpAnyL_take0 (i := 2) (v := ?_) rfl (by kernel_rfl) (by kernel_rfl) (by kernel_rfl) (by rfl) (fun _ _ _ h => h) (Or.inl ⟨by rfl, ?_⟩) (by assumption) ?_
      rotate_left
      · (intro W _; go_simp; (with_reducible rfl))
      intro hHeld'
      clear hHeld; have hHeld := hHeld'; clear hHeld'
      try simp only [Act.put, List.getElem_toArray, List.getElem_cons_succ, List.getElem_cons_zero, List.setIfInBounds_toArray, List.set_cons_zero, List.set_cons_succ]
      refine wpAnyL_take0 (i := 3) (v := ?_) rfl (by kernel_rfl) (by kernel_rfl) (by kernel_rfl) (by rfl) (fun _ _ _ h => h) (Or.inl ⟨by rfl, ?_⟩) (by assumption) ?_
      rotate_left
      · (intro W _; go_simp; (with_reducible rfl))
      intro hHeld'
      clear hHeld; have hHeld := hHeld'; clear hHeld'
      try simp only [Act.put, List.getElem_toArray, List.getElem_cons_succ, List.getElem_cons_zero, List.setIfInBounds_toArray, List.set_cons_zero, List.set_cons_succ]
      refine wpAnyL_takeP (i := 4) 10 [] (v := ?_) (qcell bp bt vq) rfl (by kernel_rfl) (by kernel_rfl) (by kernel_rfl) (by rfl) (by kernel_rfl) (by simp) (fun _ _ _ h => h) (Or.inl ⟨by rfl, ?_⟩) (by assumption) ?_
      rotate_left
      · (intro W hW; (obtain ⟨h1, h2⟩ := hW); go_simp; (with_reducible rfl))
      intro hHeld'
      clear hHeld; have hHeld := hHeld'; clear hHeld'
      try simp only [Act.put, List.getElem_toArray, List.getElem_cons_succ, List.getElem_cons_zero, List.setIfInBounds_toArray, List.set_cons_zero, List.set_cons_succ]
      refine wpAnyL_take0 (i := 5) (v := ?_) rfl (by kernel_rfl) (by kernel_rfl) (by kernel_rfl) (by rfl) (fun _ _ _ h => h) (Or.inl ⟨by rfl, ?_⟩) (by assumption) ?_
      rotate_left
      · (intro W _; go_simp; (with_reducible rfl))
      intro hHeld'
      clear hHeld; have hHeld := hHeld'; clear hHeld'
      try simp only [Act.put, List.getElem_toArray, List.getElem_cons_succ, List.getElem_cons_zero, List.setIfInBounds_toArray, List.set_cons_zero, List.set_cons_succ]
      refine wpAnyL_ready (rs := [6]) (by kernel_rfl) (by simp) ?_
      refine AllReadyL.cons rfl (fun K hK => ?_) AllReadyL.nil
      go_simp
      replace hS := hid ((hS.out.newBlk #[.int .i64 (tx : Int)] 2).f2)
      generalize wh.heap.size = bC at *
      generalize wh.alloc (.cells #[.int .i64 (tx : Int)] 2) = wi at *
      refine hK.out _ _ (HeldL.cons (fun _ => hq0.out _ hS.out.k5 hS.out.k2) HeldL.nil) (fun hHeld' => ?_)
      clear hK K hHeld; have hHeld := hHeld'; clear hHeld'
      try simp only [Act.put, List.getElem_toArray, List.getElem_cons_succ, List.getElem_cons_zero, List.setIfInBounds_toArray, List.set_cons_zero, List.set_cons_succ]
      refine wpAnyL_ready (rs := [7]) (by kernel_rfl) (by simp) ?_
      refine AllReadyL.cons rfl (fun K hK => ?_) AllReadyL.nil
      refine St.step1 22 2 2 (.int .i64 0) 8 Try.underlying22 info_i64 rfl (by omega) rfl _ _ rfl _ _ rfl hS.out rfl rfl _ hqn.out (by omega) ?_
      intro gq cq wj hS'
      replace hS := hid (hS'.f1.drop.f1)
      clear hS'
      rw [hq2.out] at hS
      refine hK.out _ _ (HeldL.cons (fun _ => hq0.out _ hS.out.k4 hS.out.k0) HeldL.nil) (fun hHeld' => ?_)
      clear hK K hHeld; have hHeld := hHeld'; clear hHeld'
      try simp only [Act.put, List.getElem_toArray, List.getElem_cons_succ, List.getElem_cons_zero, List.setIfInBounds_toArray, List.set_cons_zero, List.set_cons_succ]
      refine wpAnyL_take0 (i := 8) (v := ?_) rfl (by kernel_rfl) (by kernel_rfl) (by kernel_rfl) (by rfl) (fun _ _ _ h => h) (Or.inl ⟨by rfl, ?_⟩) (by assumption) ?_
      rotate_left
      · (intro W _; go_simp; (with_reducible rfl))
      intro hHeld'
      clear hHeld; have hHeld := hHeld'; clear hHeld'
      try simp only [Act.put, List.getElem_toArray, List.getElem_cons_succ, List.getElem_cons_zero, List.setIfInBounds_toArray, List.set_cons_zero, List.set_cons_succ]
      refine wpAnyL_take0 (i := 9) (v := ?_) rfl (by kernel_rfl) (by kernel_rfl) (by kernel_rfl) (by rfl) (fun _ _ _ h => h) (Or.inl ⟨by rfl, ?_⟩) (by assumption) ?_
      rotate_left
      · (intro W _; go_simp; (with_reducible rfl))
      intro hHeld'
      clear hHeld; have hHeld := hHeld'; clear hHeld'
      try simp only [Act.put, List.getElem_toArray, List.getElem_cons_succ, List.getElem_cons_zero, List.setIfInBounds_toArray, List.set_cons_zero, List.set_cons_succ]
      have c1 := cell_of_row _ _ 0 _ _ _ hS.out.k0
      have c2 := frozen_of_row _ _ 0 _ _ hS.out.k0
      refine wpAnyL_ready (rs := [10]) (by kernel_rfl) (by simp) ?_
      refine AllReadyL.cons rfl (fun K hK => ?_) AllReadyL.nil
      go_simp
      replace hS := hid (hS.out.setBlk hbt 0 (.slice (some ⟨gq, 0, none⟩) (tq.length + 1) cq))
      clear c1 c2
      refine hK.out _ _ (HeldL.cons (fun h => absurd h (by decide +kernel)) HeldL.nil) (fun hHeld' => ?_)
      clear hK K hHeld; have hHeld := hHeld'; clear hHeld'
      try simp only [Act.put, List.getElem_toArray, List.getElem_cons_succ, List.getElem_cons_zero, List.setIfInBounds_toArray, List.set_cons_zero, List.set_cons_succ]
      refine wpAnyL_done (by kernel_rfl) ?_ _
      go_end0
      exact ⟨rfl, _, _, hS.out⟩
    · skip
      refine AllReadyL.cons rfl (fun K hK => ?_) AllReadyL.nil
      go_simp
      replace hS := hid (hS.out.newBlk #[.int .i64 st] 2)
      replace hr2 := hid (hr2.out.alloc (.cells #[.int .i64 st] 2))
      generalize wc.heap.size = bB at *
      generalize wc.alloc (.cells #[.int .i64 st] 2) = wd at *
      refine hK.out _ _ (HeldL.cons (fun _ => hT.out _ _ hS.out.drop) HeldL.nil) (fun hHeld' => ?_)
      clear hK K hHeld; have hHeld := hHeld'; clear hHeld'
      try simp only [Act.put, List.getElem_toArray, List.getElem_cons_succ, List.getElem_cons_zero, List.setIfInBounds_toArray, List.set_cons_zero, List.set_cons_succ]
      refine wpAnyL_ready (rs := [12]) (by kernel_rfl) (by simp) ?_
      refine AllReadyL.cons rfl (fun K hK => ?_) AllReadyL.nil
      go_simp
      (with_reducible refine (hcl.out _ _ _ hr2.out).mono ?_)
      rintro e w3 ⟨v', rfl, hO, hb⟩
      replace hS := hid (hS.out.callOwn hb hO)
      clear hb hO
      go_simp
      generalize w3 = wd at *
      refine hK.out _ _ (HeldL.cons (fun _ => hT.out _ _ hS.out.drop.drop) HeldL.nil) (fun hHeld' => ?_)
      clear hK K hHeld; have hHeld := hHeld'; clear hHeld'
      try simp only [Act.put, List.getElem_toArray, List.getElem_cons_succ, List.getElem_cons_zero, List.setIfInBounds_toArray, List.set_cons_zero, List.set_cons_succ]
      refine wpAnyL_ready (rs := [15]) (by kernel_rfl) (by simp) ?_
      refine AllReadyL.cons rfl (fun K hK => ?_) AllReadyL.nil
      refine St.step1 22 2 2 (.int .i64 0) 8 Try.underlying22 info_i64 rfl (by omega) rfl _ _ rfl _ _ rfl hS.out rfl rfl _ (ints_length wf) (by omega) ?_
      intro gn cn we hS'
      replace hS := hid hS'.f1.drop
      clear hS'
      rw [hw2.out] at hS
      refine hK.out _ _ (HeldL.cons (fun _ => hT.out _ _ hS.out.drop) HeldL.nil) (fun hHeld' => ?_)
      clear hK K hHeld; have hHeld := hHeld'; clear hHeld'
      try simp only [Act.put, List.getElem_toArray, List.getElem_cons_succ, List.getElem_cons_zero, List.setIfInBounds_toArray, List.set_cons_zero, List.set_cons_succ]
      refine wpAnyL_take0 (i := 16) (v := ?_) rfl (by kernel_rfl) (by kernel_rfl) (by kernel_rfl) (by rfl) (fun _ _ _ h => h) (Or.inl ⟨by rfl, ?_⟩) (by assumption) ?_
      rotate_left
      · (intro W _; go_simp; (with_reducible rfl))
      intro hHeld'
      clear hHeld; have hHeld := hHeld'; clear hHeld'
      try simp only [Act.put, List.getElem_toArray, List.getElem_cons_succ, List.getElem_cons_zero, List.setIfInBounds_toArray, List.set_cons_zero, List.set_cons_succ]
      have c1 := hS.out.f4.g0.1.cellAt tx
      have c2 := Own.frozenAt hS.out.f4.g0.1 (by rw [hS.out.f4.g0.2.1]; exact hwl.out) tx
      have c3 : ∃ u, rows[tx]? = some u := ⟨_, List.getElem?_eq_getElem (by rw [hS.out.f4.g0.2.1, hwl.out]; exact hto)⟩
      obtain ⟨u0, hu0⟩ := c3
      replace c1 := c1 u0 hu0
      clear hu0
      refine wpAnyL_ready (rs := [17]) (by kernel_rfl) (by simp) ?_
      refine AllReadyL.cons rfl (fun K hK => ?_) AllReadyL.nil
      go_simp
      replace hS := hid ((hS.out.f4.setMR hwl.out tx hto).b3)
      clear c1 c2
      refine hK.out _ _ (HeldL.cons (fun h => absurd h (by decide +kernel)) HeldL.nil) (fun hHeld' => ?_)
      clear hK K hHeld; have hHeld := hHeld'; clear hHeld'
      try simp only [Act.put, List.getElem_toArray, List.getElem_cons_succ, List.getElem_cons_zero, List.setIfInBounds_toArray, List.set_cons_zero, List.set_cons_succ]
      refine wpAnyL_done (by kernel_rfl) ?_ _
      clear hT hr2 hcl hf2
      generalize we.setCell ⟨gw, tx, none⟩ (.slice (some ⟨gn, 0, none⟩) (wf.length + 1) cn) = wg at *
      go_upto_region 3 with (fail)
      have hq0 := hid (fun (W : World) (h1 : W.heap[bp]? = some (.cells #[.pointer (some ⟨bt, 0, none⟩)] 110 (0, 0))) (h2 : W.heap[bt]? = some (.cells #[vq, .slice (some ⟨gf, 0, none⟩) n cf, .slice (some ⟨gw, 0, none⟩) n cw] 109 (0, 0))) => (show qcell bp bt vq W from ⟨cell_of_row _ _ 0 _ _ _ h1, cell_of_row _ _ 0 _ _ _ h2⟩))
      refine wp_region_heldL (L := [(10, qcell bp bt vq)]) (by kernel_rfl) (HeldL.cons (fun _ => hq0.out _ hS.out.drew.k4 hS.out.drew.k0) HeldL.nil) (fun hHeld => ?_)
      replace hS := hid hS.out.drew
      generalize wg.drew = wh at *
      refine wpAnyL_takeP (i := 0) 10 [] (v := ?_) (qcell bp bt vq) rfl (by kernel_rfl) (by kernel_rfl) (by kernel_rfl) (by rfl) (by kernel_rfl) (by simp) (fun _ _ _ h => h) (Or.inl ⟨by rfl, ?_⟩) (by assumption) ?_
      rotate_left
      · (intro W hW; (obtain ⟨h1, h2⟩ := hW); go_simp; (with_reducible rfl))
      intro hHeld'
      clear hHeld; have hHeld := hHeld'; clear hHeld'
      try simp only [Act.put, List.getElem_toArray, List.getElem_cons_succ, List.getElem_cons_zero, List.setIfInBounds_toArray, List.set_cons_zero, List.set_cons_succ]
      refine wpAnyL_takeP (i := 1) 10 [] (v := ?_) (qcell bp bt vq) rfl (by kernel_rfl) (by kernel_rfl) (by kernel_rfl) (by rfl) (by kernel_rfl) (by simp) (fun _ _ _ h => h) (Or.inl ⟨by rfl, ?_⟩) (by assumption) ?_
      rotate_left
      · (intro W hW; (obtain ⟨h1, h2⟩ := hW); go_simp; (with_reducible rfl))
      intro hHeld'
      clear hHeld; have hHeld := hHeld'; clear hHeld'
      try simp only [Act.put, List.getElem_toArray, List.getElem_cons_succ, List.getElem_cons_zero, List.setIfInBounds_toArray, List.set_cons_zero, List.set_cons_succ]
      refine wpAnyL_take0 (i := 2) (v := ?_) rfl (by kernel_rfl) (by kernel_rfl) (by kernel_rfl) (by rfl) (fun _ _ _ h => h) (Or.inl ⟨by rfl, ?_⟩) (by assumption) ?_
      rotate_left
      · (intro W _; go_simp; (with_reducible rfl))
      intro hHeld'
      clear hHeld; have hHeld := hHeld'; clear hHeld'
      try simp only [Act.put, List.getElem_toArray, List.getElem_cons_succ, List.getElem_cons_zero, List.setIfInBounds_toArray, List.set_cons_zero, List.set_cons_succ]
      refine wpAnyL_take0 (i := 3) (v := ?_) rfl (by kernel_rfl) (by kernel_rfl) (by kernel_rfl) (by rfl) (fun _ _ _ h => h) (Or.inl ⟨by rfl, ?_⟩) (by assumption) ?_
      rotate_left
      · (intro W _; go_simp; (with_reducible rfl))
      intro hHeld'
      clear hHeld; have hHeld := hHeld'; clear hHeld'
      try simp only [Act.put, List.getElem_toArray, List.getElem_cons_succ, List.getElem_cons_zero, List.setIfInBounds_toArray, List.set_cons_zero, List.set_cons_succ]
      refine wpAnyL_takeP (i := 4) 10 [] (v := ?_) (qcell bp bt vq) rfl (by kernel_rfl) (by kernel_rfl) (by kernel_rfl) (by rfl) (by kernel_rfl) (by simp) (fun _ _ _ h => h) (Or.inl ⟨by rfl, ?_⟩) (by assumption) ?_
      rotate_left
      · (intro W hW; (obtain ⟨h1, h2⟩ := hW); go_simp; (with_reducible rfl))
      intro hHeld'
      clear hHeld; have hHeld := hHeld'; clear hHeld'
      try simp only [Act.put, List.getElem_toArray, List.getElem_cons_succ, List.getElem_cons_zero, List.setIfInBounds_toArray, List.set_cons_zero, List.set_cons_succ]
      refine wpAnyL_take0 (i := 5) (v := ?_) rfl (by kernel_rfl) (by kernel_rfl) (by kernel_rfl) (by rfl) (fun _ _ _ h => h) (Or.inl ⟨by rfl, ?_⟩) (by assumption) ?_
      rotate_left
      · (intro W _; go_simp; (with_reducible rfl))
      intro hHeld'
      clear hHeld; have hHeld := hHeld'; clear hHeld'
      try simp only [Act.put, List.getElem_toArray, List.getElem_cons_succ, List.getElem_cons_zero, List.setIfInBounds_toArray, List.set_cons_zero, List.set_cons_succ]
      refine wpAnyL_ready (rs := [6]) (by kernel_rfl) (by simp) ?_
      refine AllReadyL.cons rfl (fun K hK => ?_) AllReadyL.nil
      go_simp
      replace hS := hid ((hS.out.newBlk #[.int .i64 (tx : Int)] 2).f2)
      generalize wh.heap.size = bC at *
      generalize wh.alloc (.cells #[.int .i64 (tx : Int)] 2) = wi at *
      refine hK.out _ _ (HeldL.cons (fun _ => hq0.out _ hS.out.k5 hS.out.k2) HeldL.nil) (fun hHeld' => ?_)
      clear hK K hHeld; have hHeld := hHeld'; clear hHeld'
      try simp only [Act.put, List.getElem_toArray, List.getElem_cons_succ, List.getElem_cons_zero, List.setIfInBounds_toArray, List.set_cons_zero, List.set_cons_succ]
      refine wpAnyL_ready (rs := [7]) (by kernel_rfl) (by simp) ?_
      refine AllReadyL.cons rfl (fun K hK => ?_) AllReadyL.nil
      refine St.step1 22 2 2 (.int .i64 0) 8 Try.underlying22 info_i64 rfl (by omega) rfl _ _ rfl _ _ rfl hS.out rfl rfl _ hqn.out (by omega) ?_
      intro gq cq wj hS'
      replace hS := hid (hS'.f1.drop.f1)
      clear hS'
      rw [hq2.out] at hS
      refine hK.out _ _ (HeldL.cons (fun _ => hq0.out _ hS.out.k4 hS.out.k0) HeldL.nil) (fun hHeld' => ?_)
      clear hK K hHeld; have hHeld := hHeld'; clear hHeld'
      try simp only [Act.put, List.getElem_toArray, List.getElem_cons_succ, List.getElem_cons_zero, List.setIfInBounds_toArray, List.set_cons_zero, List.set_cons_succ]
      refine wpAnyL_take0 (i := 8) (v := ?_) rfl (by kernel_rfl) (by kernel_rfl) (by kernel_rfl) (by rfl) (fun _ _ _ h => h) (Or.inl ⟨by rfl, ?_⟩) (by assumption) ?_
      rotate_left
      · (intro W _; go_simp; (with_reducible rfl))
      intro hHeld'
      clear hHeld; have hHeld := hHeld'; clear hHeld'
      try simp only [Act.put, List.getElem_toArray, List.getElem_cons_succ, List.getElem_cons_zero, List.setIfInBounds_toArray, List.set_cons_zero, List.set_cons_succ]
      refine wpAnyL_take0 (i := 9) (v := ?_) rfl (by kernel_rfl) (by kernel_rfl) (by kernel_rfl) (by rfl) (fun _ _ _ h => h) (Or.inl ⟨by rfl, ?_⟩) (by assumption) ?_
      rotate_left
      · (intro W _; go_simp; (with_reducible rfl))
      intro hHeld'
      clear hHeld; have hHeld := hHeld'; clear hHeld'
      try simp only [Act.put, List.getElem_toArray, List.getElem_cons_succ, List.getElem_cons_zero, List.setIfInBounds_toArray, List.set_cons_zero, List.set_cons_succ]
      have c1 := cell_of_row _ _ 0 _ _ _ hS.out.k0
      have c2 := frozen_of_row _ _ 0 _ _ hS.out.k0
      refine wpAnyL_ready (rs := [10]) (by kernel_rfl) (by simp) ?_
      refine AllReadyL.cons rfl (fun K hK => ?_) AllReadyL.nil
      go_simp
      replace hS := hid (hS.out.setBlk hbt 0 (.slice (some ⟨gq, 0, none⟩) (tq.length + 1) cq))
      clear c1 c2
      refine hK.out _ _ (HeldL.cons (fun h => absurd h (by decide +kernel)) HeldL.nil) (fun hHeld' => ?_)
      clear hK K hHeld; have hHeld := hHeld'; clear hHeld'
      try simp only [Act.put, List.getElem_toArray, List.getElem_cons_succ, List.getElem_cons_zero, List.setIfInBounds_toArray, List.set_cons_zero, List.set_cons_succ]
      refine wpAnyL_done (by kernel_rfl) ?_ _
      go_end0
      exact ⟨rfl, _, _, hS.out⟩
  · rw [if_neg hneg] at hm1
    rw [hm1]
    go_enter Try.func142, Try.ntmps142
    go_wp2
    go_end0
    exact ⟨rfl, _, _, hS.out⟩
end Go.Proofs.Ythempofohidlnaa

/- Arrays of bytes and machines, compared by ==. -/
namespace Go.Proofs.Ythempofohidlnaa
open Go.RowKit
set_option linter.unusedVariables false
set_option linter.unusedSimpArgs false

theorem guard_b3 : Try.prog.eqGuardType Try.prog.depth 29 = false := by kernel_rfl
theorem guard_mach : Try.prog.eqGuardType Try.prog.depth 34 = false := by kernel_rfl
theorem key_b3 : Try.prog.keyTypeAt 2 29 = true := by kernel_rfl
theorem key_mach : Try.prog.keyTypeAt 5 34 = true := by kernel_rfl
theorem cells_b3 : Try.prog.cellsOf 29 = 3 := by kernel_rfl
theorem cells_u8 : Try.prog.cellsOf 5 = 1 := by kernel_rfl
theorem wf_u8 (a : Nat) (h : a < 256) : (Lit.int .u8 (a : Int)).wf = true := by
  have h0 : IntKind.u8.min = 0 := by decide
  have h1 : IntKind.u8.max = 255 := by decide
  simp [Lit.wf, IntKind.has, h0, h1]; omega
/-- The literals of a row of bytes. -/
theorem lits_u8 (d : Nat) (a : Nat) (h : a < 256) : Try.prog.keyLits (d + 1) 5 [.int .u8 (a : Int)] = some [.int .u8 (a : Int)] := by
  unfold Program.keyLits
  rw [Try.underlying5]
  simp [wf_u8 a h]
theorem lits_b3 (d : Nat) (a b c : Nat) (ha : a < 256) (hb : b < 256) (hc : c < 256) : Try.prog.keyLits (d + 2) 29 [.int .u8 (a : Int), .int .u8 (b : Int), .int .u8 (c : Int)] = some [.int .u8 (a : Int), .int .u8 (b : Int), .int .u8 (c : Int)] := by
  unfold Program.keyLits
  rw [Try.underlying29]
  simp only [cells_b3, List.length_cons, List.length_nil, cells_u8, Nat.mul_one]
  rw [if_pos trivial]
  have e : List.range 3 = [0, 1, 2] := rfl
  rw [e]
  simp [List.mapM_cons, lits_u8, ha, hb, hc]
/-- Two rows of bytes. -/
theorem eq_b3 (w : World) (a b c a' b' c' : Nat) (h : a < 256 ∧ b < 256 ∧ c < 256) (h' : a' < 256 ∧ b' < 256 ∧ c' < 256) (r : Bool) (hr : Tells r (a = a' ∧ b = b' ∧ c = c')) :
    (Op.equalIn 10000 29 (.agg #[.int .u8 (a : Int), .int .u8 (b : Int), .int .u8 (c : Int)]) (.agg #[.int .u8 (a' : Int), .int .u8 (b' : Int), .int .u8 (c' : Int)])).run Try.prog w = .ok r w := by
  have hf : ∀ x y z : Nat, (Value.agg #[.int .u8 (x : Int), .int .u8 (y : Int), .int .u8 (z : Int)]).formed Try.prog 29 = true := fun x y z => by
    simp [Value.formed, Try.underlying29, cells_b3]
  obtain ⟨q, hq, hi⟩ := run_equalIn_deep (P := Try.prog) 9998 2 29 key_b3 w 2 2 _ _ _ _ (hf a b c) (hf a' b' c') (lits_b3 0 a b c h.1 h.2.1 h.2.2) (lits_b3 0 a' b' c' h'.1 h'.2.1 h'.2.2)
  have e : q = r := by
    rw [Bool.eq_iff_iff, hi, hr.out]
    simp
    omega
  rw [← e]
  exact hq
end Go.Proofs.Ythempofohidlnaa

/- Machines, compared by ==; and the machine of a state of a table is of bytes, and a machine again. -/
namespace Go.Proofs.Ythempofohidlnaa
open Go.RowKit
set_option linter.unusedVariables false
set_option linter.unusedSimpArgs false

theorem cells_b48 : Try.prog.cellsOf 30 = 48 := by kernel_rfl
theorem cells_mach : Try.prog.cellsOf 34 = 98 := by kernel_rfl
theorem cells_i64 : Try.prog.cellsOf 2 = 1 := by kernel_rfl
theorem wf_i64s (a : Nat) (h : a < 1000000) : (Lit.int .i64 (a : Int)).wf = true := by
  have h0 : IntKind.i64.min = -9223372036854775808 := by decide
  have h1 : IntKind.i64.max = 9223372036854775807 := by decide
  simp [Lit.wf, IntKind.has, h0, h1]; omega
theorem lits_i64 (d : Nat) (a : Nat) (h : a < 1000000) : Try.prog.keyLits (d + 1) 2 [.int .i64 (a : Int)] = some [.int .i64 (a : Int)] := by
  unfold Program.keyLits
  rw [Try.underlying2]
  simp [wf_i64s a h]
theorem mapM_all {α β : Type} (F : α → Option β) (G : α → β) : ∀ l : List α, (∀ a ∈ l, F a = some (G a)) → l.mapM F = some (l.map G)
  | [], _ => rfl
  | a :: l, h => by
    rw [List.mapM_cons, h a (by simp), mapM_all F G l (fun b hb => h b (by simp [hb]))]
    rfl
def lrow3 (f : Nat → Nat) (i : Nat) : List Lit := [.int .u8 (f (i * 3) : Nat), .int .u8 (f (i * 3 + 1) : Nat), .int .u8 (f (i * 3 + 2) : Nat)]
def lit48 (f : Nat → Nat) : List Lit := ((List.range 16).map (lrow3 f)).flatten
theorem cut3 {α : Type} (g : Nat → α) (i : Nat) (h : i < 16) : (((List.range 48).map g).drop (i * 3)).take 3 = [g (i * 3), g (i * 3 + 1), g (i * 3 + 2)] := by
  apply List.ext_getElem?
  intro n
  rw [List.getElem?_take]
  rcases n with _ | _ | _ | n
  · rw [if_pos (by omega), List.getElem?_drop, List.getElem?_map, List.getElem?_range (by omega)]; rfl
  · rw [if_pos (by omega), List.getElem?_drop, List.getElem?_map, List.getElem?_range (by omega)]; rfl
  · rw [if_pos (by omega), List.getElem?_drop, List.getElem?_map, List.getElem?_range (by omega)]; rfl
  · rw [if_neg (by omega)]; rfl
theorem lits_b48 (d : Nat) (f : Nat → Nat) (h : ∀ i, f i < 256) : Try.prog.keyLits (d + 3) 30 ((List.range 48).map fun i => .int .u8 (f i : Nat)) = some (lit48 f) := by
  unfold Program.keyLits
  rw [Try.underlying30]
  simp only [cells_b48, List.length_map, List.length_range, cells_b3, if_true]
  rw [mapM_all _ (lrow3 f)]
  · rfl
  · intro i hi
    rw [List.mem_range] at hi
    rw [cut3 _ i hi]
    exact lits_b3 d _ _ _ (h _) (h _) (h _)
theorem flat3_inj (f g : Nat → Nat) : ∀ l : List Nat, (l.map (lrow3 f)).flatten = (l.map (lrow3 g)).flatten ↔ ∀ i ∈ l, lrow3 f i = lrow3 g i
  | [] => by simp
  | a :: l => by
    simp only [List.map_cons, List.flatten_cons, List.mem_cons, forall_eq_or_imp]
    rw [← flat3_inj f g l]
    exact ⟨fun h => List.append_inj h rfl, fun h => by rw [h.1, h.2]⟩
theorem lit48_inj (f g : Nat → Nat) (h : lit48 f = lit48 g) : ∀ i, i < 48 → f i = g i := fun i hi => by
  have := (flat3_inj f g _).1 h (i / 3) (List.mem_range.2 (by omega))
  simp only [lrow3, List.cons.injEq, Lit.int.injEq, true_and, and_true, Int.natCast_inj] at this
  obtain ⟨h0, h1, h2⟩ := this
  rcases (show i = i / 3 * 3 ∨ i = i / 3 * 3 + 1 ∨ i = i / 3 * 3 + 2 by omega) with e | e | e
  · rw [e]; exact h0
  · rw [e]; exact h1
  · rw [e]; exact h2
theorem mcells_list (m : Mach) : (mcells m).toList = [.int .i64 m.L] ++ ([.int .i64 m.S] ++ (((List.range 48).map fun i => .int .u8 (m.nx i : Nat)) ++ ((List.range 48).map fun i => .int .u8 (m.ot i : Nat)))) := by
  apply List.ext_getElem?
  intro n
  rw [Array.getElem?_toList]
  by_cases h : n < 98
  · rw [mcells_get m n h]
    rcases n with _ | _ | n
    · rfl
    · rfl
    · rw [List.getElem?_append_right (by simp), List.getElem?_append_right (by simp)]
      simp only [List.length_cons, List.length_nil]
      rw [show n + 1 + 1 - (0 + 1) - (0 + 1) = n by omega]
      by_cases hn : n < 48
      · rw [List.getElem?_append_left (by simpa using hn)]
        simp [mf, hn]; omega
      · rw [List.getElem?_append_right (by simp; omega)]
        simp only [List.length_map, List.length_range]
        rw [List.getElem?_map, List.getElem?_range (by omega)]
        unfold mf
        rw [if_neg (by omega), if_neg (by omega), if_neg (by omega), show n + 1 + 1 - 50 = n - 48 by omega]
        rfl
  · rw [Array.getElem?_eq_none (by rw [size_mcells]; omega), List.getElem?_eq_none (by simp; omega)]
def mlits (a b : Nat) (m : Mach) : List Lit := [.int .i64 (a : Int)] ++ ([.int .i64 (b : Int)] ++ (lit48 m.nx ++ lit48 m.ot))
set_option maxRecDepth 4000 in
theorem lits_mach (d : Nat) (m : Mach) (hk : m.Ok) (a b : Nat) (ha : m.L = a) (hb : m.S = b) (ha' : a < 1000000) (hb' : b < 1000000) : Try.prog.keyLits (d + 4) 34 (mcells m).toList = some (mlits a b m) := by
  have hlen : (mcells m).toList.length = 98 := by rw [Array.length_toList, size_mcells]
  have hc := mcells_list m
  rw [ha, hb] at hc
  have hN : ((List.range 48).map fun i => Value.int .u8 (m.nx i : Nat)).length = 48 := by simp
  have hO : ((List.range 48).map fun i => Value.int .u8 (m.ot i : Nat)).length = 48 := by simp
  have kN := lits_b48 d m.nx (fun i => (hk i).1)
  have kO := lits_b48 d m.ot (fun i => (hk i).2)
  generalize (List.range 48).map (fun i => Value.int .u8 (m.nx i : Nat)) = N at *
  generalize (List.range 48).map (fun i => Value.int .u8 (m.ot i : Nat)) = O at *
  unfold Program.keyLits
  rw [Try.underlying34]
  simp only [hlen, cells_mach, if_true, true_and]
  rw [if_pos (by decide +kernel)]
  rw [hc]
  simp only [List.mapM_cons, List.mapM_nil, cells_i64, cells_b48]
  have e0 : ([Value.int .i64 (a : Int)] ++ ([Value.int .i64 (b : Int)] ++ (N ++ O))).drop 2 = N ++ O := rfl
  have e1 : ([Value.int .i64 (a : Int)] ++ ([Value.int .i64 (b : Int)] ++ (N ++ O))).drop 50 = O := by
    show (N ++ O).drop 48 = O
    rw [List.drop_append_of_le_length (by omega), List.drop_of_length_le (by omega), List.nil_append]
  have e2 : (N ++ O).take 48 = N := by rw [List.take_append_of_le_length (by omega), List.take_of_length_le (by omega)]
  have e3 : O.take 48 = O := List.take_of_length_le (by omega)
  have e4 : (([Value.int .i64 (a : Int)] ++ ([Value.int .i64 (b : Int)] ++ (N ++ O))).drop 0).take 1 = [Value.int .i64 (a : Int)] := rfl
  have e5 : (([Value.int .i64 (a : Int)] ++ ([Value.int .i64 (b : Int)] ++ (N ++ O))).drop 1).take 1 = [Value.int .i64 (b : Int)] := rfl
  rw [e0, e1, e2, e3, e4, e5, lits_i64 _ a ha', lits_i64 _ b hb', kN, kO]
  simp [mlits]
theorem mlits_inj {a b a' b' : Nat} {m k : Mach} (ha : m.L = a) (hb : m.S = b) (ha' : k.L = a') (hb' : k.S = b') : mlits a b m = mlits a' b' k ↔ mcells m = mcells k := by
  constructor
  · intro h
    unfold mlits at h
    have l1 : (lit48 m.nx).length = 48 := rfl
    have l2 : (lit48 k.nx).length = 48 := rfl
    have h1 := List.append_inj h rfl
    have h2 := List.append_inj h1.2 rfl
    have h3 := List.append_inj h2.2 (by rw [l1, l2])
    have i1 := lit48_inj _ _ h3.1
    have i2 := lit48_inj _ _ h3.2
    have e1 : a = a' := by have := h1.1; simp at this; omega
    have e2 : b = b' := by have := h2.1; simp at this; omega
    unfold mcells
    congr 1
    apply List.map_congr_left
    intro i hi
    rw [List.mem_range] at hi
    unfold mf
    rw [ha, hb, ha', hb', e1, e2]
    split
    · rfl
    · split
      · rfl
      · split
        · rw [i1 _ (by omega)]
        · rw [i2 _ (by omega)]
  · intro h
    have g : ∀ i, i < 98 → mf m i = mf k i := fun i hi => by
      have := mcells_get m i hi
      rw [h, mcells_get k i hi] at this
      exact (Option.some.inj this).symm
    have e1 : a = a' := by have := g 0 (by omega); simp [mf, ha, ha'] at this; omega
    have e2 : b = b' := by have := g 1 (by omega); simp [mf, hb, hb'] at this; omega
    have i1 : ∀ i, i < 48 → m.nx i = k.nx i := fun i hi => by
      have := g (i + 2) (by omega)
      unfold mf at this
      rw [if_neg (by omega), if_neg (by omega), if_pos (by omega), if_neg (by omega), if_neg (by omega), if_pos (by omega)] at this
      simp at this
      omega
    have i2 : ∀ i, i < 48 → m.ot i = k.ot i := fun i hi => by
      have := g (i + 50) (by omega)
      unfold mf at this
      rw [if_neg (by omega), if_neg (by omega), if_neg (by omega), if_neg (by omega), if_neg (by omega), if_neg (by omega)] at this
      simp at this
      omega
    unfold mlits lit48
    rw [e1, e2]
    congr 3
    · congr 1
      apply List.map_congr_left
      intro i hi
      rw [List.mem_range] at hi
      unfold lrow3
      rw [i1 _ (by omega), i1 _ (by omega), i1 _ (by omega)]
    · congr 1
      apply List.map_congr_left
      intro i hi
      rw [List.mem_range] at hi
      unfold lrow3
      rw [i2 _ (by omega), i2 _ (by omega), i2 _ (by omega)]
/-- Two machines. -/
theorem eq_mach (w : World) (m k : Mach) (hm : m.Ok) (hk : k.Ok) (a b a' b' : Nat) (ha : m.L = a) (hb : m.S = b) (ha' : k.L = a') (hb' : k.S = b') (la : a < 1000000) (lb : b < 1000000) (la' : a' < 1000000) (lb' : b' < 1000000) (r : Bool) (hr : Tells r (mcells m = mcells k)) :
    (Op.equalIn 10000 34 (.agg (mcells m)) (.agg (mcells k))).run Try.prog w = .ok r w := by
  have hf : ∀ m : Mach, (Value.agg (mcells m)).formed Try.prog 34 = true := fun m => by
    simp [Value.formed, Try.underlying34, cells_mach, size_mcells]
  obtain ⟨q, hq, hi⟩ := run_equalIn_deep (P := Try.prog) 9995 5 34 key_mach w 4 4 _ _ _ _ (hf m) (hf k) (lits_mach 0 m hm a b ha hb la lb) (lits_mach 0 k hk a' b' ha' hb' la' lb')
  have e : q = r := by
    rw [Bool.eq_iff_iff, hi, hr.out, mlits_inj ha hb ha' hb']
  rw [← e]
  exact hq

section
variable {T : Tab}
/-- The machine of a state of a table. -/
theorem fin_lt (hT : T.Ok) {q : Nat} (hq : q < T.n) {s : Nat} (hs : s ∈ fin T (fix T) q) : s < T.n := (bfs_uniq hT (fun q hq => fix_lt q hq) q hq T.n).2 s hs
theorem gth_nx (hT : T.Ok) {q : Nat} (hq : q < T.n) (p : Nat) : (gth T (fix T) (fin T (fix T) q)).nx p ≤ (fin T (fix T) q).length ∧ (p / 3 < (fin T (fix T) q).length → p % 3 < T.L → (gth T (fix T) (fin T (fix T) q)).nx p < (fin T (fix T) q).length) := by
  have hp := fin_pos T (fix T) q
  unfold gth gthP
  dsimp only
  split
  · rename_i h
    have hi : p / 3 < (fin T (fix T) q).length := by omega
    have hs : (fin T (fix T) q).getD (p / 3) 0 ∈ fin T (fix T) q := by
      rw [List.getD_eq_getElem?_getD, List.getElem?_eq_getElem hi]; exact List.getElem_mem hi
    have := mem_idxOf_lt (fin_closed hT (c := fix T) (fun q hq => fix_lt q hq) hq _ hs (p % 3) h.2)
    exact ⟨Nat.le_of_lt this, fun _ _ => this⟩
  · rename_i h
    exact ⟨Nat.zero_le _, fun h1 h2 => absurd ⟨.inl h1, h2⟩ h⟩
theorem gth_ot (hT : T.Ok) {q : Nat} (hq : q < T.n) {N : Nat} (hN : 0 < N) (hot : ∀ q x, q < T.n → x < T.L → T.ot q x < N) (p : Nat) : (gth T (fix T) (fin T (fix T) q)).ot p < N := by
  unfold gth gthP
  dsimp only
  split
  · rename_i h
    refine hot _ _ ?_ h.2
    have hi : p / 3 < (fin T (fix T) q).length := by omega
    rw [List.getD_eq_getElem?_getD, List.getElem?_eq_getElem hi]
    exact fin_lt hT hq (List.getElem_mem hi)
  · exact hN
theorem fromM_ok (hT : T.Ok) {q : Nat} (hq : q < T.n) (hot : ∀ q x, q < T.n → x < T.L → T.ot q x < 256) : (fromM T q).Ok := by
  unfold fromM
  split
  · rename_i h
    intro p
    exact ⟨by have := (gth_nx hT hq p).1; omega, gth_ot hT hq (by omega) hot p⟩
  · exact fun p => ⟨by show 0 < 256; omega, by show 0 < 256; omega⟩
theorem fromM_L (T : Tab) (q : Nat) : ∃ a : Nat, (fromM T q).L = a ∧ a ≤ T.L := by
  unfold fromM; split
  · exact ⟨T.L, rfl, Nat.le_refl _⟩
  · exact ⟨0, rfl, Nat.zero_le _⟩
theorem fromM_S (T : Tab) (q : Nat) : ∃ a : Nat, (fromM T q).S = a ∧ a ≤ 16 := by
  unfold fromM; split
  · rename_i h; exact ⟨_, rfl, h⟩
  · exact ⟨0, rfl, Nat.zero_le _⟩
/-- .. is a machine, where the table's rows are permutations. -/
theorem fromM_good (hT : T.Ok) {q : Nat} (hq : q < T.n) (h2 : 2 ≤ T.L) (h3 : T.L ≤ 3) (hot : ∀ q x, q < T.n → x < T.L → T.ot q x < T.L) (hinj : ∀ q, q < T.n → ∀ y x, y < x → x < T.L → T.ot q y ≠ T.ot q x) (hc : fromC T q = 0) :
    ∃ s, Good (fromM T q) T.L s := by
  have h : (fin T (fix T) q).length ≤ 16 := by
    unfold fromC at hc
    split at hc
    · assumption
    · cases hc
  refine ⟨(fin T (fix T) q).length, ?_⟩
  have hg : fromM T q = gth T (fix T) (fin T (fix T) q) := by unfold fromM; rw [if_pos h]
  rw [hg]
  have hat : ∀ r, r < (fin T (fix T) q).length → (fin T (fix T) q).getD r 0 < T.n := fun r hr => by
    rw [List.getD_eq_getElem?_getD, List.getElem?_eq_getElem hr]
    exact fin_lt hT hq (List.getElem_mem hr)
  refine ⟨rfl, rfl, h2, h3, fin_pos _ _ _, h, ?_, ?_, ?_, ?_⟩
  · intro r x hr hx
    exact (gth_nx hT hq _).2 (by omega) (by omega)
  · intro r x hr hx
    exact gth_ot hT hq (by omega) hot _
  · intro r hr y x hy hx
    unfold gth gthP
    dsimp only
    rw [if_pos (by omega), if_pos (by omega), show (r * 3 + y) / 3 = r by omega, show (r * 3 + x) / 3 = r by omega, show (r * 3 + y) % 3 = y by omega, show (r * 3 + x) % 3 = x by omega]
    exact hinj _ (hat r hr) y x hy hx
  · intro r x hr hx hn
    unfold gth gthP
    dsimp only
    rw [if_neg (by omega), if_neg (by omega)]
    exact ⟨rfl, rfl⟩
theorem tabOf_ot {m : Mach} {l s : Nat} (g : Good m l s) : ∀ q x, q < (tabOf m l s).n → x < (tabOf m l s).L → (tabOf m l s).ot q x < (tabOf m l s).L := fun q x hq hx => g.ot q x hq hx
theorem tabOf_inj {m : Mach} {l s : Nat} (g : Good m l s) : ∀ q, q < (tabOf m l s).n → ∀ y x, y < x → x < (tabOf m l s).L → (tabOf m l s).ot q y ≠ (tabOf m l s).ot q x := fun q hq y x hy hx => g.inj q hq y x hy hx
end
end Go.Proofs.Ythempofohidlnaa
