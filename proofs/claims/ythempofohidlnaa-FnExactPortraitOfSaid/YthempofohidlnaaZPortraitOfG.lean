/- What the proof of PortraitOf leans on, part 7 of 12. -/
import Derived.Test.YthempofohidlnaaZPortraitOfF
import Derived.WalkSpells
/- A slice of numbers as an argument, and lists of any length that may be handed in. -/
namespace Go.Proofs.Ythempofohidlnaa
open Go.RowKit
set_option linter.unusedVariables false
set_option linter.unusedSimpArgs false
-- @LONG

/-- A slice of numbers that was handed in. -/
def ArgI (W : World) (v : Value) (l : List Int) : Prop :=
  ∃ A c, v = .slice A l.length c ∧ ((A = none ∧ l = []) ∨ ∃ a : Addr, A = some a ∧ ∀ i x, l[i]? = some x → W.cell? (a.add i) = some (.int .i64 x) ∧ (a.add i).block < W.heap.size)
theorem ArgI.below {W W' : World} {v : Value} {l : List Int} (h : ArgI W v l) (hb : Below W.heap.size W W') : ArgI W' v l := by
  obtain ⟨A, c, rfl, h | ⟨a, rfl, hc⟩⟩ := h
  · exact ⟨A, c, rfl, .inl h⟩
  · exact ⟨_, c, rfl, .inr ⟨a, rfl, fun i x hx => ⟨(hb.cell (hc i x hx).2).trans (hc i x hx).1, Nat.lt_of_lt_of_le (hc i x hx).2 hb.size⟩⟩⟩
theorem cellsL_i64 : Try.prog.cellsOf 2 = 1 := by kernel_rfl
theorem readable_ints : Try.prog.readableRec 22 = true := by kernel_rfl
theorem cell_lt {W : World} {a : Addr} {v : Value} (h : W.cell? a = some v) : a.block < W.heap.size := by
  rcases Nat.lt_or_ge a.block W.heap.size with h1 | h1
  · exact h1
  · exfalso
    unfold World.cell? at h
    rw [Array.getElem?_eq_none h1] at h
    simp at h
set_option maxRecDepth 1000000 in
theorem open_argI {H : Type} {enc : TypeId × Value → H} {W : World} {b0 : Nat} {v : Value} {d : DataW H} {p : List MemPlace} (hval : Value.okWide Try.prog W .any b0 22 v) (h : DataW.Trod enc Try.prog W 0 (fun _ => true) true 22 v d p) : ∃ l, ArgI W v l := by
  obtain ⟨a0, len, cap, rfl⟩ := Go.WideShapes.okWide_slice Try.underlying22 hval
  obtain ⟨fuel, hf⟩ := h
  rcases Go.ChangeShapes.open_ints Try.underlying22 Try.underlying2 cellsL_i64 hf with ⟨hcs, _⟩ | ⟨a, len', cap', zs, hcs, _, hl, _, hz, _, hcell, _⟩
  · simp [Value.cells] at hcs
    obtain ⟨rfl, rfl, rfl⟩ := hcs
    exact ⟨[], none, 0, rfl, .inl ⟨rfl, rfl⟩⟩
  · simp [Value.cells] at hcs
    obtain ⟨rfl, rfl, rfl⟩ := hcs
    simp only [if_true] at hz
    have hlen : (zs.take len).length = len := by rw [List.length_take]; omega
    refine ⟨zs.take len, some a, cap, by rw [hlen], .inr ⟨a, rfl, fun i x hx => ?_⟩⟩
    have hi := (List.getElem?_eq_some_iff.1 hx).1
    rw [hlen] at hi
    rw [List.getElem?_take_of_lt hi] at hx
    have hc := hcell i (by omega)
    rw [List.getD_eq_getElem?_getD, hx] at hc
    exact ⟨hc, cell_lt hc⟩
theorem Own.litL (w : World) (base e : Nat) (cs : List Value) (hb : base ≤ w.heap.size) (hm : cs.length ≤ 4000000) :
    Own (w.alloc (.cells cs.toArray e)) base e (.slice (some ⟨w.heap.size, 0, none⟩) cs.length cs.length) cs := by
  have := World.ownsRow_lit (base := base) (e := e) (size := 1) w cs.toArray cs.length hb (by simp only [maxLen]; omega) (by simp)
  simpa [Own] using this
theorem St.newArrL {base : Nat} {w0 w : World} {L : List Asn} (h : St base w0 L w) (cs : Array Value) (n : Nat) (hn : cs.size = n) (t : Nat) (hm : n ≤ 4000000) : St base w0 (Asn.own base t (.slice (some ⟨w.heap.size, 0, none⟩) n n) cs.toList :: L) (w.alloc (.cells cs t)) := by
  subst hn
  have hl : cs.toList.length = cs.size := Array.length_toList
  have := h.allocPush (a := Asn.own base t (.slice (some ⟨w.heap.size, 0, none⟩) cs.toList.length cs.toList.length) cs.toList) (.cells cs t) (Own.litL w base t cs.toList h.le (by rw [hl]; exact hm)) fun k hk => by
    have : w.heap.size = k := by simpa [Asn.own, Value.ownBlock] using hk
    exact this.symm
  rw [hl] at this
  exact this
set_option maxHeartbeats 4000000 in
set_option maxRecDepth 100000 in
theorem eqInt64SL_any (w : World) (b1 b2 : Nat) (v1 v2 : Value) (l : List Int) (h1 : Own w b1 2 v1 (ints l)) (h2 : Own w b2 2 v2 (ints l)) (hl : l.length < 4000000) :
    Calls Try.prog 18 #[v1, v2] w fun e w' => e = .returned (.bool true) ∧ Below w.heap.size w w' := by
  have hil := ints_length l
  by_cases hne : l = []
  · subst hne
    obtain ⟨A1, c1, rfl, _, _⟩ := h1.form
    obtain ⟨A2, c2, rfl, _, _⟩ := h2.form
    rw [hil]
    clear h1 h2
    go_enter Try.func18, Try.ntmps18
    go_wp2
    go_loopw [5] (fun i wr => i = .int .i64 0 ∧ wr = w) (fun _ _ => 0)
    case atStart => exact ⟨rfl, rfl⟩
    case round =>
      obtain ⟨rfl, rfl⟩ := hrel
      go_wp2
      go_ret
      exact ⟨rfl, Below.refl _ _⟩
  · have hne' : ints l ≠ [] := fun e => hne (by rw [← List.length_eq_zero_iff, ← hil, e]; rfl)
    obtain ⟨g1, c1, rfl, _, hg1⟩ := h1.blk hne'
    obtain ⟨g2, c2, rfl, _, hg2⟩ := h2.blk hne'
    rw [hil] at *
    have hget := hid (fun (k : Nat) (x : Int) (hx : l[k]? = some x) => (show (ints l)[k]? = some (.int .i64 x) by simp [ints, hx]))
    replace h1 := hid h1
    replace h2 := hid h2
    clear hne hne' hil
    generalize hn : l.length = n at *
    go_enter Try.func18, Try.ntmps18
    go_wp2
    go_loopw [5] (fun i wr => ∃ k : Nat, k ≤ n ∧ i = .int .i64 k ∧ Below w.heap.size w wr) (fun i _ => n - (intOf i).toNat)
    case atStart => exact ⟨0, Nat.zero_le _, rfl, Below.refl _ _⟩
    case round =>
      obtain ⟨k, hk, rfl, rB⟩ := hrel
      replace rB := hid rB
      by_cases hlt : k < n
      · obtain ⟨x, hx⟩ : ∃ x, l[k]? = some x := ⟨_, List.getElem?_eq_getElem (by omega)⟩
        have d1 := (h1.out.below rB.out).cellAt k _ (hget.out k x hx)
        have d2 := (h2.out.below rB.out).cellAt k _ (hget.out k x hx)
        go_upto_region 6 with (fail)
        go_quiet (fail)
        go_wp2
        go_roundw
        case rel => exact ⟨k + 1, by omega, by go_num, below_drewN rB.out _⟩
        case measure => simp [intOf]; omega
      · obtain rfl : k = n := by omega
        go_wp2
        go_ret
        exact ⟨rfl, rB.out⟩
set_option maxHeartbeats 4000000 in
set_option maxRecDepth 100000 in
theorem markInt64SL_any (w : World) (base : Nat) (v : Value) (cs : List Value) (n k : Nat) (hn : cs.length = n) (h : Own w base 2 v cs) (hl : n + k < 4000000) :
    Calls Try.prog 19 #[v, .int .i64 k] w fun e w' => e = .returned (.int .i64 ((k + n : Nat) : Int)) ∧ Own w' base 2 v (marks k n) ∧ Below base w w' := by
  by_cases hne : n = 0
  · subst hne
    obtain ⟨A1, c1, rfl, _, _⟩ := h.form
    have hcs := List.eq_nil_of_length_eq_zero hn
    rw [hn]
    have hm : marks k 0 = cs := by rw [hcs]; rfl
    rw [hm]
    rw [hn] at h
    replace h := hid h
    go_enter Try.func19, Try.ntmps19
    go_wp2
    go_loopw [1, 5] (fun i j wr => i = .int .i64 k ∧ j = .int .i64 0 ∧ wr = w) (fun _ _ _ => 0)
    case atStart => exact ⟨rfl, rfl, rfl⟩
    case round =>
      obtain ⟨rfl, rfl, rfl⟩ := hrel
      go_wp2
      go_ret
      exact ⟨rfl, h.out, Below.refl _ _⟩
  · obtain ⟨g, c, rfl, hb, hg⟩ := h.blk (fun e => hne (by rw [← hn, e]; rfl))
    rw [hn] at h ⊢
    replace h := hid h
    go_enter Try.func19, Try.ntmps19
    go_wp2
    go_loopw [1, 5] (fun q i wr => ∃ j : Nat, j ≤ n ∧ i = .int .i64 j ∧ q = .int .i64 ((k + j : Nat) : Int) ∧ Own wr base 2 (.slice (some ⟨g, 0, none⟩) n c) (marks k j ++ cs.drop j) ∧ Below base w wr) (fun _ i _ => n - (intOf i).toNat)
    case atStart => exact ⟨0, Nat.zero_le _, rfl, rfl, h.out, Below.refl _ _⟩
    case round =>
      obtain ⟨j, hj, rfl, rfl, r1, rB⟩ := hrel
      have hjl : (marks k j ++ cs.drop j).length = n := by rw [List.length_append, marks_length, List.length_drop]; omega
      by_cases hlt : j < n
      · have hst := hid (mark_step k j n cs hn hlt)
        obtain ⟨u, hu⟩ : ∃ u, (marks k j ++ cs.drop j)[j]? = some u := ⟨_, List.getElem?_eq_getElem (by omega)⟩
        have co := r1.cellAt j u hu
        have fo := r1.frozenAt hjl j
        have y1 := hid (r1.set hjl j (.int .i64 ((k + j : Nat) : Int)) hlt)
        have yB := hid (rB.setCell (p := ⟨g, j, none⟩) hb (.int .i64 ((k + j : Nat) : Int)))
        clear h r1 rB hu
        replace hjl := hid hjl
        have e1 : ((k + j : Nat) : Int) + 1 = ((k + (j + 1) : Nat) : Int) := by omega
        have e2 : ((k + j : Nat) : Int) < 4000000 := by omega
        have e3 : 0 ≤ ((k + j : Nat) : Int) := by omega
        generalize hkj : ((k + j : Nat) : Int) = kj at *
        go_wp2
        go_roundw
        case rel => exact ⟨j + 1, by omega, by go_num, by go_num, by rw [← hst.out]; exact y1.out, yB.out⟩
        case measure => simp [intOf]; omega
      · obtain rfl : j = n := by omega
        have hm : marks k j ++ cs.drop j = marks k j := by rw [← hn, List.drop_length, List.append_nil]
        rw [hm] at r1
        replace r1 := hid r1
        replace rB := hid rB
        clear h
        go_wp2
        go_ret
        exact ⟨rfl, r1.out, rB.out⟩
set_option maxHeartbeats 4000000 in
set_option maxRecDepth 100000 in
theorem heldInt64SL_any (w : World) (base : Nat) (v : Value) (n k : Nat) (h : Own w base 2 v (marks k n)) (hl : n + k < 4000000) :
    Calls Try.prog 20 #[v, .int .i64 k] w fun e w' => e = .returned (.int .i64 ((k + n : Nat) : Int)) ∧ w = w' := by
  have hml := marks_length k n
  by_cases hne : n = 0
  · subst hne
    obtain ⟨A1, c1, rfl, _, _⟩ := h.form
    rw [hml]
    clear h
    go_enter Try.func20, Try.ntmps20
    go_wp2
    go_loop [1, 5] (fun i j => i = .int .i64 k ∧ j = .int .i64 0) (fun _ _ => 0)
    case atStart => exact ⟨rfl, rfl⟩
    case round =>
      obtain ⟨rfl, rfl⟩ := hrel
      go_wp2
      go_ret
      exact ⟨rfl, rfl⟩
  · obtain ⟨g, c, rfl, hb, hg⟩ := h.blk (fun e => hne (by rw [← hml, e]; rfl))
    rw [hml] at h ⊢
    replace h := hid h
    go_enter Try.func20, Try.ntmps20
    go_wp2
    go_loop [1, 5] (fun q i => ∃ j : Nat, j ≤ n ∧ i = .int .i64 j ∧ q = .int .i64 ((k + j : Nat) : Int)) (fun _ i => n - (intOf i).toNat)
    case atStart => exact ⟨0, Nat.zero_le _, rfl, rfl⟩
    case round =>
      obtain ⟨j, hj, rfl, rfl⟩ := hrel
      by_cases hlt : j < n
      · have co := h.out.cellAt j _ (marks_get k n j hlt)
        have e1 : ((k + j : Nat) : Int) + 1 = ((k + (j + 1) : Nat) : Int) := by omega
        have e2 : ((k + j : Nat) : Int) < 4000000 := by omega
        have e3 : 0 ≤ ((k + j : Nat) : Int) := by omega
        generalize hkj : ((k + j : Nat) : Int) = kj at *
        go_wp2
        go_round
        case rel => exact ⟨j + 1, by omega, by go_num, by go_num⟩
        case measure => simp [intOf]; omega
      · obtain rfl : j = n := by omega
        go_wp2
        go_ret
        exact ⟨rfl, rfl⟩
theorem mark1L (w : World) (base : Nat) (v : Value) (cs : List Value) (n : Nat) (hn : cs.length = n) (h : Own w base 2 v cs) (hl : n < 3999999) :
    Calls Try.prog 19 #[v, .int .i64 1] w fun e w' => e = .returned (.int .i64 ((n : Int) + 1)) ∧ Own w' base 2 v (marks 1 n) ∧ Below base w w' :=
  (markInt64SL_any w base v cs n 1 hn h (by omega)).mono fun e w' ⟨h1, h2⟩ => ⟨h1.trans (retI (by omega)), h2⟩
theorem held1L (w : World) (base : Nat) (v : Value) (n : Nat) (h : Own w base 2 v (marks 1 n)) (hl : n < 3999999) :
    Calls Try.prog 20 #[v, .int .i64 1] w fun e w' => e = .returned (.int .i64 ((n : Int) + 1)) ∧ w = w' :=
  (heldInt64SL_any w base v n 1 h (by omega)).mono fun e w' ⟨h1, h2⟩ => ⟨h1.trans (retI (by omega)), h2⟩
set_option maxHeartbeats 2000000 in
set_option maxRecDepth 100000 in
theorem toInt64S_any (w : World) (v : Value) (l : List Int) (h : ArgI w v l) (hl : l.length ≤ 2000000) :
    Calls Try.prog 16 #[v] w fun e w' => ∃ v', e = .returned v' ∧ Own w' w.heap.size 2 v' (ints l) ∧ Below w.heap.size w w' := by
  obtain ⟨A, c, rfl, hA⟩ := h
  have hcell := hid (fun (k : Nat) (x : Int) (hx : l[k]? = some x) => (show ∃ a : Addr, A = some a ∧ ∀ W, Below w.heap.size w W → W.cell? (a.add k) = some (.int .i64 x) from by
    rcases hA with ⟨_, rfl⟩ | ⟨a, rfl, hc⟩
    · simp at hx
    · exact ⟨a, rfl, fun W hW => (hW.cell (hc k x hx).2).trans (hc k x hx).1⟩))
  clear hA
  have hmk := fun W : World => run_make_row' (P := Try.prog) 22 2 (.int .i64 0) 8 Try.underlying22 info_i64 rfl .i64 .i64 l.length (by omega) (by omega) W
  have hmc := hid (toList_madeCells_one (.int .i64 0) l.length)
  generalize madeCells #[.int .i64 0] l.length = mc at *
  have hmcs := hid (show mc.size = l.length by rw [← Array.length_toList, hmc.out, List.length_replicate])
  have hS := (St.start w).newArrL mc l.length hmcs.out 2 (by omega)
  rw [hmc.out, ← wr0_nil l.length] at hS
  replace hS := hid (show St w.heap.size w [Asn.own w.heap.size 2 (.slice (some ⟨w.heap.size, 0, none⟩) l.length l.length) (ints (wr0 (l.take 0) l.length))] _ from hS)
  have hfull := hid (show l = wr0 (l.take l.length) l.length by rw [List.take_length]; exact (wr0_full l).symm)
  have hst := hid (fun k x (hx : l[k]? = some x) => (show (ints (wr0 (l.take k) l.length)).set k (.int .i64 x) = ints (wr0 (l.take (k + 1)) l.length) from by
    have hk := (List.getElem?_eq_some_iff.1 hx).1
    have hlk : (l.take k).length = k := by rw [List.length_take]; omega
    have h := wr0_set (l.take k) l.length (by rw [hlk]; exact hk) x
    rw [hlk] at h
    rw [List.take_add_one, hx, Option.toList_some, ← h]; simp [ints, List.map_set]))
  have hwl := hid (fun k (hk : k ≤ l.length) => (show (ints (wr0 (l.take k) l.length)).length = l.length by rw [ints_length]; exact wr0_length _ _ (by rw [List.length_take]; omega)))
  generalize hgo : w.heap.size = go at *
  replace hgo := hid hgo
  clear hmc
  generalize hn : l.length = n at *
  replace hn := hid hn
  go_enter Try.func16, Try.ntmps16
  go_upto_region 2 with (fail)
  rw [hgo.out]
  generalize w.alloc (.cells mc 2) = W1 at *
  clear hmk
  go_wp2
  go_loopw [4] (fun i wr => ∃ k : Nat, k ≤ n ∧ i = .int .i64 k ∧ St go w [Asn.own go 2 (.slice (some ⟨go, 0, none⟩) n n) (ints (wr0 (l.take k) n))] wr) (fun i _ => n - (intOf i).toNat)
  case atStart => exact ⟨0, Nat.zero_le _, rfl, hS.out⟩
  case round =>
    obtain ⟨k, hk, rfl, rS⟩ := hrel
    clear hS
    replace rS := hid rS
    by_cases hkn : k < n
    · have dc : decide ((k : Int) < (n : Int)) = true := decide_eq_true (by omega)
      obtain ⟨x, hx⟩ : ∃ x, l[k]? = some x := ⟨_, List.getElem?_eq_getElem (by rw [hn.out]; exact hkn)⟩
      obtain ⟨a, rfl, hc⟩ := hcell.out k x hx
      have hs2 := hid (hst.out k x hx)
      have k0 : (0 : Int) ≤ (k : Int) := Int.natCast_nonneg _
      have k1 : (k : Int) < (n : Int) := by omega
      replace hc := hid hc
      have hl1 := hid (hwl.out k hk)
      obtain ⟨c0, hc0⟩ : ∃ z, (ints (wr0 (l.take k) n))[k]? = some z := ⟨_, List.getElem?_eq_getElem (by rw [hl1.out]; exact hkn)⟩
      have co := Own.cellAt rS.out.o0 k _ hc0
      have fo := Own.frozenAt rS.out.o0 hl1.out k
      have d1 := hc.out wr (by have h := rS.out.bel; exact h)
      have rS2 := hid (rS.out.setOwn hl1.out k (.int .i64 x) hkn)
      rw [hs2.out] at rS2
      clear hx hc0 hc
      go_wp2
      go_roundw
      case rel => exact ⟨k + 1, by omega, by go_num, rS2.out⟩
      case measure => simp [intOf]; omega
    · obtain rfl : k = n := by omega
      have dc : decide ((k : Int) < (k : Int)) = false := decide_eq_false (by omega)
      go_wp2
      go_ret
      exact ⟨_, rfl, by have h := rS.out.o0; rw [← hfull.out] at h; exact h, rS.out.bel⟩
end Go.Proofs.Ythempofohidlnaa

/- Marking one of several slices. -/
namespace Go.Proofs.Ythempofohidlnaa
open Go.RowKit
set_option linter.unusedVariables false
set_option linter.unusedSimpArgs false

set_option maxHeartbeats 1000000 in
set_option maxRecDepth 100000 in
theorem markS_any (base : Nat) (w0 : World) (L : List Asn) (w : World) (v : Value) (cs : List Value) (n k : Nat) (hn : cs.length = n) (hS : St base w0 (Asn.own base 2 v cs :: L) w) (hl : n + k < 4000000) :
    Calls Try.prog 19 #[v, .int .i64 k] w fun e w' => e = .returned (.int .i64 ((k + n : Nat) : Int)) ∧ St base w0 (Asn.own base 2 v (marks k n) :: L) w' := by
  have h := hS.o0
  by_cases hne : n = 0
  · subst hne
    obtain ⟨A1, c1, rfl, _, _⟩ := h.form
    have hcs := List.eq_nil_of_length_eq_zero hn
    rw [hn]
    have hm : marks k 0 = cs := by rw [hcs]; rfl
    rw [hm]
    rw [hn] at hS
    replace hS := hid hS
    clear h
    go_enter Try.func19, Try.ntmps19
    go_wp2
    go_loopw [1, 5] (fun i j wr => i = .int .i64 k ∧ j = .int .i64 0 ∧ wr = w) (fun _ _ _ => 0)
    case atStart => exact ⟨rfl, rfl, rfl⟩
    case round =>
      obtain ⟨rfl, rfl, rfl⟩ := hrel
      go_wp2
      go_ret
      exact ⟨rfl, hS.out⟩
  · obtain ⟨g, c, rfl, hb, hg⟩ := h.blk (fun e => hne (by rw [← hn, e]; rfl))
    rw [hn] at hS ⊢
    clear h
    replace hS := hid hS
    go_enter Try.func19, Try.ntmps19
    go_wp2
    go_loopw [1, 5] (fun q i wr => ∃ j : Nat, j ≤ n ∧ i = .int .i64 j ∧ q = .int .i64 ((k + j : Nat) : Int) ∧ St base w0 (Asn.own base 2 (.slice (some ⟨g, 0, none⟩) n c) (marks k j ++ cs.drop j) :: L) wr) (fun _ i _ => n - (intOf i).toNat)
    case atStart => exact ⟨0, Nat.zero_le _, rfl, rfl, hS.out⟩
    case round =>
      obtain ⟨j, hj, rfl, rfl, rS⟩ := hrel
      have r1 := rS.o0
      have hjl : (marks k j ++ cs.drop j).length = n := by rw [List.length_append, marks_length, List.length_drop]; omega
      by_cases hlt : j < n
      · have hst := hid (mark_step k j n cs hn hlt)
        obtain ⟨u, hu⟩ : ∃ u, (marks k j ++ cs.drop j)[j]? = some u := ⟨_, List.getElem?_eq_getElem (by omega)⟩
        have co := r1.cellAt j u hu
        have fo := r1.frozenAt hjl j
        have y1 := hid (rS.setOwn hjl j (.int .i64 ((k + j : Nat) : Int)) hlt)
        clear hS r1 rS hu
        replace hjl := hid hjl
        have e1 : ((k + j : Nat) : Int) + 1 = ((k + (j + 1) : Nat) : Int) := by omega
        have e2 : ((k + j : Nat) : Int) < 4000000 := by omega
        have e3 : 0 ≤ ((k + j : Nat) : Int) := by omega
        generalize hkj : ((k + j : Nat) : Int) = kj at *
        go_wp2
        go_roundw
        case rel => exact ⟨j + 1, by omega, by go_num, by go_num, by rw [← hst.out]; exact y1.out⟩
        case measure => simp [intOf]; omega
      · obtain rfl : j = n := by omega
        have hm : marks k j ++ cs.drop j = marks k j := by rw [← hn, List.drop_length, List.append_nil]
        rw [hm] at rS
        clear r1 hS
        replace rS := hid rS
        go_wp2
        go_ret
        exact ⟨rfl, rS.out⟩
theorem markS1 (base : Nat) (w0 : World) (L : List Asn) (w : World) (v : Value) (cs : List Value) (n : Nat) (hn : cs.length = n) (hS : St base w0 (Asn.own base 2 v cs :: L) w) (hl : n < 3999999) :
    Calls Try.prog 19 #[v, .int .i64 1] w fun e w' => e = .returned (.int .i64 ((n : Int) + 1)) ∧ St base w0 (Asn.own base 2 v (marks 1 n) :: L) w' :=
  (markS_any base w0 L w v cs n 1 hn hS (by omega)).mono fun e w' ⟨h1, h2⟩ => ⟨h1.trans (retI (by omega)), h2⟩
end Go.Proofs.Ythempofohidlnaa

/- Portraits: permutations of letters, and lists of their numbers. -/
namespace Go.Proofs.Ythempofohidlnaa
open Go.RowKit
set_option linter.unusedVariables false
set_option linter.unusedSimpArgs false

/-- All permutations of d letters, by their numbers. -/
def prms (d : Nat) : List (List Int) := if d = 2 then [[0, 1], [1, 0]] else [[0, 1, 2], [0, 2, 1], [1, 0, 2], [1, 2, 0], [2, 0, 1], [2, 1, 0]]
def cnt (d : Nat) : Nat := if d = 2 then 2 else 6
theorem prms_length (d : Nat) : (prms d).length = cnt d := by unfold prms cnt; split <;> rfl
/-- The number of words of the levels less than k. -/
def start (d : Nat) : Nat → Nat
  | 0 => 0
  | k + 1 => start d k + pw d k
theorem start_pw (d : Nat) (hd : 1 ≤ d) : ∀ k, start d k * (d - 1) + 1 = pw d k
  | 0 => by simp [start, pw]
  | k + 1 => by
    have h := start_pw d hd k
    obtain ⟨e, rfl⟩ : ∃ e, d = e + 1 := ⟨d - 1, by omega⟩
    simp only [Nat.add_sub_cancel, start, pw] at h ⊢
    rw [Nat.add_mul, Nat.mul_add, Nat.mul_one]
    omega
theorem start_div (d : Nat) (hd : 2 ≤ d) (k : Nat) : (pw d k - 1) / (d - 1) = start d k := by
  rw [← start_pw d (by omega) k, Nat.add_sub_cancel, Nat.mul_div_cancel _ (by omega)]
/-- What a function makes of the words of the levels less than k. -/
def byL (d : Nat) (F : List Nat → Int) : Nat → List Int
  | 0 => []
  | k + 1 => byL d F k ++ (List.range (pw d k)).map fun j => F (wrd d k j)
theorem byL_length (d : Nat) (F : List Nat → Int) : ∀ k, (byL d F k).length = start d k
  | 0 => rfl
  | k + 1 => by simp [byL, start, byL_length d F k]
theorem byL_get (d : Nat) (F : List Nat → Int) (k j : Nat) (hj : j < pw d k) : ∀ n, k < n → (byL d F n)[start d k + j]? = some (F (wrd d k j))
  | 0, h => absurd h (Nat.not_lt_zero _)
  | n + 1, h => by
    by_cases e : k = n
    · subst e
      rw [byL, List.getElem?_append_right (by rw [byL_length]; omega), byL_length, show start d k + j - start d k = j by omega]
      simp [hj]
    · have ih := byL_get d F k j hj n (by omega)
      rw [byL, List.getElem?_append_left (List.getElem?_eq_some_iff.1 ih).1]
      exact ih
theorem byL_congr (d : Nat) (F G : List Nat → Int) (n : Nat) (h : ∀ k, k < n → ∀ j, j < pw d k → F (wrd d k j) = G (wrd d k j)) : byL d F n = byL d G n := by
  induction n with
  | zero => rfl
  | succ n ih =>
    rw [byL, byL, ih fun k hk => h k (by omega)]
    congr 1
    exact List.map_congr_left fun j hj => h n (by omega) j (List.mem_range.1 hj)
/-- Is g a portrait? -/
def IsP (d n : Nat) (g : List Int) : Prop := g.length = start d n ∧ ∀ k ∈ g, 0 ≤ k ∧ k < (cnt d : Int)
/-- Are letters and depth in their ranges? -/
def IsD (d n : Int) : Prop := (2 ≤ d ∧ d ≤ 3) ∧ 1 ≤ n ∧ n ≤ 4
instance (d n : Int) : Decidable (IsD d n) := by unfold IsD; infer_instance
instance (d n : Nat) (g : List Int) : Decidable (IsP d n g) := by unfold IsP; infer_instance
/-- The code of portraits. -/
def pcode (d n : Int) (L : List (List Int)) : Int := if IsD d n then (if ∀ g ∈ L, IsP d.toNat n.toNat g then 0 else 1) else 2
theorem IsD.nat {d n : Int} (h : IsD d n) : ∃ (a b : Nat), d = a ∧ n = b ∧ (a = 2 ∨ a = 3) ∧ 1 ≤ b ∧ b ≤ 4 := by
  obtain ⟨⟨h1, h2⟩, h3, h4⟩ := h
  exact ⟨d.toNat, n.toNat, by omega, by omega, by omega, by omega, by omega⟩
theorem start_le {d n : Nat} (hd : d = 2 ∨ d = 3) (hn : n ≤ 4) : start d n ≤ 40 ∧ pw d n ≤ 81 := by
  have : n = 0 ∨ n = 1 ∨ n = 2 ∨ n = 3 ∨ n = 4 := by omega
  rcases hd with rfl | rfl <;> rcases this with rfl | rfl | rfl | rfl | rfl <;> decide
theorem start_mono (d : Nat) (k : Nat) : ∀ j, start d k ≤ start d (k + j)
  | 0 => Nat.le_refl _
  | j + 1 => Nat.le_trans (start_mono d k j) (Nat.le_add_right _ _)
theorem pw5 {d n : Nat} (hd : d = 2 ∨ d = 3) (hn : n ≤ 5) : pw d n ≤ 243 := by
  have : n = 0 ∨ n = 1 ∨ n = 2 ∨ n = 3 ∨ n = 4 ∨ n = 5 := by omega
  rcases hd with rfl | rfl <;> rcases this with rfl | rfl | rfl | rfl | rfl | rfl <;> decide
/-- The words of a level in part. -/
def byP (d : Nat) (F : List Nat → Int) (k j : Nat) : List Int := byL d F k ++ (List.range j).map fun i => F (wrd d k i)
theorem byP_zero (d : Nat) (F : List Nat → Int) (k : Nat) : byP d F k 0 = byL d F k := by simp [byP]
theorem byP_full (d : Nat) (F : List Nat → Int) (k : Nat) : byP d F k (pw d k) = byL d F (k + 1) := rfl
theorem byP_snoc (d : Nat) (F : List Nat → Int) (k j : Nat) : byP d F k (j + 1) = byP d F k j ++ [F (wrd d k j)] := by simp [byP, List.range_succ]
theorem byP_length (d : Nat) (F : List Nat → Int) (k j : Nat) : (byP d F k j).length = start d k + j := by simp [byP, byL_length]
/-- What stands in a list at a word. -/
def gAt (d : Nat) (g : List Int) (u : List Nat) : Int := g.getD (start d u.length + num d u) 0
end Go.Proofs.Ythempofohidlnaa

/- The program's groupOf. -/
namespace Go.Proofs.Ythempofohidlnaa
open Go.RowKit
set_option linter.unusedVariables false
set_option linter.unusedSimpArgs false
-- @LONG

open Classical in
/-- Some list is no group word. -/
noncomputable def badGw (m : Mach) (g : List Int) : Bool := decide (¬ IsGw m g)
set_option maxHeartbeats 1000000 in
theorem gof1_any (b : Nat) (w : World) (m : Mach) (hk : m.Ok) (hm : MB w 34 b m) (base : Nat) (v : Value) (g : List Int) (h : Own w base 2 v (ints g)) (hl : g.length < 2000000) :
    Calls Try.prog 133 #[v, .pointer (some ⟨b, 0, none⟩)] w fun e w' => e = .returned (.bool (badGw m g)) ∧ Below w.heap.size w w' := by
  classical
  have hi := hid (IsGroupWord_any w m hk base v g h hl (decide (IsGw m g)) decide_eq_true_iff)
  have hb := hid (show badGw m g = !decide (IsGw m g) from by unfold badGw; simp)
  rw [hb.out]
  replace hm := hid hm
  clear h hb
  generalize decide (IsGw m g) = r at *
  go_enter Try.func133, Try.ntmps133
  go_wp2_with (first
    | ((with_reducible refine gate (N := 4) rfl ?_); refine load_mach rfl _ rfl b rfl m hm.out ?_)
    | (go_at_call 134; (with_reducible refine (hi.out).mono ?_); rintro e w1 ⟨rfl, hb⟩; have hB := hid hb; clear hb))
  go_ret
  exact ⟨rfl, hB.out⟩
set_option maxHeartbeats 1000000 in
set_option maxRecDepth 100000 in
theorem indexFuncM_gof (b : Nat) (w : World) (base : Nat) (v : Value) (M : List (List Int)) (h : Mat w base v M) (hl : M.length < 2000000) (p : List Int → Bool)
    (hcall : ∀ W, Below w.heap.size w W → ∀ r row, row ∈ M → Own W base 2 r (ints row) → Calls Try.prog 133 #[r, .pointer (some ⟨b, 0, none⟩)] W fun e w' => e = .returned (.bool (p row)) ∧ Below W.heap.size W w') :
    Calls Try.prog 121 #[v, .func (.func 133) #[] #[.pointer (some ⟨b, 0, none⟩)]] w fun e w' => e = .returned (.int .i64 (idxP p M 0)) ∧ Below w.heap.size w w' := by
  obtain ⟨rows, hO, hrl, hrow⟩ := h
  obtain ⟨A1, c1, rfl, _, _⟩ := hO.form
  rw [hrl] at hO ⊢
  have hcell := hid (fun (k : Nat) (x : List Int) (hx : M[k]? = some x) => (show ∃ g r, A1 = some ⟨g, 0, none⟩ ∧ ∀ W, Below w.heap.size w W → W.cell? ⟨g, k, none⟩ = some r ∧ Own W base 2 r (ints x) from by
    have hk := (List.getElem?_eq_some_iff.1 hx).1
    obtain ⟨g1, c2, he, _, hg1⟩ := hO.blk (fun e => by rw [e] at hrl; rw [← hrl] at hk; simp at hk)
    injection he with e1 e2 e3
    subst e1
    obtain ⟨r, hr⟩ : ∃ r, rows[k]? = some r := ⟨_, List.getElem?_eq_getElem (by rw [hrl]; exact hk)⟩
    exact ⟨g1, r, rfl, fun W hW => ⟨(hO.below hW).cellAt k _ hr, (hrow k r x hr hx).below hW⟩⟩))
  replace hcall := hid hcall
  clear hO hrow
  obtain ⟨R, hR⟩ : ∃ R, R = idxP p M 0 := ⟨_, rfl⟩
  rw [← hR]
  replace hR := hid hR
  generalize hn : M.length = n at *
  replace hn := hid hn
  go_enter Try.func121, Try.ntmps121
  go_wp2
  go_loopw [8] (fun i wr => ∃ k : Nat, k ≤ n ∧ i = .int .i64 k ∧ Hid (R = idxP p (M.drop k) k) ∧ Below w.heap.size w wr) (fun i _ => n - (intOf i).toNat)
  case atStart => exact ⟨0, Nat.zero_le _, rfl, hR, Below.refl _ _⟩
  case round =>
    obtain ⟨k, hk, rfl, hA, rB⟩ := hrel
    clear hR
    replace rB := hid rB
    by_cases hlt : k < n
    · obtain ⟨x, hx⟩ : ∃ x, M[k]? = some x := ⟨_, List.getElem?_eq_getElem (by rw [hn.out]; exact hlt)⟩
      obtain ⟨g, r, rfl, hc⟩ := hcell.out k x hx
      have d1 := (hc wr rB.out).1
      have hcl := hid (hcall.out wr rB.out r x (List.mem_of_getElem? hx) (hc wr rB.out).2)
      have hT := hid (fun hp => idxP_drop_t (p := p) hx hp k)
      have hF := hid (fun hp => idxP_drop_f (p := p) hx hp k)
      clear hc hx
      cases hp : p x with
      | true =>
        rw [hp] at hcl
        have hA2 := hid (hA.out.trans (hT.out hp))
        clear hp hT hF
        go_wp2_with (first
          | (go_at_call 133; (with_reducible refine (hcl.out).mono ?_); rintro e w1 ⟨rfl, hb⟩; replace rB := hid (rB.out.trans (hb.mono rB.out.size)); clear hb))
        go_ret
        exact ⟨retI (by rw [hA2.out]), rB.out⟩
      | false =>
        rw [hp] at hcl
        have hA2 := hid (hA.out.trans (hF.out hp))
        clear hp hT hF
        go_wp2_with (first
          | (go_at_call 133; (with_reducible refine (hcl.out).mono ?_); rintro e w1 ⟨rfl, hb⟩; replace rB := hid (rB.out.trans (hb.mono rB.out.size)); clear hb))
        go_roundw
        case rel => exact ⟨k + 1, by omega, by go_num, hA2, rB.out⟩
        case measure => simp [intOf]; omega
    · obtain rfl : k = n := by omega
      have hA2 := hid (hA.out.trans (show _ = (-1 : Int) by rw [List.drop_eq_nil_of_le (by rw [hn.out]; exact Nat.le_refl _)]; rfl))
      go_wp2
      go_ret
      exact ⟨retI (by rw [hA2.out]), rB.out⟩
set_option maxHeartbeats 1000000 in
theorem containsFuncM_gof (b : Nat) (w : World) (base : Nat) (v : Value) (M : List (List Int)) (h : Mat w base v M) (hl : M.length < 2000000) (p : List Int → Bool)
    (hcall : ∀ W, Below w.heap.size w W → ∀ r row, row ∈ M → Own W base 2 r (ints row) → Calls Try.prog 133 #[r, .pointer (some ⟨b, 0, none⟩)] W fun e w' => e = .returned (.bool (p row)) ∧ Below W.heap.size W w') :
    Calls Try.prog 104 #[v, .func (.func 133) #[] #[.pointer (some ⟨b, 0, none⟩)]] w fun e w' => e = .returned (.bool (M.any p)) ∧ Below w.heap.size w w' := by
  have hi := hid (indexFuncM_gof b w base v M h hl p hcall)
  have ha := hid (idxP_any p M 0 (Int.le_refl _))
  clear hcall h hl
  generalize idxP p M 0 = r at *
  generalize M.any p = c at *
  go_enter Try.func104, Try.ntmps104
  go_wp2_with (first
    | (go_at_call 121; (with_reducible refine (hi.out).mono ?_); rintro e w1 ⟨rfl, hb⟩; replace hb := hid hb))
  go_ret
  refine ⟨retB ?_, hb.out⟩
  have h := ha.out
  rw [Bool.eq_iff_iff, ← h]
  simp

set_option maxHeartbeats 2000000 in
set_option maxRecDepth 4000 in
/-- No group. -/
theorem groupOf_n (w : World) (m : Mach) (hk : m.Ok) (base : Nat) (v : Value) (M : List (List Int)) (h : Mat w base v M) (hl : M.length < 2000000) (hlr : ∀ row ∈ M, row.length < 2000000) (hbad : ¬ IsM m ∨ ∃ row ∈ M, ¬ IsGw m row) :
    Calls Try.prog 80 #[.agg (mcells m), v] w fun e w' => e = .returned (.tuple #[.pointer none, .int .i64 1]) ∧ Below w.heap.size w w' := by
  have hS := hid ((St.start w).newMB m 34)
  have hmf : ∀ (fn : Fn) (first cap : Array Value) (w : World), (Instr.makeFunc fn first cap).run Try.prog w = .ok (.func fn first cap) w := fun _ _ _ _ => rfl
  by_cases hm : IsM m
  · have hi := hid (fun W => IsMachine_any W m hk true ⟨fun _ => hm, fun _ => rfl⟩)
    have hany : M.any (badGw m) = true := by
      obtain ⟨row, hr, hb⟩ := hbad.resolve_left (fun h => h hm)
      rw [List.any_eq_true]
      exact ⟨row, hr, by unfold badGw; simpa using hb⟩
    have hc := hid (fun W (hW : Below w.heap.size w W) (hmb : MB W 34 w.heap.size m) => (by
      have h1 := containsFuncM_gof w.heap.size W base v M (h.below hW) hl (badGw m) (fun W' hW' r row hr hO => gof1_any w.heap.size W' m hk (hmb.below hW' hmb.lt) base r row hO (hlr row hr))
      rw [hany] at h1; exact h1 : Calls Try.prog 104 #[v, .func (.func 133) #[] #[.pointer (some ⟨w.heap.size, 0, none⟩)]] W fun e w' => e = .returned (.bool true) ∧ Below W.heap.size W w'))
    replace hk := hid hk; replace h := hid h; clear hbad hany hm
    go_enter Try.func80, Try.ntmps80
    go_wp2_with (first
      | ((with_reducible refine gate (N := 6) rfl ?_); refine load_mach rfl _ rfl w.heap.size rfl m hS.out.m0 ?_)
      | (go_at_call 113; (with_reducible refine (hi.out _).mono ?_); rintro e w1 ⟨rfl, hb⟩; replace hS := hid (hS.out.call hb); clear hb)
      | (go_at_call 104; (with_reducible refine (hc.out _ hS.out.bel hS.out.m0).mono ?_); rintro e w2 ⟨rfl, hb⟩; replace hS := hid (hS.out.call hb); clear hb))
    go_ret2
    exact ⟨rfl, hS.out.bel⟩
  · have hi := hid (fun W => IsMachine_any W m hk false ⟨fun h => (by cases h), fun h => absurd h hm⟩)
    replace hk := hid hk; replace h := hid h; clear hbad hm
    go_enter Try.func80, Try.ntmps80
    go_wp2_with (first
      | ((with_reducible refine gate (N := 6) rfl ?_); refine load_mach rfl _ rfl w.heap.size rfl m hS.out.m0 ?_)
      | (go_at_call 113; (with_reducible refine (hi.out _).mono ?_); rintro e w1 ⟨rfl, hb⟩; replace hS := hid (hS.out.call hb); clear hb))
    go_ret2
    exact ⟨rfl, hS.out.bel⟩

set_option maxHeartbeats 2000000 in
set_option maxRecDepth 4000 in
/-- The group. -/
theorem groupOf_y (w : World) (m : Mach) (hk : m.Ok) (base : Nat) (v : Value) (M : List (List Int)) (h : Mat w base v M) (hl : M.length < 2000000) (hlr : ∀ row ∈ M, row.length < 2000000) (l s : Nat) (g : Good m l s) (hall : ∀ row ∈ M, IsGw m row) :
    Calls Try.prog 80 #[.agg (mcells m), v] w fun e w' => ∃ G v1 v2, e = .returned (.tuple #[.pointer (some ⟨G, 0, none⟩), .int .i64 0]) ∧ w.heap.size ≤ G ∧ GrB w' G w.heap.size m l s v1 v2 ∧ Below w.heap.size w w' := by
  have hS := hid ((St.start w).newMB m 34)
  have hmf : ∀ (fn : Fn) (first cap : Array Value) (w : World), (Instr.makeFunc fn first cap).run Try.prog w = .ok (.func fn first cap) w := fun _ _ _ _ => rfl
  have hi := hid (fun W => IsMachine_any W m hk true ⟨fun _ => g.isM, fun _ => rfl⟩)
  have hany : M.any (badGw m) = false := by
    rw [List.any_eq_false]
    intro row hr
    unfold badGw; simpa using hall row hr
  have hc := hid (fun W (hW : Below w.heap.size w W) (hmb : MB W 34 w.heap.size m) => (by
    have h1 := containsFuncM_gof w.heap.size W base v M (h.below hW) hl (badGw m) (fun W' hW' r row hr hO => gof1_any w.heap.size W' m hk (hmb.below hW' hmb.lt) base r row hO (hlr row hr))
    rw [hany] at h1; exact h1 : Calls Try.prog 104 #[v, .func (.func 133) #[] #[.pointer (some ⟨w.heap.size, 0, none⟩)]] W fun e w' => e = .returned (.bool false) ∧ Below W.heap.size W w'))
  have hng := hid (fun W => newGroup_any W m hk l s g)
  replace hk := hid hk; replace h := hid h; replace g := hid g; clear hall hany
  go_enter Try.func80, Try.ntmps80
  go_wp2_with (first
    | ((with_reducible refine gate (N := 6) rfl ?_); refine load_mach rfl _ rfl w.heap.size rfl m hS.out.m0 ?_)
    | ((with_reducible refine gate (N := 14) rfl ?_); refine load_mach rfl _ rfl w.heap.size rfl m hS.out.m0 ?_)
    | (go_at_call 113; (with_reducible refine (hi.out _).mono ?_); rintro e w1 ⟨rfl, hb⟩; replace hS := hid (hS.out.call hb); clear hb)
    | (go_at_call 104; (with_reducible refine (hc.out _ hS.out.bel hS.out.m0).mono ?_); rintro e w2 ⟨rfl, hb⟩; replace hS := hid (hS.out.call hb); clear hb)
    | (go_at_call 135; (with_reducible refine (hng.out _).mono ?_); rintro e w3 ⟨G, v1, v2, rfl, hle, hGB, hb⟩; have hle2 := hid (Nat.le_trans hS.out.le hle); have hGB2 := hid (GrB.mk hGB.blk (hGB.of.mono hS.out.le) (hGB.tr.mono hS.out.le)); replace hS := hid (hS.out.call hb); clear hb hle hGB))
  go_ret2
  exact ⟨G, v1, v2, rfl, hle2.out, hGB2.out, hS.out.bel⟩
end Go.Proofs.Ythempofohidlnaa

/- append(dst, src...): a slice behind another one. -/
namespace Go.Proofs.Ythempofohidlnaa
open Go.RowKit
set_option linter.unusedVariables false
set_option linter.unusedSimpArgs false
-- @LONG

theorem run_append_empty {P : Program} (W : World) (t ty e : TypeId) (i : TypeInfo) (ht : P.underlying t = some (.slice e)) (hi : P.info? e = some i) (base : Nat) (v : Value) (cs : List Value) (h : Own W base e v cs) :
    (Builtin.append_ #[t, t] ty #[v, .slice none 0 0]).run P W = .ok v W := by
  obtain ⟨A, c, rfl, hc, hA⟩ := h.form
  rcases hA with ⟨rfl, rfl, rfl⟩ | ⟨g, rfl, _⟩
  · simp [Builtin.append_, run_underlying ht, sizeOf, typeInfo, hi, Builtin.lenOf, Builtin.firstCells, loadCells, loadCellsFrom]
  · simp [Builtin.append_, run_underlying ht, sizeOf, typeInfo, hi, Builtin.lenOf, Builtin.firstCells, hc, storeCells]
theorem run_append_sl {P : Program} (W : World) (t ty e : TypeId) (z : Value) (bytes : Nat) (ht : P.underlying t = some (.slice e)) (hinfo : (P.info? e).map (fun i => (i.zero, i.size, i.bytes)) = some (some z, 1, bytes)) (hz : z.cells.size = 1) (hb : bytes ≤ 64)
    (base : Nat) (v : Value) (cs : List Value) (h : Own W base e v cs) (hbase : base ≤ W.heap.size) (b2 e2 : Nat) (v2 : Value) (cs2 : List Value) (h2 : Own W b2 e2 v2 cs2) (h1 : ∀ u ∈ cs2, u.oneCell' = true) (hlen : cs.length + cs2.length ≤ 1000000000) :
    ∃ v' w', (Builtin.append_ #[t, t] ty #[v, v2]).run P W = .ok v' w' ∧ Own w' base e v' (cs ++ cs2) ∧ Below base W w' ∧ (∀ k, k < W.heap.size → v.ownBlock ≠ some k → w'.heap[k]? = W.heap[k]?) ∧ (v'.ownBlock = v.ownBlock ∨ v'.ownBlock = some W.heap.size) := by
  obtain ⟨i, hi, hz0, hz1, hz2⟩ := info_parts hinfo
  obtain ⟨A, c, rfl, hc, hA⟩ := h2.form
  rcases hA with ⟨rfl, rfl, rfl⟩ | ⟨g, rfl, _, _, hcell⟩
  · refine ⟨v, W, run_append_empty W t ty e i ht hi base v cs h, by rw [List.append_nil]; exact h, Below.refl _ _, fun _ _ _ => rfl, .inl rfl⟩
  · obtain ⟨v', w', hr, h3, h4, _, h5⟩ := run_append_own_at (P := P) W base t ty e i z 1 bytes ht hi hz0 hz1 hz2 hz (by omega) v cs.length cs h ⟨g, 0, none⟩ cs2.length c cs2 (by omega) (fun j u hu => by rw [Addr.add_mid, Nat.zero_add]; exact hcell j u hu) h1
      (by simp only [maxLen]; omega) (Nat.le_trans (Nat.mul_le_mul_left _ hb) (by omega)) hbase
    have hold : ∀ k, k < W.heap.size → v.ownBlock ≠ some k → w'.heap[k]? = W.heap[k]? := fun k hk hne => h4.block k hk (fun e => hne e.symm)
    refine ⟨v', w', hr, ?_, ⟨h4.os, h4.tape, h4.output, h4.size, fun k hk => hold k (by omega) (fun e => by have := (h.lt k e).1; omega)⟩, hold, h5⟩
    unfold Own
    rw [List.length_append]; exact h3
section
variable {ops : Array Oper} {rest : List Oper} {o : Oper} {act : Act} {W w0 : World} {Q : Exit → Act → World → Prop} {L : List Asn} {base : Nat}
theorem St.appdV {t : Nat} {v v' : Value} {cs cs' : List Value} {w w' : World} (h : St base w0 (Asn.own base t v cs :: L) w) (hO : Own w' base t v' cs') (hb : Below base w w') (hold : ∀ k, k < w.heap.size → v.ownBlock ≠ some k → w'.heap[k]? = w.heap[k]?)
    (hg : v'.ownBlock = v.ownBlock ∨ v'.ownBlock = some w.heap.size) : St base w0 (Asn.own base t v' cs' :: L) w' :=
  h.turn (a' := Asn.own base t v' cs') hO (fun k hk => by
    have hk' : v'.ownBlock = some k := hk
    rcases hg with hg | hg
    · exact .inl (hg.symm.trans hk')
    · rw [hg] at hk'; injection hk' with e; exact .inr (by omega)) (fun k hk => ((show Own w base t v cs from h.star.1).lt k hk).1) hb fun k hk hne => hold k hk hne
theorem St.appS (t e : TypeId) (z : Value) (bytes : Nat)
    (ht : Try.prog.underlying t = some (.slice e)) (hinfo : (Try.prog.info? e).map (fun i => (i.zero, i.size, i.bytes)) = some (some z, 1, bytes)) (hz : z.cells.size = 1) (hb : bytes ≤ 64)
    (hgd : o.guard = none) (s x : Operand) (ho : o.op = .call { callee := .builtin .append, args := #[s, x], argTypes := #[t, t] })
    (v : Value) (cs : List Value) (hs : act.eval s = v) (hS : St base w0 (Asn.own base e v cs :: L) W) (b2 e2 : Nat) (v2 : Value) (cs2 : List Value) (hx : act.eval x = v2) (h2 : Own W b2 e2 v2 cs2) (h1 : ∀ u ∈ cs2, u.oneCell' = true) (hlen : cs.length + cs2.length ≤ 1000000000)
    (h : ∀ v' w', St base w0 (Asn.own base e v' (cs ++ cs2) :: L) w' → wpList Try.prog ops Q rest (act.put o.dst v') w') : wpList Try.prog ops Q (o :: rest) act W := by
  obtain ⟨v', w', hr, h3, h4, h5, h6⟩ := run_append_sl (P := Try.prog) W t o.type e z bytes ht hinfo hz hb base v cs hS.star.1 hS.le b2 e2 v2 cs2 h2 h1 hlen
  refine wpList_plain hgd fun K hK => ?_
  unfold Oper.wp execOp
  simp only [ho, resolve, invoke, builtin, Sem.run_bind, Sem.run_pure, Result.andThen_ok, List.map_toArray, List.map_cons, List.map_nil, hs, hx, hr]
  exact hK _ _ (h v' w' (hS.appdV h3 h4 h5 h6))
end
theorem ints_one (l : List Int) : ∀ u ∈ ints l, u.oneCell' = true := fun u hu => by
  obtain ⟨x, _, rfl⟩ := List.mem_map.1 hu
  rfl

set_option maxHeartbeats 1000000 in
set_option maxRecDepth 100000 in
theorem clone_any (w : World) (base : Nat) (v : Value) (l : List Int) (h : Own w base 2 v (ints l)) (hl : l.length ≤ 1000000) :
    Calls Try.prog 82 #[v] w fun e w' => ∃ v', e = .returned v' ∧ Own w' w.heap.size 2 v' (ints l) ∧ Below w.heap.size w w' := by
  have hil := ints_length l
  have hnil := fun (W : World) (a : Option Addr) (n c : Nat) => Lib.run_eql_slice_nil (P := Try.prog) W 22 2 a n c 0 0 Try.underlying22
  obtain ⟨A, c, rfl, _, hA⟩ := h.form
  rw [hil] at h ⊢
  rcases hA with ⟨rfl, h0, rfl⟩ | ⟨g, rfl, _⟩
  · have hl0 : l = [] := by rw [← List.length_eq_zero_iff, ← hil, h0]; rfl
    subst hl0
    clear h
    go_enter Try.func82, Try.ntmps82
    go_wp2
    go_ret
    exact ⟨_, rfl, Own.nil _ _ _, Below.refl _ _⟩
  · have hS := hid ((St.start w).newOwn [] 2 (by simp))
    have h' := hid (h.alloc (.cells #[] 2))
    clear h
    go_enter Try.func82, Try.ntmps82
    go_wp2_with (first
      | ((with_reducible refine gate (N := 7) rfl ?_); refine St.appS 22 2 (.int .i64 0) 8 Try.underlying22 info_i64 rfl (by omega) rfl _ _ rfl _ _ rfl hS.out _ _ _ _ rfl h'.out (ints_one l) (by rw [hil]; simp; omega) ?_; intro v' w2 hS'; replace hS := hid hS'; clear hS'))
    go_ret
    exact ⟨_, rfl, by have h := hS.out.o0; rw [List.nil_append] at h; exact h, hS.out.bel⟩
end Go.Proofs.Ythempofohidlnaa

/- ImageOf, SectionOf, PeriodOfWord: the program's side. -/
namespace Go.Proofs.Ythempofohidlnaa
open Go.RowKit
set_option linter.unusedVariables false
set_option linter.unusedSimpArgs false
-- @LONG

/-- The letters of a text. -/
def lets (ws : ByteArray) : List Nat := ws.data.toList.map fun b => b.toNat - 48
theorem lets_wstr {l : Nat} (ws : ByteArray) (h : IsWd l ws) : ws = wstr (lets ws) ∧ (∀ x ∈ lets ws, x < l) ∧ (lets ws).length ≤ 40 := by
  have e : ws = wstr (lets ws) := wstr_of_bytes ws fun k hk => (h.2 k hk).1
  refine ⟨e, fun x hx => ?_, by unfold lets; rw [List.length_map, Array.length_toList]; exact h.1⟩
  obtain ⟨b, hb, rfl⟩ := List.mem_map.1 hx
  obtain ⟨k, hk, rfl⟩ := List.getElem_of_mem hb
  have hk' : k < ws.size := by simpa using hk
  have h2 := (h.2 k hk').2
  have h1 := (h.2 k hk').1
  have e2 : (ws[k]'hk').toNat = (ws.data.toList[k]).toNat := by simp [ByteArray.getElem_eq_getElem_data]
  omega
theorem IsGw.parts {m : Mach} {l s : Nat} {g : List Int} (gd : Good m l s) (h : IsGw m g) : g.length ≤ 40 ∧ ∀ k ∈ g, isNum s k := by
  have e : m.S.toNat = s := by rw [gd.S]; rfl
  have := h.2
  rw [e] at this; exact this
theorem mat_one {w : World} {b : Nat} {v r : Value} {l : List Int} (hO : Own w b 22 v [r]) (hr : Own w b 2 r (ints l)) : Mat w b v [l] :=
  ⟨[r], hO, rfl, fun i r' l' h1 h2 => by
    cases i with
    | zero => simp at h1 h2; subst h1; subst h2; exact hr
    | succ i => simp at h1⟩
/-- What is asked of a group word and a word: 0, or no group word, or no word. -/
theorem gw_cases (m : Mach) (g : List Int) (ws : ByteArray) : (¬ IsM m ∨ ¬ IsGw m g) ∨ (∃ l s, Good m l s ∧ IsGw m g ∧ ¬ IsWd l ws) ∨ ∃ l s, Good m l s ∧ IsGw m g ∧ IsWd l ws := by
  by_cases h : IsGw m g
  · obtain ⟨l, s, gd⟩ := h.1.good
    by_cases hw : IsWd l ws
    · exact .inr (.inr ⟨l, s, gd, h, hw⟩)
    · exact .inr (.inl ⟨l, s, gd, h, hw⟩)
  · exact .inl (.inr h)
open Classical in
noncomputable def imgAns (m : Mach) (g : List Int) (ws : ByteArray) : ByteArray × Int := if IsGw m g ∧ IsWd m.L ws then (wstr (imgW m m.L.toNat m.S.toNat g (lets ws)), 0) else ({ data := #[] }, 1)
open Classical in
noncomputable def secAns (m : Mach) (g : List Int) (ws : ByteArray) : List Int × Int := if IsGw m g ∧ IsWd m.L ws then (secW m m.L.toNat m.S.toNat g (lets ws), 0) else ([], 1)
section
variable {m : Mach} {l s : Nat} {g : List Int} {ws : ByteArray}
theorem imgAns_1 (h : ¬ IsGw m g) : imgAns m g ws = ({ data := #[] }, 1) := by unfold imgAns; rw [if_neg (fun k => h k.1)]
theorem imgAns_w (gd : Good m l s) (h : ¬ IsWd l ws) : imgAns m g ws = ({ data := #[] }, 1) := by unfold imgAns; rw [gd.L, if_neg (fun k => h k.2)]
theorem imgAns_0 (gd : Good m l s) (h : IsGw m g) (hw : IsWd l ws) : imgAns m g ws = (wstr (imgW m l s g (lets ws)), 0) := by unfold imgAns; rw [gd.L, gd.S, if_pos ⟨h, hw⟩]; rfl
theorem secAns_1 (h : ¬ IsGw m g) : secAns m g ws = ([], 1) := by unfold secAns; rw [if_neg (fun k => h k.1)]
theorem secAns_w (gd : Good m l s) (h : ¬ IsWd l ws) : secAns m g ws = ([], 1) := by unfold secAns; rw [gd.L, if_neg (fun k => h k.2)]
theorem secAns_0 (gd : Good m l s) (h : IsGw m g) (hw : IsWd l ws) : secAns m g ws = (secW m l s g (lets ws), 0) := by unfold secAns; rw [gd.L, gd.S, if_pos ⟨h, hw⟩]; rfl
end

set_option maxHeartbeats 2000000 in
set_option maxRecDepth 4000 in
theorem implImg_any (w : World) (m : Mach) (hkm : m.Ok) (b0 : Nat) (v : Value) (g : List Int) (hg : Own w b0 2 v (ints g)) (hl : g.length < 2000000) (ws : ByteArray) (hws : ws.size < 1000000000000) :
    Calls Try.prog 32 #[.agg (mcells m), v, .string ws] w fun e w' => e = .returned (.tuple #[.string (imgAns m g ws).1, .int .i64 (imgAns m g ws).2]) ∧ Below w.heap.size w w' := by
  obtain ⟨A0, cp0, rfl, _, _⟩ := hg.form
  rw [ints_length] at hg ⊢
  by_cases hbad : ¬ IsGw m g
  · rw [imgAns_1 hbad]
    have hS := hid ((St.arg w hg).newMB m 34)
    have hown := hid (hS.out.newOwn [(Value.slice A0 g.length cp0)] 22 (by simp))
    simp only [heap_alloc_size, List.length_cons, List.length_nil, Nat.zero_add] at hown
    have hgo := hid (fun W b vv (hO : Own W b 22 vv [(Value.slice A0 g.length cp0)]) (hr : Own W b 2 (Value.slice A0 g.length cp0) (ints g)) => groupOf_n W m hkm b vv [g] (mat_one hO hr) (by simp) (by simp; omega) (.inr ⟨g, by simp, hbad⟩))
    replace hkm := hid hkm; replace hg := hid hg; replace hbad := hid hbad
    go_enter Try.func32, Try.ntmps32
    go_wp2_with (first
      | ((with_reducible refine gate (N := 13) rfl ?_); refine load_mach rfl _ rfl w.heap.size rfl m hS.out.m0 ?_)
      | (go_at_call 80; (with_reducible refine (hgo.out _ _ _ (hown.out.o0.mono (Nat.zero_le _)) hown.out.o2).mono ?_); rintro e w1 ⟨rfl, hb⟩; replace hS := hid (hown.out.call hb); clear hgo hown; clear hb))
    go_ret2
    exact ⟨rfl, hS.out.bel⟩
  · have hgw := Classical.not_not.1 hbad
    obtain ⟨l, s, gd⟩ := hgw.1.good
    obtain ⟨hgl, hgn⟩ := hgw.parts gd
    have hS := hid ((St.arg w hg).newMB m 34)
    have hown := hid (hS.out.newOwn [(Value.slice A0 g.length cp0)] 22 (by simp))
    simp only [heap_alloc_size, List.length_cons, List.length_nil, Nat.zero_add] at hown
    have hgo := hid (fun W b vv (hO : Own W b 22 vv [(Value.slice A0 g.length cp0)]) (hr : Own W b 2 (Value.slice A0 g.length cp0) (ints g)) => groupOf_y W m hkm b vv [g] (mat_one hO hr) (by simp) (by simp; omega) l s gd (by simp; exact hgw))
    have hL := hid gd.L
    by_cases hw : IsWd l ws
    · rw [imgAns_0 gd hgw hw]
      obtain ⟨hwe, hwl, hw40⟩ := lets_wstr ws hw
      have hwd := hid (fun W => isWord_any (l : Int) (by have := gd.l2; omega) (by have := gd.l3; omega) ws hws true ⟨fun _ => hw, fun _ => rfl⟩ W)
      have him := hid (fun W G v1 v2 (hG : GM W G m l s v1 v2) (hO : Own W 0 2 (Value.slice A0 g.length cp0) (ints g)) => (by have h := image_any W G m l s gd v1 v2 hG 0 (Value.slice A0 g.length cp0) g hO hgn (by omega) (lets ws) hwl (by omega); rw [← hwe] at h; exact h : Calls Try.prog 81 #[.pointer (some ⟨G, 0, none⟩), (Value.slice A0 g.length cp0), .string ws] W fun e w' => ∃ v', e = .returned (.tuple #[.string (wstr (imgW m l s g (lets ws))), v']) ∧ Own w' 0 2 v' (ints (secW m l s g (lets ws))) ∧ Below W.heap.size W w'))
      replace hkm := hid hkm; replace hg := hid hg; replace hgw := hid hgw; replace gd := hid gd; replace hwe := hid hwe
      clear hbad
      generalize wstr (imgW m l s g (lets ws)) = ans at *
      go_enter Try.func32, Try.ntmps32
      go_wp2_with (first
        | ((with_reducible refine gate (N := 13) rfl ?_); refine load_mach rfl _ rfl w.heap.size rfl m hS.out.m0 ?_)
        | (go_at_call 80; (with_reducible refine (hgo.out _ _ _ (hown.out.o0.mono (Nat.zero_le _)) hown.out.o2).mono ?_); rintro e w1 ⟨G, v1, v2, rfl, hle, hGB, hb⟩; have hGM := hid hGB.gm; replace hS := hid (hown.out.call hb); have cL := hS.out.m1.cL; rw [hL.out] at cL; clear hgo hb hGB hle hown)
        | (go_at_call 53; (with_reducible refine (hwd.out _).mono ?_); rintro e w' ⟨rfl, rfl⟩)
        | (go_at_call 81; (with_reducible refine (him.out _ _ _ _ hGM.out hS.out.o2).mono ?_); rintro e w2 ⟨v', rfl, hO, hb⟩; replace hS := hid (hS.out.call hb); clear hb hO))
      go_ret2
      exact ⟨rfl, hS.out.bel⟩
    · rw [imgAns_w gd hw]
      have hwd := hid (fun W => isWord_any (l : Int) (by have := gd.l2; omega) (by have := gd.l3; omega) ws hws false ⟨fun h => (by cases h), fun h => absurd h hw⟩ W)
      replace hkm := hid hkm; replace hg := hid hg; replace hgw := hid hgw; replace gd := hid gd
      clear hbad
      go_enter Try.func32, Try.ntmps32
      go_wp2_with (first
        | ((with_reducible refine gate (N := 13) rfl ?_); refine load_mach rfl _ rfl w.heap.size rfl m hS.out.m0 ?_)
        | (go_at_call 80; (with_reducible refine (hgo.out _ _ _ (hown.out.o0.mono (Nat.zero_le _)) hown.out.o2).mono ?_); rintro e w1 ⟨G, v1, v2, rfl, hle, hGB, hb⟩; replace hS := hid (hown.out.call hb); have cL := hS.out.m1.cL; rw [hL.out] at cL; clear hgo hb hGB hle)
        | (go_at_call 53; (with_reducible refine (hwd.out _).mono ?_); rintro e w' ⟨rfl, rfl⟩))
      go_ret2
      exact ⟨rfl, hS.out.bel⟩
set_option maxHeartbeats 2000000 in
set_option maxRecDepth 4000 in
theorem implSec_any (w : World) (m : Mach) (hkm : m.Ok) (b0 : Nat) (v : Value) (g : List Int) (hg : Own w b0 2 v (ints g)) (hl : g.length < 2000000) (ws : ByteArray) (hws : ws.size < 1000000000000) :
    Calls Try.prog 34 #[.agg (mcells m), v, .string ws] w fun e w' => ∃ v', e = .returned (.tuple #[v', .int .i64 (secAns m g ws).2]) ∧ Own w' w.heap.size 2 v' (ints (secAns m g ws).1) ∧ Below w.heap.size w w' := by
  obtain ⟨A0, cp0, rfl, _, _⟩ := hg.form
  rw [ints_length] at hg ⊢
  by_cases hbad : ¬ IsGw m g
  · rw [secAns_1 hbad]
    have hS := hid ((St.arg w hg).newMB m 34)
    have hown := hid (hS.out.newOwn [(Value.slice A0 g.length cp0)] 22 (by simp))
    simp only [heap_alloc_size, List.length_cons, List.length_nil, Nat.zero_add] at hown
    have hgo := hid (fun W b vv (hO : Own W b 22 vv [(Value.slice A0 g.length cp0)]) (hr : Own W b 2 (Value.slice A0 g.length cp0) (ints g)) => groupOf_n W m hkm b vv [g] (mat_one hO hr) (by simp) (by simp; omega) (.inr ⟨g, by simp, hbad⟩))
    replace hkm := hid hkm; replace hg := hid hg; replace hbad := hid hbad
    go_enter Try.func34, Try.ntmps34
    go_wp2_with (first
      | ((with_reducible refine gate (N := 13) rfl ?_); refine load_mach rfl _ rfl w.heap.size rfl m hS.out.m0 ?_)
      | (go_at_call 80; (with_reducible refine (hgo.out _ _ _ (hown.out.o0.mono (Nat.zero_le _)) hown.out.o2).mono ?_); rintro e w1 ⟨rfl, hb⟩; replace hS := hid (hown.out.call hb); clear hgo hown; clear hb))
    go_ret2
    exact ⟨_, rfl, Own.nil _ _ _, hS.out.bel⟩
  · have hgw := Classical.not_not.1 hbad
    obtain ⟨l, s, gd⟩ := hgw.1.good
    obtain ⟨hgl, hgn⟩ := hgw.parts gd
    have hS := hid ((St.arg w hg).newMB m 34)
    have hown := hid (hS.out.newOwn [(Value.slice A0 g.length cp0)] 22 (by simp))
    simp only [heap_alloc_size, List.length_cons, List.length_nil, Nat.zero_add] at hown
    have hgo := hid (fun W b vv (hO : Own W b 22 vv [(Value.slice A0 g.length cp0)]) (hr : Own W b 2 (Value.slice A0 g.length cp0) (ints g)) => groupOf_y W m hkm b vv [g] (mat_one hO hr) (by simp) (by simp; omega) l s gd (by simp; exact hgw))
    have hL := hid gd.L
    by_cases hw : IsWd l ws
    · rw [secAns_0 gd hgw hw]
      obtain ⟨hwe, hwl, hw40⟩ := lets_wstr ws hw
      have hwd := hid (fun W => isWord_any (l : Int) (by have := gd.l2; omega) (by have := gd.l3; omega) ws hws true ⟨fun _ => hw, fun _ => rfl⟩ W)
      have him := hid (fun W G v1 v2 (hG : GM W G m l s v1 v2) (hO : Own W 0 2 (Value.slice A0 g.length cp0) (ints g)) => (by have h := image_any W G m l s gd v1 v2 hG 0 (Value.slice A0 g.length cp0) g hO hgn (by omega) (lets ws) hwl (by omega); rw [← hwe] at h; exact h : Calls Try.prog 81 #[.pointer (some ⟨G, 0, none⟩), (Value.slice A0 g.length cp0), .string ws] W fun e w' => ∃ v', e = .returned (.tuple #[.string (wstr (imgW m l s g (lets ws))), v']) ∧ Own w' 0 2 v' (ints (secW m l s g (lets ws))) ∧ Below W.heap.size W w'))
      have hse := hid (show (secW m l s g (lets ws)).length ≤ 1000000 by rw [secW_length]; omega)
      replace hkm := hid hkm; replace hg := hid hg; replace hgw := hid hgw; replace gd := hid gd; replace hwe := hid hwe
      clear hbad
      generalize wstr (imgW m l s g (lets ws)) = ans at *
      generalize secW m l s g (lets ws) = se at *
      have hcl := hid (fun W vq (hO : Own W 0 2 vq (ints se)) => clone_any W 0 vq se hO hse.out)
      go_enter Try.func34, Try.ntmps34
      go_wp2_with (first
        | ((with_reducible refine gate (N := 13) rfl ?_); refine load_mach rfl _ rfl w.heap.size rfl m hS.out.m0 ?_)
        | (go_at_call 80; (with_reducible refine (hgo.out _ _ _ (hown.out.o0.mono (Nat.zero_le _)) hown.out.o2).mono ?_); rintro e w1 ⟨G, v1, v2, rfl, hle, hGB, hb⟩; have hGM := hid hGB.gm; replace hS := hid (hown.out.call hb); have cL := hS.out.m1.cL; rw [hL.out] at cL; clear hgo hb hGB hle hown)
        | (go_at_call 53; (with_reducible refine (hwd.out _).mono ?_); rintro e w' ⟨rfl, rfl⟩)
        | (go_at_call 81; (with_reducible refine (him.out _ _ _ _ hGM.out hS.out.o2).mono ?_); rintro e w2 ⟨v', rfl, hO, hb⟩; replace hS := hid (hS.out.call hb); replace hO := hid hO; clear hb)
        | (go_at_call 82; (with_reducible refine (hcl.out _ _ hO.out).mono ?_); rintro e w3 ⟨v3, rfl, hO3, hb⟩; replace hS := hid (hS.out.callOwn hb hO3); clear hb hO3 hO))
      go_ret2
      exact ⟨_, rfl, hS.out.o0, hS.out.bel⟩
    · rw [secAns_w gd hw]
      have hwd := hid (fun W => isWord_any (l : Int) (by have := gd.l2; omega) (by have := gd.l3; omega) ws hws false ⟨fun h => (by cases h), fun h => absurd h hw⟩ W)
      replace hkm := hid hkm; replace hg := hid hg; replace hgw := hid hgw; replace gd := hid gd
      clear hbad
      go_enter Try.func34, Try.ntmps34
      go_wp2_with (first
        | ((with_reducible refine gate (N := 13) rfl ?_); refine load_mach rfl _ rfl w.heap.size rfl m hS.out.m0 ?_)
        | (go_at_call 80; (with_reducible refine (hgo.out _ _ _ (hown.out.o0.mono (Nat.zero_le _)) hown.out.o2).mono ?_); rintro e w1 ⟨G, v1, v2, rfl, hle, hGB, hb⟩; replace hS := hid (hown.out.call hb); have cL := hS.out.m1.cL; rw [hL.out] at cL; clear hgo hb hGB hle)
        | (go_at_call 53; (with_reducible refine (hwd.out _).mono ?_); rintro e w' ⟨rfl, rfl⟩))
      go_ret2
      exact ⟨_, rfl, Own.nil _ _ _, hS.out.bel⟩
end Go.Proofs.Ythempofohidlnaa

/- Portraits: the program's small functions. -/
namespace Go.Proofs.Ythempofohidlnaa
open Go.RowKit
set_option linter.unusedVariables false
set_option linter.unusedSimpArgs false
-- @LONG

theorem blkc {w : World} {b t : Nat} {v : Value} (h : w.heap[b]? = some (.cells #[v] t (0, 0))) : w.cell? ⟨b, 0, none⟩ = some v := cell_of_row _ _ 0 _ _ _ h

theorem areDepths_any (d n : Int) (r : Bool) (hr : r = decide (IsD d n)) (w : World) :
    Calls Try.prog 103 #[.int .i64 d, .int .i64 n] w fun e w' => e = .returned (.bool r) ∧ w = w' := by
  have hl := hid (fun W => areLetters_any d (decide (2 ≤ d ∧ d ≤ 3)) rfl W)
  have hw := hid (fun W => within_any n 1 4 (decide (1 ≤ n ∧ n ≤ 4)) rfl W)
  by_cases h1 : 2 ≤ d ∧ d ≤ 3
  · have hr2 := hid (show r = decide (1 ≤ n ∧ n ≤ 4) by rw [hr]; unfold IsD; simp [h1])
    rw [decide_eq_true h1] at hl
    generalize decide (1 ≤ n ∧ n ≤ 4) = c at *
    clear h1 hr
    go_enter Try.func103, Try.ntmps103
    go_wp2_with (first
      | (go_at_call 120; (with_reducible refine (hl.out _).mono ?_); rintro e w' ⟨rfl, rfl⟩)
      | (go_at_call 62; (with_reducible refine (hw.out _).mono ?_); rintro e w' ⟨rfl, rfl⟩))
    go_ret
    exact ⟨retB hr2.out.symm, rfl⟩
  · have hr2 := hid (show r = false by rw [hr]; unfold IsD; simp [h1])
    rw [decide_eq_false h1] at hl
    clear h1 hr
    go_enter Try.func103, Try.ntmps103
    go_wp2_with (first
      | (go_at_call 120; (with_reducible refine (hl.out _).mono ?_); rintro e w' ⟨rfl, rfl⟩))
    go_ret
    exact ⟨retB hr2.out.symm, rfl⟩
theorem size_any (d n : Nat) (hd : d = 2 ∨ d = 3) (hn : n ≤ 5) (w : World) :
    Calls Try.prog 108 #[.int .i64 d, .int .i64 n] w fun e w' => e = .returned (.int .i64 (start d n : Nat)) ∧ w = w' := by
  have hb : pw d n ≤ 243 := pw5 hd hn
  have hp := hid (fun W => power_any d n (by omega) (by omega) (by omega) W)
  have hpos := pw_pos d (by omega) n
  have hs := hid (show (((pw d n : Nat) : Int) - 1) / ((d : Int) - 1) = (start d n : Nat) from by
    have h := start_div d (by omega) n
    have e1 : ((pw d n : Nat) : Int) - 1 = ((pw d n - 1 : Nat) : Int) := by omega
    have e2 : (d : Int) - 1 = ((d - 1 : Nat) : Int) := by omega
    rw [e1, e2, ← Int.natCast_ediv, h])
  have ew : IntKind.i64.wrap ((pw d n : Nat) - 1) = ((pw d n : Nat) : Int) - 1 := IntWalk.i64_in _ (by omega)
  have ed : IntKind.i64.wrap ((d : Int) - 1) = (d : Int) - 1 := IntWalk.i64_in _ (by omega)
  have hd1 : (d : Int) - 1 ≠ 0 := by omega
  have hsb : start d n ≤ 243 := by
    have := start_pw d (by omega) n
    have h2 : start d n ≤ start d n * (d - 1) := Nat.le_mul_of_pos_right _ (by omega)
    omega
  generalize pw d n = M at *
  generalize start d n = R at *
  go_enter Try.func108, Try.ntmps108
  go_wp2_with (first
    | (go_at_call 139; (with_reducible refine (hp.out _).mono ?_); rintro e w' ⟨rfl, rfl⟩))
  go_ret
  exact ⟨retI hs.out, rfl⟩

set_option maxHeartbeats 1000000 in
set_option maxRecDepth 100000 in
theorem permutations_any (d : Nat) (hd : d = 2 ∨ d = 3) (w : World) :
    Calls Try.prog 122 #[.int .i64 d] w fun e w' => ∃ v, e = .returned v ∧ Mat w' w.heap.size v (prms d) ∧ Below w.heap.size w w' := by
  rcases hd with rfl | rfl
  · have hS := (((St.start w).newOwn [.int .i64 0, .int .i64 1] 2 (by simp)).newOwn [.int .i64 1, .int .i64 0] 2 (by simp)).newOwn [.slice (some ⟨w.heap.size, 0, none⟩) 2 2, .slice (some ⟨w.heap.size + 1, 0, none⟩) 2 2] 22 (by simp)
    simp only [heap_alloc_size, List.length_cons, List.length_nil, Nat.zero_add, Nat.reduceAdd] at hS
    replace hS := hid hS
    go_enter Try.func122, Try.ntmps122
    go_wp2
    go_ret
    refine ⟨_, rfl, ⟨_, hS.out.o0, rfl, fun i r l hr hl => ?_⟩, hS.out.bel⟩
    match i, hr, hl with
    | 0, hr, hl => simp [prms] at hr hl; subst hr; subst hl; exact hS.out.o2
    | 1, hr, hl => simp [prms] at hr hl; subst hr; subst hl; exact hS.out.o1
    | i + 2, hr, hl => simp at hr
  · have hS := (((((((St.start w).newOwn [.int .i64 0, .int .i64 1, .int .i64 2] 2 (by simp)).newOwn [.int .i64 0, .int .i64 2, .int .i64 1] 2 (by simp)).newOwn [.int .i64 1, .int .i64 0, .int .i64 2] 2 (by simp)).newOwn [.int .i64 1, .int .i64 2, .int .i64 0] 2 (by simp)).newOwn [.int .i64 2, .int .i64 0, .int .i64 1] 2 (by simp)).newOwn [.int .i64 2, .int .i64 1, .int .i64 0] 2 (by simp)).newOwn [.slice (some ⟨w.heap.size, 0, none⟩) 3 3, .slice (some ⟨w.heap.size + 1, 0, none⟩) 3 3, .slice (some ⟨w.heap.size + 1 + 1, 0, none⟩) 3 3, .slice (some ⟨w.heap.size + 1 + 1 + 1, 0, none⟩) 3 3, .slice (some ⟨w.heap.size + 1 + 1 + 1 + 1, 0, none⟩) 3 3, .slice (some ⟨w.heap.size + 1 + 1 + 1 + 1 + 1, 0, none⟩) 3 3] 22 (by simp)
    simp only [heap_alloc_size, List.length_cons, List.length_nil, Nat.zero_add, Nat.reduceAdd] at hS
    replace hS := hid hS
    go_enter Try.func122, Try.ntmps122
    go_wp2
    go_ret
    refine ⟨_, rfl, ⟨_, hS.out.o0, rfl, fun i r l hr hl => ?_⟩, hS.out.bel⟩
    match i, hr, hl with
    | 0, hr, hl => simp [prms] at hr hl; subst hr; subst hl; exact hS.out.drop.o5
    | 1, hr, hl => simp [prms] at hr hl; subst hr; subst hl; exact hS.out.o5
    | 2, hr, hl => simp [prms] at hr hl; subst hr; subst hl; exact hS.out.o4
    | 3, hr, hl => simp [prms] at hr hl; subst hr; subst hl; exact hS.out.o3
    | 4, hr, hl => simp [prms] at hr hl; subst hr; subst hl; exact hS.out.o2
    | 5, hr, hl => simp [prms] at hr hl; subst hr; subst hl; exact hS.out.o1
    | i + 6, hr, hl => simp at hr
/-- A number that no permutation has. -/
def badP (d : Nat) (k : Int) : Bool := !decide (0 ≤ k ∧ k ≤ (cnt d : Int) - 1)
theorem badP_any (d : Nat) (g : List Int) : g.any (badP d) = !decide (∀ k ∈ g, 0 ≤ k ∧ k < (cnt d : Int)) := by
  rw [Bool.eq_iff_iff]
  simp only [List.any_eq_true, badP, Bool.not_eq_true', decide_eq_false_iff_not]
  constructor
  · rintro ⟨x, hx, hn⟩ h; have := h x hx; omega
  · intro h
    apply Classical.byContradiction
    intro hn
    exact h fun k hk => Classical.byContradiction fun hb => hn ⟨k, hk, by omega⟩
set_option maxHeartbeats 1000000 in
theorem isP1_any (b : Nat) (w : World) (d : Nat) (hd : d = 2 ∨ d = 3) (hb : w.cell? ⟨b, 0, none⟩ = some (.int .i64 d)) (k : Int) :
    Calls Try.prog 147 #[.int .i64 k, .pointer (some ⟨b, 0, none⟩)] w fun e w' => e = .returned (.bool (badP d k)) ∧ Below w.heap.size w w' := by
  have hp := hid (fun W => permutations_any d hd W)
  have hpl := hid (prms_length d)
  have hc : cnt d ≤ 6 ∧ 2 ≤ cnt d := by rcases hd with rfl | rfl <;> decide
  have hin := hid (fun W => within_any k 0 ((cnt d : Int) - 1) (decide (0 ≤ k ∧ k ≤ (cnt d : Int) - 1)) rfl W)
  have hr := hid (show badP d k = !decide (0 ≤ k ∧ k ≤ (cnt d : Int) - 1) from rfl)
  have ew : IntKind.i64.wrap ((cnt d : Int) - 1) = (cnt d : Int) - 1 := IntWalk.i64_in _ (by omega)
  generalize badP d k = r at *
  generalize decide (0 ≤ k ∧ k ≤ (cnt d : Int) - 1) = c at *
  generalize cnt d = C at *
  generalize prms d = P at *
  go_enter Try.func147, Try.ntmps147
  go_wp2_with (first
    | (go_at_call 122; (with_reducible refine (hp.out _).mono ?_); rintro e w1 ⟨v, rfl, hM, hb2⟩; obtain ⟨A, cp, rfl⟩ := hM.form; rw [hpl.out]; replace hb2 := hid hb2; clear hM)
    | (go_at_call 62; (with_reducible refine (hin.out _).mono ?_); rintro e w' ⟨rfl, rfl⟩))
  go_ret
  exact ⟨retB hr.out.symm, hb2.out⟩
set_option maxHeartbeats 1000000 in
set_option maxRecDepth 100000 in
theorem indexFuncI_isP (b : Nat) (w : World) (base : Nat) (v : Value) (l : List Int) (h : Own w base 2 v (ints l)) (hl : l.length < 2000000) (p : Int → Bool)
    (hcall : ∀ W, Below w.heap.size w W → ∀ x, x ∈ l → Calls Try.prog 147 #[.int .i64 x, .pointer (some ⟨b, 0, none⟩)] W fun e w' => e = .returned (.bool (p x)) ∧ Below W.heap.size W w') :
    Calls Try.prog 151 #[v, .func (.func 147) #[] #[.pointer (some ⟨b, 0, none⟩)]] w fun e w' => e = .returned (.int .i64 (idxP p l 0)) ∧ Below w.heap.size w w' := by
  have hil := ints_length l
  obtain ⟨A1, c1, rfl, _, _⟩ := h.form
  rw [hil] at h ⊢
  have hget := hid (fun (k : Nat) (x : Int) (hx : l[k]? = some x) => (show (ints l)[k]? = some (.int .i64 x) by simp [ints, hx]))
  have hcell := hid (fun (k : Nat) (x : Int) (hx : l[k]? = some x) => (show ∃ g, A1 = some ⟨g, 0, none⟩ ∧ ∀ W, Below w.heap.size w W → W.cell? ⟨g, k, none⟩ = some (.int .i64 x) from by
    obtain ⟨g1, c2, he, _, hg1⟩ := h.blk (fun e => by have h1 := congrArg List.length e; rw [hil] at h1; have h2 := (List.getElem?_eq_some_iff.1 hx).1; rw [List.length_nil] at h1; omega)
    injection he with e1 e2 e3
    subst e1
    exact ⟨g1, rfl, fun W hW => (h.below hW).cellAt k _ (hget.out k x hx)⟩))
  replace hcall := hid hcall
  clear h hil
  obtain ⟨R, hR⟩ : ∃ R, R = idxP p l 0 := ⟨_, rfl⟩
  rw [← hR]
  replace hR := hid hR
  generalize hn : l.length = n at *
  replace hn := hid hn
  go_enter Try.func151, Try.ntmps151
  go_wp2
  go_loopw [8] (fun i wr => ∃ k : Nat, k ≤ n ∧ i = .int .i64 k ∧ Hid (R = idxP p (l.drop k) k) ∧ Below w.heap.size w wr) (fun i _ => n - (intOf i).toNat)
  case atStart => exact ⟨0, Nat.zero_le _, rfl, hR, Below.refl _ _⟩
  case round =>
    obtain ⟨k, hk, rfl, hA, rB⟩ := hrel
    clear hR
    replace rB := hid rB
    by_cases hlt : k < n
    · obtain ⟨x, hx⟩ : ∃ x, l[k]? = some x := ⟨_, List.getElem?_eq_getElem (by rw [hn.out]; exact hlt)⟩
      obtain ⟨g, rfl, hc⟩ := hcell.out k x hx
      have d1 := hc wr rB.out
      have hcl := hid (hcall.out wr rB.out x (List.mem_of_getElem? hx))
      have hT := hid (fun hp => idxP_drop_t (p := p) hx hp k)
      have hF := hid (fun hp => idxP_drop_f (p := p) hx hp k)
      clear hc hx
      cases hp : p x with
      | true =>
        rw [hp] at hcl
        have hA2 := hid (hA.out.trans (hT.out hp))
        clear hp hT hF
        go_wp2_with (first
          | (go_at_call 147; (with_reducible refine (hcl.out).mono ?_); rintro e w1 ⟨rfl, hb⟩; replace rB := hid (rB.out.trans (hb.mono rB.out.size)); clear hb))
        go_ret
        exact ⟨retI (by rw [hA2.out]), rB.out⟩
      | false =>
        rw [hp] at hcl
        have hA2 := hid (hA.out.trans (hF.out hp))
        clear hp hT hF
        go_wp2_with (first
          | (go_at_call 147; (with_reducible refine (hcl.out).mono ?_); rintro e w1 ⟨rfl, hb⟩; replace rB := hid (rB.out.trans (hb.mono rB.out.size)); clear hb))
        go_roundw
        case rel => exact ⟨k + 1, by omega, by go_num, hA2, rB.out⟩
        case measure => simp [intOf]; omega
    · obtain rfl : k = n := by omega
      have hA2 := hid (hA.out.trans (show _ = (-1 : Int) by rw [List.drop_eq_nil_of_le (by rw [hn.out]; exact Nat.le_refl _)]; rfl))
      go_wp2
      go_ret
      exact ⟨retI (by rw [hA2.out]), rB.out⟩
set_option maxHeartbeats 1000000 in
theorem containsFuncI_isP (b : Nat) (w : World) (base : Nat) (v : Value) (l : List Int) (h : Own w base 2 v (ints l)) (hl : l.length < 2000000) (p : Int → Bool)
    (hcall : ∀ W, Below w.heap.size w W → ∀ x, x ∈ l → Calls Try.prog 147 #[.int .i64 x, .pointer (some ⟨b, 0, none⟩)] W fun e w' => e = .returned (.bool (p x)) ∧ Below W.heap.size W w') :
    Calls Try.prog 114 #[v, .func (.func 147) #[] #[.pointer (some ⟨b, 0, none⟩)]] w fun e w' => e = .returned (.bool (l.any p)) ∧ Below w.heap.size w w' := by
  have hi := hid (indexFuncI_isP b w base v l h hl p hcall)
  have ha := hid (idxP_any p l 0 (Int.le_refl _))
  clear hcall h hl
  generalize idxP p l 0 = r at *
  generalize l.any p = c at *
  go_enter Try.func114, Try.ntmps114
  go_wp2_with (first
    | (go_at_call 151; (with_reducible refine (hi.out).mono ?_); rintro e w1 ⟨rfl, hb⟩; replace hb := hid hb))
  go_ret
  refine ⟨retB ?_, hb.out⟩
  have h := ha.out
  rw [Bool.eq_iff_iff, ← h]
  simp
set_option maxHeartbeats 2000000 in
set_option maxRecDepth 4000 in
theorem isPortrait_any (w : World) (d n : Int) (base : Nat) (v : Value) (g : List Int) (h : Own w base 2 v (ints g)) (hl : g.length < 2000000) (r : Bool) (hr : r = decide (IsD d n ∧ IsP d.toNat n.toNat g)) :
    Calls Try.prog 106 #[.int .i64 d, .int .i64 n, v] w fun e w' => e = .returned (.bool r) ∧ Below w.heap.size w w' := by
  have hS := hid ((St.arg w h).newBlk #[.int .i64 d] 2)
  have hmf : ∀ (fn : Fn) (first cap : Array Value) (w : World), (Instr.makeFunc fn first cap).run Try.prog w = .ok (.func fn first cap) w := fun _ _ _ _ => rfl
  have hil := ints_length g
  obtain ⟨A, c, rfl, _, _⟩ := h.form
  rw [hil] at h hS ⊢
  have had := hid (fun W => areDepths_any d n (decide (IsD d n)) rfl W)
  by_cases hD : IsD d n
  · rw [decide_eq_true hD] at had
    obtain ⟨d, n, rfl, rfl, hd, hn1, hn4⟩ := hD.nat
    simp only [Int.toNat_natCast] at hr
    have hsz := hid (fun W => size_any d n hd (by omega) W)
    have hst := start_le hd hn4
    have hcb := hid (fun W (hW : Own W 0 2 (.slice A g.length c) (ints g)) (hb : W.cell? ⟨w.heap.size, 0, none⟩ = some (.int .i64 d)) (hlt : w.heap.size < W.heap.size) => containsFuncI_isP w.heap.size W 0 _ g hW hl (badP d) (fun W' hW' x _ => isP1_any w.heap.size W' d hd ((hW'.cell hlt).trans hb) x))
    by_cases he : g.length = start d n
    · have e1 : ((g.length : Int) == ((start d n : Nat) : Int)) = true := by simp [he]
      have hr2 := hid (show r = !(g.any (badP d)) by rw [hr, badP_any, Bool.not_not]; exact decide_eq_decide.2 ⟨fun h => h.2.2, fun h => ⟨hD, he, h⟩⟩)
      clear hr he
      generalize g.any (badP d) = q at *
      generalize start d n = R at *
      replace h := hid h
      have c0 := blkc hS.out.k0
      go_enter Try.func106, Try.ntmps106
      go_wp2_with (first
        | (go_at_call 103; (with_reducible refine (had.out _).mono ?_); rintro e w' ⟨rfl, rfl⟩)
        | (go_at_call 108; (with_reducible refine (hsz.out _).mono ?_); rintro e w' ⟨rfl, rfl⟩)
        | (go_at_call 114; (with_reducible refine (hcb.out _ hS.out.o1 (blkc hS.out.k0) (by rw [heap_alloc_size]; omega)).mono ?_); rintro e w2 ⟨rfl, hb⟩; replace hS := hid (hS.out.call hb); clear hb))
      go_ret
      exact ⟨retB hr2.out.symm, hS.out.bel⟩
    · have e1 : ((g.length : Int) == ((start d n : Nat) : Int)) = false := by simp; omega
      have hr2 := hid (show r = false by rw [hr]; exact decide_eq_false fun h => he h.2.1)
      clear hr he
      generalize start d n = R at *
      replace h := hid h
      have c0 := blkc hS.out.k0
      go_enter Try.func106, Try.ntmps106
      go_wp2_with (first
        | (go_at_call 103; (with_reducible refine (had.out _).mono ?_); rintro e w' ⟨rfl, rfl⟩)
        | (go_at_call 108; (with_reducible refine (hsz.out _).mono ?_); rintro e w' ⟨rfl, rfl⟩))
      go_ret
      exact ⟨retB hr2.out.symm, hS.out.bel⟩
  · rw [decide_eq_false hD] at had
    have hr2 := hid (show r = false by rw [hr]; exact decide_eq_false fun h => hD h.1)
    clear hr hD
    replace h := hid h
    have c0 := blkc hS.out.k0
    go_enter Try.func106, Try.ntmps106
    go_wp2_with (first
      | (go_at_call 103; (with_reducible refine (had.out _).mono ?_); rintro e w' ⟨rfl, rfl⟩))
    go_ret
    exact ⟨retB hr2.out.symm, hS.out.bel⟩
/-- Some list is no portrait. -/
def badG (d n : Int) (g : List Int) : Bool := !decide (IsD d n ∧ IsP d.toNat n.toNat g)
set_option maxHeartbeats 1000000 in
theorem pc1_any (b b2 : Nat) (w : World) (d n : Int) (hb : w.cell? ⟨b, 0, none⟩ = some (.int .i64 d)) (hb2 : w.cell? ⟨b2, 0, none⟩ = some (.int .i64 n)) (base : Nat) (v : Value) (g : List Int) (h : Own w base 2 v (ints g)) (hl : g.length < 2000000) :
    Calls Try.prog 105 #[v, .pointer (some ⟨b, 0, none⟩), .pointer (some ⟨b2, 0, none⟩)] w fun e w' => e = .returned (.bool (badG d n g)) ∧ Below w.heap.size w w' := by
  have hi := hid (isPortrait_any w d n base v g h hl (decide (IsD d n ∧ IsP d.toNat n.toNat g)) rfl)
  have hr := hid (show badG d n g = !decide (IsD d n ∧ IsP d.toNat n.toNat g) from rfl)
  rw [hr.out]
  clear h hr
  generalize decide (IsD d n ∧ IsP d.toNat n.toNat g) = r at *
  go_enter Try.func105, Try.ntmps105
  go_wp2_with (first
    | (go_at_call 106; (with_reducible refine (hi.out).mono ?_); rintro e w1 ⟨rfl, hb⟩; have hB := hid hb; clear hb))
  go_ret
  exact ⟨rfl, hB.out⟩
set_option maxHeartbeats 1000000 in
set_option maxRecDepth 100000 in
theorem indexFuncM_pc (b b2 : Nat) (w : World) (base : Nat) (v : Value) (M : List (List Int)) (h : Mat w base v M) (hl : M.length < 2000000) (p : List Int → Bool)
    (hcall : ∀ W, Below w.heap.size w W → ∀ r row, row ∈ M → Own W base 2 r (ints row) → Calls Try.prog 105 #[r, .pointer (some ⟨b, 0, none⟩), .pointer (some ⟨b2, 0, none⟩)] W fun e w' => e = .returned (.bool (p row)) ∧ Below W.heap.size W w') :
    Calls Try.prog 121 #[v, .func (.func 105) #[] #[.pointer (some ⟨b, 0, none⟩), .pointer (some ⟨b2, 0, none⟩)]] w fun e w' => e = .returned (.int .i64 (idxP p M 0)) ∧ Below w.heap.size w w' := by
  obtain ⟨rows, hO, hrl, hrow⟩ := h
  obtain ⟨A1, c1, rfl, _, _⟩ := hO.form
  rw [hrl] at hO ⊢
  have hcell := hid (fun (k : Nat) (x : List Int) (hx : M[k]? = some x) => (show ∃ g r, A1 = some ⟨g, 0, none⟩ ∧ ∀ W, Below w.heap.size w W → W.cell? ⟨g, k, none⟩ = some r ∧ Own W base 2 r (ints x) from by
    have hk := (List.getElem?_eq_some_iff.1 hx).1
    obtain ⟨g1, c2, he, _, hg1⟩ := hO.blk (fun e => by rw [e] at hrl; rw [← hrl] at hk; simp at hk)
    injection he with e1 e2 e3
    subst e1
    obtain ⟨r, hr⟩ : ∃ r, rows[k]? = some r := ⟨_, List.getElem?_eq_getElem (by rw [hrl]; exact hk)⟩
    exact ⟨g1, r, rfl, fun W hW => ⟨(hO.below hW).cellAt k _ hr, (hrow k r x hr hx).below hW⟩⟩))
  replace hcall := hid hcall
  clear hO hrow
  obtain ⟨R, hR⟩ : ∃ R, R = idxP p M 0 := ⟨_, rfl⟩
  rw [← hR]
  replace hR := hid hR
  generalize hn : M.length = n at *
  replace hn := hid hn
  go_enter Try.func121, Try.ntmps121
  go_wp2
  go_loopw [8] (fun i wr => ∃ k : Nat, k ≤ n ∧ i = .int .i64 k ∧ Hid (R = idxP p (M.drop k) k) ∧ Below w.heap.size w wr) (fun i _ => n - (intOf i).toNat)
  case atStart => exact ⟨0, Nat.zero_le _, rfl, hR, Below.refl _ _⟩
  case round =>
    obtain ⟨k, hk, rfl, hA, rB⟩ := hrel
    clear hR
    replace rB := hid rB
    by_cases hlt : k < n
    · obtain ⟨x, hx⟩ : ∃ x, M[k]? = some x := ⟨_, List.getElem?_eq_getElem (by rw [hn.out]; exact hlt)⟩
      obtain ⟨g, r, rfl, hc⟩ := hcell.out k x hx
      have d1 := (hc wr rB.out).1
      have hcl := hid (hcall.out wr rB.out r x (List.mem_of_getElem? hx) (hc wr rB.out).2)
      have hT := hid (fun hp => idxP_drop_t (p := p) hx hp k)
      have hF := hid (fun hp => idxP_drop_f (p := p) hx hp k)
      clear hc hx
      cases hp : p x with
      | true =>
        rw [hp] at hcl
        have hA2 := hid (hA.out.trans (hT.out hp))
        clear hp hT hF
        go_wp2_with (first
          | (go_at_call 105; (with_reducible refine (hcl.out).mono ?_); rintro e w1 ⟨rfl, hb⟩; replace rB := hid (rB.out.trans (hb.mono rB.out.size)); clear hb))
        go_ret
        exact ⟨retI (by rw [hA2.out]), rB.out⟩
      | false =>
        rw [hp] at hcl
        have hA2 := hid (hA.out.trans (hF.out hp))
        clear hp hT hF
        go_wp2_with (first
          | (go_at_call 105; (with_reducible refine (hcl.out).mono ?_); rintro e w1 ⟨rfl, hb⟩; replace rB := hid (rB.out.trans (hb.mono rB.out.size)); clear hb))
        go_roundw
        case rel => exact ⟨k + 1, by omega, by go_num, hA2, rB.out⟩
        case measure => simp [intOf]; omega
    · obtain rfl : k = n := by omega
      have hA2 := hid (hA.out.trans (show _ = (-1 : Int) by rw [List.drop_eq_nil_of_le (by rw [hn.out]; exact Nat.le_refl _)]; rfl))
      go_wp2
      go_ret
      exact ⟨retI (by rw [hA2.out]), rB.out⟩
set_option maxHeartbeats 1000000 in
theorem containsFuncM_pc (b b2 : Nat) (w : World) (base : Nat) (v : Value) (M : List (List Int)) (h : Mat w base v M) (hl : M.length < 2000000) (p : List Int → Bool)
    (hcall : ∀ W, Below w.heap.size w W → ∀ r row, row ∈ M → Own W base 2 r (ints row) → Calls Try.prog 105 #[r, .pointer (some ⟨b, 0, none⟩), .pointer (some ⟨b2, 0, none⟩)] W fun e w' => e = .returned (.bool (p row)) ∧ Below W.heap.size W w') :
    Calls Try.prog 104 #[v, .func (.func 105) #[] #[.pointer (some ⟨b, 0, none⟩), .pointer (some ⟨b2, 0, none⟩)]] w fun e w' => e = .returned (.bool (M.any p)) ∧ Below w.heap.size w w' := by
  have hi := hid (indexFuncM_pc b b2 w base v M h hl p hcall)
  have ha := hid (idxP_any p M 0 (Int.le_refl _))
  clear hcall h hl
  generalize idxP p M 0 = r at *
  generalize M.any p = c at *
  go_enter Try.func104, Try.ntmps104
  go_wp2_with (first
    | (go_at_call 121; (with_reducible refine (hi.out).mono ?_); rintro e w1 ⟨rfl, hb⟩; replace hb := hid hb))
  go_ret
  refine ⟨retB ?_, hb.out⟩
  have h := ha.out
  rw [Bool.eq_iff_iff, ← h]
  simp
set_option maxHeartbeats 2000000 in
set_option maxRecDepth 4000 in
theorem portraitCode_any (w : World) (d n : Int) (base : Nat) (v : Value) (M : List (List Int)) (h : Mat w base v M) (hl : M.length < 2000000) (hlr : ∀ row ∈ M, row.length < 2000000) :
    Calls Try.prog 52 #[.int .i64 d, .int .i64 n, v] w fun e w' => e = .returned (.int .i64 (pcode d n M)) ∧ Below w.heap.size w w' := by
  have hS := ((St.start w).newBlk #[.int .i64 d] 2).newBlk #[.int .i64 n] 2
  rw [heap_alloc_size] at hS
  replace hS := hid hS
  have hmf : ∀ (fn : Fn) (first cap : Array Value) (w : World), (Instr.makeFunc fn first cap).run Try.prog w = .ok (.func fn first cap) w := fun _ _ _ _ => rfl
  have had := hid (fun W => areDepths_any d n (decide (IsD d n)) rfl W)
  have c0 := blkc hS.out.k0
  have c1 := blkc hS.out.k1
  by_cases hD : IsD d n
  · rw [decide_eq_true hD] at had
    have hpc := hid (show pcode d n M = if M.any (badG d n) = true then 1 else 0 by
      unfold pcode
      rw [if_pos hD]
      by_cases hh : ∀ g ∈ M, IsP d.toNat n.toNat g
      · rw [if_pos hh, if_neg]
        rw [List.any_eq_true]
        rintro ⟨x, hx, hb⟩
        unfold badG at hb
        simp [hD, hh x hx] at hb
      · rw [if_neg hh, if_pos]
        rw [List.any_eq_true]
        apply Classical.byContradiction
        intro hn
        refine hh fun g hg => Classical.byContradiction fun hb => hn ⟨g, hg, ?_⟩
        unfold badG
        simp [hb])
    have hc := hid (fun W (hM : Mat W base v M) (h0 : W.cell? ⟨w.heap.size, 0, none⟩ = some (.int .i64 d)) (h1 : W.cell? ⟨w.heap.size + 1, 0, none⟩ = some (.int .i64 n)) (hlt : w.heap.size + 1 < W.heap.size) =>
      containsFuncM_pc w.heap.size (w.heap.size + 1) W base v M hM hl (badG d n) (fun W' hW' r row hr hO => pc1_any _ _ W' d n ((hW'.cell (by dsimp only; omega)).trans h0) ((hW'.cell (by dsimp only; omega)).trans h1) base r row hO (hlr row hr)))
    have hM2 := hid (h.below hS.out.bel)
    replace h := hid h
    clear hD
    rw [hpc.out]
    clear hpc
    generalize M.any (badG d n) = q at *
    cases q with
    | true =>
      go_enter Try.func52, Try.ntmps52
      go_wp2_with (first
        | (go_at_call 103; (with_reducible refine (had.out _).mono ?_); rintro e w' ⟨rfl, rfl⟩)
        | (go_at_call 104; (with_reducible refine (hc.out _ hM2.out (blkc hS.out.k1) (blkc hS.out.k0) (by rw [heap_alloc_size, heap_alloc_size]; omega)).mono ?_); rintro e w2 ⟨rfl, hb⟩; replace hS := hid (hS.out.call hb); clear hb))
      go_ret
      exact ⟨rfl, hS.out.bel⟩
    | false =>
      go_enter Try.func52, Try.ntmps52
      go_wp2_with (first
        | (go_at_call 103; (with_reducible refine (had.out _).mono ?_); rintro e w' ⟨rfl, rfl⟩)
        | (go_at_call 104; (with_reducible refine (hc.out _ hM2.out (blkc hS.out.k1) (blkc hS.out.k0) (by rw [heap_alloc_size, heap_alloc_size]; omega)).mono ?_); rintro e w2 ⟨rfl, hb⟩; replace hS := hid (hS.out.call hb); clear hb))
      go_ret
      exact ⟨rfl, hS.out.bel⟩
  · rw [decide_eq_false hD] at had
    have hpc := hid (show pcode d n M = 2 by unfold pcode; rw [if_neg hD])
    rw [hpc.out]
    replace h := hid h
    clear hD hpc
    go_enter Try.func52, Try.ntmps52
    go_wp2_with (first
      | (go_at_call 103; (with_reducible refine (had.out _).mono ?_); rintro e w' ⟨rfl, rfl⟩))
    go_ret
    exact ⟨rfl, hS.out.bel⟩
theorem place_any (d : Nat) (hd : d = 2 ∨ d = 3) (u : List Nat) (hu : ∀ x ∈ u, x < d) (hn : u.length ≤ 5) (w : World) :
    Calls Try.prog 56 #[.int .i64 d, .string (wstr u)] w fun e w' => e = .returned (.int .i64 (start d u.length + num d u : Nat)) ∧ w = w' := by
  have hb : pw d u.length ≤ 243 := pw5 hd hn
  have hs := hid (fun W => size_any d u.length hd hn W)
  have hnm := hid (fun W => numberOf_any d (by omega) (by omega) u hu (by omega) (by omega) W)
  have hlt := num_lt d u.length u rfl hu
  have hsz := wstr_size u
  have hst : start d u.length ≤ 243 := by
    have := start_pw d (by omega) u.length
    have h2 : start d u.length ≤ start d u.length * (d - 1) := Nat.le_mul_of_pos_right _ (by omega)
    omega
  generalize num d u = N at *
  generalize start d u.length = R at *
  clear hu
  generalize u.length = L at *
  generalize wstr u = ws at *
  go_enter Try.func56, Try.ntmps56
  go_wp2_with (first
    | (go_at_call 108; (with_reducible refine (hs.out _).mono ?_); rintro e w' ⟨rfl, rfl⟩)
    | (go_at_call 109; (with_reducible refine (hnm.out _).mono ?_); rintro e w' ⟨rfl, rfl⟩))
  go_ret
  exact ⟨retI (by simp), rfl⟩
end Go.Proofs.Ythempofohidlnaa
