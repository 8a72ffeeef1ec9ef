/- What the proof of FnLevelOrders leans on, part 19 of 21. -/
import Derived.Test.YthmcdfjijkecfaaGreatZFnLevelOrdersR
/- Texts damaged, words drawn. -/
namespace Go.Proofs.YthmcdfjijkecfaaGreat
open Go.RowKit
set_option linter.unusedVariables false
set_option linter.unusedSimpArgs false
-- @LONG

section
variable {w0 w : World} {S : Nat} {v : Value} {l : List Nat} {L : List Asn}
/-- The signs that are put in. -/
def sg13 : List ByteArray := [{ data := #[48] }, { data := #[49] }, { data := #[50] }, { data := #[51] }, { data := #[97] }, { data := #[98] }, { data := #[112] }, { data := #[113] }, { data := #[58] }, { data := #[44] }, { data := #[32] }, { data := #[45] }, { data := #[10] }]
theorem sg13_S : ∀ t ∈ sg13, t.size = 1 := by decide +kernel
set_option maxHeartbeats 4000000 in
set_option maxRecDepth 100000 in
theorem Dg.damage (D : Dg w0 S v l) (t : ByteArray) (ht : t.size ≤ 1000) (hS : St w0.heap.size w0 (Asn.src S v l.length :: L) w) :
    Calls Tryz.prog 213 #[.pointer (some ⟨S, 0, none⟩), .string t] w fun e w' => ∃ u : ByteArray, e = .returned (.string u) ∧ Hid (u.size ≤ t.size + 1) ∧ St w0.heap.size w0 (Asn.src S v l.length :: L) w' := by
  have hN := hid (fun W L n (h0 : n ≤ 1000000000) hW => D.next (w := W) (L := L) n h0 hW)
  have hS := hid ((hS.newOwn [.string { data := #[48] }, .string { data := #[49] }, .string { data := #[50] }, .string { data := #[51] }, .string { data := #[97] }, .string { data := #[98] }, .string { data := #[112] }, .string { data := #[113] }, .string { data := #[58] }, .string { data := #[44] }, .string { data := #[32] }, .string { data := #[45] }, .string { data := #[10] }] 9 (by simp)).f1)
  have htx := hid (fun W L r (hr : r < 13) (hW : St w0.heap.size w0 (Asn.src S v l.length :: Asn.own w0.heap.size 9 (.slice (some ⟨w.heap.size, 0, none⟩) 13 13) [.string { data := #[48] }, .string { data := #[49] }, .string { data := #[50] }, .string { data := #[51] }, .string { data := #[97] }, .string { data := #[98] }, .string { data := #[112] }, .string { data := #[113] }, .string { data := #[58] }, .string { data := #[44] }, .string { data := #[32] }, .string { data := #[45] }, .string { data := #[10] }] :: L) W) => (show ∃ c, W.cell? ⟨w.heap.size, r, none⟩ = some (.string c) ∧ c.size = 1 from by
    have hr' : r < sg13.length := hr
    have hm := sg13_S sg13[r] (List.getElem_mem hr')
    exact ⟨sg13[r], hW.o1.cellAt r _ (by rw [show ([.string { data := #[48] }, .string { data := #[49] }, .string { data := #[50] }, .string { data := #[51] }, .string { data := #[97] }, .string { data := #[98] }, .string { data := #[112] }, .string { data := #[113] }, .string { data := #[58] }, .string { data := #[44] }, .string { data := #[32] }, .string { data := #[45] }, .string { data := #[10] }] : List Value) = strs sg13 from rfl]; simp [strs, List.getElem?_eq_getElem hr']), hm⟩))
  simp only [List.length_cons, List.length_nil, Nat.reduceAdd] at hS
  clear D
  go_enter Tryz.func213, Tryz.ntmps213
  go_upto_region 2 with (fail)
  generalize World.alloc w _ = wA at *
  generalize ([.string { data := #[48] }, .string { data := #[49] }, .string { data := #[50] }, .string { data := #[51] }, .string { data := #[97] }, .string { data := #[98] }, .string { data := #[112] }, .string { data := #[113] }, .string { data := #[58] }, .string { data := #[44] }, .string { data := #[32] }, .string { data := #[45] }, .string { data := #[10] }] : List Value) = cs at *
  generalize w.heap.size = gT at *
  have mk1 : True := trivial
  go_upto_if 18 with (first
    | (go_at_call 130; (with_reducible refine (hN.out _ _ _ (by omega) hS.out).mono ?_); rintro e w2 ⟨r, rfl, hr, hS'⟩; (have hr8 : r < 13 := by omega); (have hr9 : (r : Int) < 13 := by omega); (have r0 : (0 : Int) ≤ (r : Int) := Int.natCast_nonneg _); (refine Exists.elim (htx.out w2 _ r hr8 hS') ?_); rintro c ⟨ct, hc⟩; replace hS := hid hS'; clear hS' hr))
  replace hS := hid hS.out.f1.drop
  clear ct htx r0 hr9
  by_cases h0 : t.size = 0
  · have d0 : ((t.size : Int) == 0) = true := beq_iff_eq.2 (by omega)
    go_wp2
    go_ret
    exact ⟨c, rfl, hid (by omega), hS.out⟩
  · have d0 : ((t.size : Int) == 0) = false := beq_eq_false_iff_ne.2 (by omega)
    go_upto_region 7 with (first
      | (go_at_call 130; clear mk1; (with_reducible refine (hN.out _ _ _ (by omega) hS.out).mono ?_); rintro e w3 ⟨k, rfl, hk, hS'⟩; (have hk1 : k < t.size := by omega); replace hS := hid hS'; clear hS' hk)
      | (go_at_call 130; (with_reducible refine (hN.out _ _ _ (by omega) hS.out).mono ?_); rintro e w4 ⟨z, rfl, _, hS'⟩; replace hS := hid hS'; clear hS'))
    have k0 : (0 : Int) ≤ (k : Int) := Int.natCast_nonneg _
    have k1 : (k : Int) < (t.size : Int) := by omega
    have ek : IntKind.i64.wrap ((k : Int) + 1) = ((k + 1 : Nat) : Int) := by rw [IntWalk.i64_in _ (by omega)]; omega
    by_cases z0 : z = 0
    · subst z0
      go_upto_region 8 with (fail)
      go_quiet (fail)
      go_wp2
      go_ret
      exact ⟨_, rfl, hid (by simp only [ByteArray.size_append, ByteArray.size_extract]; omega), hS.out.drewN nq⟩
    · have z0' : ((z : Int) == 0) = false := by simp; omega
      by_cases z1 : z = 1
      · subst z1
        go_upto_region 10 with (fail)
        go_quiet (fail)
        go_wp2
        go_ret
        exact ⟨_, rfl, hid (by simp only [ByteArray.size_append, ByteArray.size_extract]; omega), hS.out.drewN nq⟩
      · have z1' : ((z : Int) == 1) = false := by simp; omega
        go_upto_region 11 with (fail)
        go_quiet (fail)
        go_wp2
        go_ret
        exact ⟨_, rfl, hid (by simp only [ByteArray.size_append, ByteArray.size_extract]; omega), hS.out.drewN nq⟩
set_option maxHeartbeats 4000000 in
set_option maxRecDepth 100000 in
theorem Dg.wordy (D : Dg w0 S v l) (m : Mach) (hS : St w0.heap.size w0 (Asn.src S v l.length :: L) w) :
    Calls Tryz.prog 131 #[.pointer (some ⟨S, 0, none⟩), .agg (mcells m)] w fun e w' => ∃ u : ByteArray, e = .returned (.string u) ∧ Hid (u.size ≤ 50) ∧ St w0.heap.size w0 (Asn.src S v l.length :: L) w' := by
  have hN := hid (fun W L n (h0 : n ≤ 1000000000) hW => D.next (w := W) (L := L) n h0 hW)
  have hP := hid (fun W L b2 v2 M hM hMl hW => D.pick (w := W) (L := L) (b2 := b2) (v2 := v2) M hM hMl hW)
  have hW := hid (fun W L d n hn hW => D.word (w := W) (L := L) d n hn hW)
  have hDm := hid (fun W L t ht hW => D.damage (w := W) (L := L) t ht hW)
  have hpr := hid (fun (r : Int) (hr : r ∈ [0, 1, 2, 3, 4, 5, 6, 9, 40, (41 : Int)]) => (show r ≤ 41 from by
    simp only [List.mem_cons, List.not_mem_nil, or_false] at hr
    rcases hr with rfl | rfl | rfl | rfl | rfl | rfl | rfl | rfl | rfl | rfl <;> omega))
  have hS := hid ((hS.newMB m 27).f1)
  have hcL := hid (fun W L (hW : St w0.heap.size w0 (Asn.src S v l.length :: Asn.mb 27 w.heap.size m :: L) W) => hW.m1.cL)
  clear D
  go_enter Tryz.func131, Tryz.ntmps131
  go_upto_region 1 with (fail)
  generalize World.alloc w _ = wA at *
  generalize w.heap.size = b3 at *
  replace hS := hid hS.out.drew
  refine wp_region_heldL (L := [(6, (fun w' : World => w'.cell? ⟨b3, 0, none⟩ = some (.int .i64 m.L)))]) (by kernel_rfl) (HeldL.cons (fun _ => hcL.out _ _ hS.out) HeldL.nil) (fun hHeld => ?_)
  generalize World.drew wA = wa at *
  refine wpAnyL_take0 (i := 0) (v := ?_) rfl (by kernel_rfl) (by kernel_rfl) (by kernel_rfl) (by rfl) (fun _ _ _ h => h) (Or.inl ⟨by rfl, ?_⟩) (by assumption) ?_
  rotate_left
  · (intro W _; go_simp; (with_reducible rfl))
  intro hHeld'
  clear hHeld; have hHeld := hHeld'; clear hHeld'
  try simp only [Act.put, List.getElem_toArray, List.getElem_cons_succ, List.getElem_cons_zero, List.setIfInBounds_toArray, List.set_cons_zero, List.set_cons_succ]
  refine wpAnyL_take0 (i := 1) (v := ?_) rfl (by kernel_rfl) (by kernel_rfl) (by kernel_rfl) (by rfl) (fun _ _ _ h => h) (Or.inl ⟨by rfl, ?_⟩) (by assumption) ?_
  rotate_left
  · (intro W _; go_simp; (with_reducible rfl))
  intro hHeld'
  clear hHeld; have hHeld := hHeld'; clear hHeld'
  try simp only [Act.put, List.getElem_toArray, List.getElem_cons_succ, List.getElem_cons_zero, List.setIfInBounds_toArray, List.set_cons_zero, List.set_cons_succ]
  refine wpAnyL_takeP (i := 2) 6 [] (v := ?_) (fun w' : World => w'.cell? ⟨b3, 0, none⟩ = some (.int .i64 m.L)) rfl (by kernel_rfl) (by kernel_rfl) (by kernel_rfl) (by rfl) (by kernel_rfl) (by simp) (fun _ _ _ h => h) (Or.inl ⟨by rfl, ?_⟩) (by assumption) ?_
  rotate_left
  · (intro W hW; go_simp; (with_reducible rfl))
  intro hHeld'
  clear hHeld; have hHeld := hHeld'; clear hHeld'
  try simp only [Act.put, List.getElem_toArray, List.getElem_cons_succ, List.getElem_cons_zero, List.setIfInBounds_toArray, List.set_cons_zero, List.set_cons_succ]
  refine wpAnyL_take0 (i := 3) (v := ?_) rfl (by kernel_rfl) (by kernel_rfl) (by kernel_rfl) (by rfl) (fun _ _ _ h => h) (Or.inl ⟨by rfl, ?_⟩) (by assumption) ?_
  rotate_left
  · (intro W _; go_simp; (with_reducible rfl))
  intro hHeld'
  clear hHeld; have hHeld := hHeld'; clear hHeld'
  try simp only [Act.put, List.getElem_toArray, List.getElem_cons_succ, List.getElem_cons_zero, List.setIfInBounds_toArray, List.set_cons_zero, List.set_cons_succ]
  refine wpAnyL_ready (rs := [4]) (by kernel_rfl) (by simp) ?_
  refine AllReadyL.cons rfl (fun K hK => ?_) AllReadyL.nil
  go_simp
  have hS2 := hS.out.list [.int .i64 0, .int .i64 1, .int .i64 2, .int .i64 3, .int .i64 4, .int .i64 5, .int .i64 6, .int .i64 9, .int .i64 40, .int .i64 41] (by simp)
  refine hK.out _ _ (HeldL.cons (fun _ => hS2.m2.cL) HeldL.nil) (fun hHeld' => ?_)
  clear hK K hHeld; have hHeld := hHeld'; clear hHeld'
  try simp only [Act.put, List.getElem_toArray, List.getElem_cons_succ, List.getElem_cons_zero, List.setIfInBounds_toArray, List.set_cons_zero, List.set_cons_succ]
  refine wpAnyL_ready (rs := [5]) (by kernel_rfl) (by simp) ?_
  refine AllReadyL.cons rfl (fun K hK => ?_) AllReadyL.nil
  go_simp
  (with_reducible refine (hP.out _ _ _ _ [0, 1, 2, 3, 4, 5, 6, 9, 40, 41] (by simp) (by simp) hS2).mono ?_)
  rintro e w6 ⟨r, rfl, hr, hS'⟩
  have hr' := hpr.out r hr
  replace hS := hid hS'
  clear hS' hS2 hr
  go_simp
  refine hK.out _ _ (HeldL.cons (fun _ => hcL.out _ _ hS.out) HeldL.nil) (fun hHeld' => ?_)
  clear hK K hHeld; have hHeld := hHeld'; clear hHeld'
  try simp only [Act.put, List.getElem_toArray, List.getElem_cons_succ, List.getElem_cons_zero, List.setIfInBounds_toArray, List.set_cons_zero, List.set_cons_succ]
  refine wpAnyL_ready (rs := [6]) (by kernel_rfl) (by simp) ?_
  refine AllReadyL.cons rfl (fun K hK => ?_) AllReadyL.nil
  go_simp
  (with_reducible refine (hW.out _ _ m.L r hr' hS.out).mono ?_)
  rintro e w7 ⟨u, rfl, hu, hS'⟩
  replace hS := hid hS'.f1.drop
  clear hS'
  go_simp
  refine hK.out _ _ (HeldL.cons (fun h => absurd h (by decide +kernel)) HeldL.nil) (fun hHeld' => ?_)
  clear hK K hHeld; have hHeld := hHeld'; clear hHeld'
  try simp only [Act.put, List.getElem_toArray, List.getElem_cons_succ, List.getElem_cons_zero, List.setIfInBounds_toArray, List.set_cons_zero, List.set_cons_succ]
  refine wpAnyL_take0 (i := 7) (v := ?_) rfl (by kernel_rfl) (by kernel_rfl) (by kernel_rfl) (by rfl) (fun _ _ _ h => h) (Or.inl ⟨by rfl, ?_⟩) (by assumption) ?_
  rotate_left
  · (intro W _; go_simp; (with_reducible rfl))
  intro hHeld'
  clear hHeld; have hHeld := hHeld'; clear hHeld'
  try simp only [Act.put, List.getElem_toArray, List.getElem_cons_succ, List.getElem_cons_zero, List.setIfInBounds_toArray, List.set_cons_zero, List.set_cons_succ]
  refine wpAnyL_done (by kernel_rfl) ?_ _
  have hus := hid (show (wstr u).size ≤ 41 from by rw [wstr_size]; exact hu.out.1)
  generalize wstr u = us at *
  go_wp2_with (first
    | (go_at_call 130; (with_reducible refine (hN.out _ _ _ (by omega) hS.out).mono ?_); rintro e w8 ⟨z, rfl, _, hS'⟩; replace hS := hid hS'; clear hS')
    | (go_at_call 213; (with_reducible refine (hDm.out _ _ us (by have := hus.out; omega) hS.out).mono ?_); rintro e w9 ⟨u2, rfl, hu2, hS'⟩; replace hS := hid hS'; clear hS'))
  all_goals go_ret
  all_goals first
    | exact ⟨u2, rfl, hid (by have := hu2.out; have := hus.out; omega), hS.out⟩
    | exact ⟨us, rfl, hid (by have := hus.out; omega), hS.out⟩
end
end Go.Proofs.YthmcdfjijkecfaaGreat

/- What the great laws ask first, and equal lists of texts. -/
namespace Go.Proofs.YthmcdfjijkecfaaGreat
open Go.RowKit
set_option linter.unusedVariables false
set_option linter.unusedSimpArgs false
-- @LONG

set_option maxHeartbeats 2000000 in
set_option maxRecDepth 100000 in
theorem texts9_any (w : World) (b1 b2 : Nat) (v1 v2 : Value) (M : List ByteArray) (h1 : Own w b1 9 v1 (strs M)) (h2 : Own w b2 9 v2 (strs M)) (hl : M.length ≤ 1000) :
    Calls Tryz.prog 40 #[v1, v2] w fun e w' => e = .returned (.bool true) ∧ Below w.heap.size w w' := by
  obtain ⟨A1, c1, rfl, _, hA1⟩ := h1.form
  obtain ⟨A2, c2, rfl, _, hA2⟩ := h2.form
  rw [strs_length] at *
  have hg := hid (fun k (hk : k < M.length) => (show ∃ (x : ByteArray) (g1 g2 : Nat), A1 = some ⟨g1, 0, none⟩ ∧ A2 = some ⟨g2, 0, none⟩ ∧ w.cell? ⟨g1, k, none⟩ = some (.string x) ∧ w.cell? ⟨g2, k, none⟩ = some (.string x) ∧ g1 < w.heap.size ∧ g2 < w.heap.size from by
    have hx : (strs M)[k]? = some (.string M[k]) := by simp [strs, hk]
    rcases hA1 with ⟨_, h, _⟩ | ⟨g1, e1, _, l1, q1⟩
    · rw [h] at hx; simp at hx
    · rcases hA2 with ⟨_, h, _⟩ | ⟨g2, e2, _, l2, q2⟩
      · rw [h] at hx; simp at hx
      · exact ⟨_, g1, g2, e1, e2, q1 k _ hx, q2 k _ hx, l1, l2⟩))
  clear hA1 hA2 h1 h2
  generalize M.length = n at *
  go_enter Tryz.func40, Tryz.ntmps40
  go_wp2
  go_loopw [5] (fun i wr => ∃ k : Nat, k ≤ n ∧ i = .int .i64 k ∧ Below w.heap.size w wr) (fun i _ => n - (intOf i).toNat)
  case atStart => exact ⟨0, Nat.zero_le _, rfl, Below.refl _ _⟩
  case round =>
    obtain ⟨k, hk, rfl, rB⟩ := hrel
    by_cases hlt : k < n
    · have dk : decide ((k : Int) < (n : Int)) = true := decide_eq_true (by omega)
      obtain ⟨x, g1, g2, rfl, rfl, q1, q2, l1, l2⟩ := hg.out k hlt
      have d1 := (rB.cell (p := ⟨g1, k, none⟩) l1).trans q1
      have d2 := (rB.cell (p := ⟨g2, k, none⟩) l2).trans q2
      have k0 : (0 : Int) ≤ (k : Int) := Int.natCast_nonneg _
      have k1 : (k : Int) < (n : Int) := by omega
      replace rB := hid rB
      go_upto_region 6 with (fail)
      go_quiet (fail)
      go_wp2
      go_roundw
      case rel => exact ⟨k + 1, by omega, by go_num, below_drewN rB.out _⟩
      case measure => simp [intOf]; omega
    · obtain rfl : k = n := by omega
      have dk : decide ((k : Int) < (k : Int)) = false := decide_eq_false (by omega)
      go_wp2
      go_ret
      exact ⟨rfl, rB⟩
end Go.Proofs.YthmcdfjijkecfaaGreat

/- A machine drawn: a known one or any, seldom spoilt. -/
namespace Go.Proofs.YthmcdfjijkecfaaGreat
open Go.RowKit
set_option linter.unusedVariables false
set_option linter.unusedSimpArgs false
-- @LONG

/-- The texts of the known machines. -/
def tx8 : List ByteArray := [{ data := #[50, 58, 48, 97, 49, 97, 44, 49, 97, 48, 98] }, { data := #[50, 58, 48, 97, 49, 97, 44, 49, 97, 48, 97, 44, 48, 98, 49, 100, 44, 48, 98, 49, 101, 44, 48, 97, 49, 99] }, { data := #[50, 58, 48, 97, 49, 97, 44, 48, 97, 49, 99, 44, 49, 97, 48, 98] }, { data := #[50, 58, 48, 97, 49, 98, 44, 49, 97, 48, 98] }, { data := #[51, 58, 48, 97, 49, 97, 50, 97, 44, 49, 97, 48, 97, 50, 98, 44, 50, 97, 49, 99, 48, 97, 44, 48, 100, 50, 97, 49, 97] }, { data := #[51, 58, 48, 97, 49, 97, 50, 97, 44, 49, 97, 50, 97, 48, 97, 44, 48, 98, 49, 99, 50, 100, 44, 50, 97, 48, 97, 49, 97] }, { data := #[50, 58, 49, 98, 48, 99, 44, 48, 99, 49, 99, 44, 49, 97, 48, 98] }, { data := #[50, 58, 48, 98, 49, 97, 44, 49, 98, 48, 97] }]
def tx7 : List ByteArray := [{ data := #[50, 58, 48, 97, 49, 97, 44, 49, 97, 48, 98] }, { data := #[50, 58, 48, 97, 49, 97, 44, 48, 97, 49, 99, 44, 49, 97, 48, 98] }, { data := #[50, 58, 48, 97, 49, 97, 44, 49, 97, 48, 97, 44, 48, 98, 49, 100, 44, 48, 98, 49, 101, 44, 48, 97, 49, 99] }, { data := #[50, 58, 48, 98, 49, 97, 44, 49, 98, 48, 97] }, { data := #[51, 58, 48, 97, 49, 97, 50, 97, 44, 49, 97, 48, 97, 50, 98] }, { data := #[50, 58, 48, 97, 49, 98, 44, 49, 97, 48, 98] }, { data := #[51, 58, 48, 97, 49, 97, 50, 97, 44, 49, 97, 50, 97, 48, 98] }]
theorem tx8_S : ∀ t ∈ tx8, (rdS t).length ≤ 8 ∧ t.size ≤ 1000 := by decide +kernel
theorem tx7_S : ∀ t ∈ tx7, (rdS t).length ≤ 8 ∧ t.size ≤ 1000 := by decide +kernel
theorem rdAns_S {t : ByteArray} (h : (rdS t).length ≤ 8) : 0 ≤ (rdAns t).1.S ∧ (rdAns t).1.S ≤ 8 := by
  unfold rdAns
  split
  · have e : (rdM (bt t 0 - 48) (rdS t)).S = (((rdS t).length : Nat) : Int) := rfl
    show 0 ≤ (rdM (bt t 0 - 48) (rdS t)).S ∧ (rdM (bt t 0 - 48) (rdS t)).S ≤ 8
    rw [e]; omega
  · exact ⟨by decide, by decide⟩
/-- A machine with few states. -/
def Few8 (m : Mach) : Prop := m.Ok ∧ 0 ≤ m.S ∧ m.S ≤ 8
/-- .. where it is one. -/
def Low8 (m : Mach) : Prop := m.Ok ∧ (IsM m → m.S ≤ 8)
theorem MLS.few {m : Mach} {L : Int} {S : Nat} (h : MLS m L S) (hS : S ≤ 8) : Few8 m := ⟨h.1, by rw [h.2.2]; omega⟩
theorem Few8.low {m : Mach} (h : Few8 m) : Low8 m := ⟨h.1, fun _ => h.2.2⟩
section
variable {w0 w : World} {S : Nat} {v : Value} {l : List Nat} {L : List Asn}
theorem pick_two {r : Int} (h : r ∈ [2, 2, (3 : Int)]) : ∃ d : Nat, r = d ∧ (d = 2 ∨ d = 3) := by
  simp only [List.mem_cons, List.not_mem_nil, or_false] at h
  rcases h with rfl | rfl | rfl
  · exact ⟨2, rfl, .inl rfl⟩
  · exact ⟨2, rfl, .inl rfl⟩
  · exact ⟨3, rfl, .inr rfl⟩
theorem pick_six {r : Int} {k : Nat} (hk : k < 8) (h : r ∈ [1, 2, 3, 4, 5, 1 + (k : Int)]) : ∃ n : Nat, r = n ∧ n ≤ 8 := by
  simp only [List.mem_cons, List.not_mem_nil, or_false] at h
  rcases h with rfl | rfl | rfl | rfl | rfl | rfl
  · exact ⟨1, rfl, by omega⟩
  · exact ⟨2, rfl, by omega⟩
  · exact ⟨3, rfl, by omega⟩
  · exact ⟨4, rfl, by omega⟩
  · exact ⟨5, rfl, by omega⟩
  · exact ⟨1 + k, by omega, by omega⟩
set_option maxHeartbeats 4000000 in
set_option maxRecDepth 100000 in
theorem Dg.draw (D : Dg w0 S v l) (hS : St w0.heap.size w0 (Asn.src S v l.length :: L) w) :
    Calls Tryz.prog 200 #[.pointer (some ⟨S, 0, none⟩)] w fun e w' => ∃ m : Mach, e = .returned (.agg (mcells m)) ∧ Hid (Few8 m) ∧ St w0.heap.size w0 (Asn.src S v l.length :: L) w' := by
  have hN := hid (fun W L n (h0 : n ≤ 1000000000) hW => D.next (w := W) (L := L) n h0 hW)
  have hP := hid (fun W L b2 v2 M hM hMl hW => D.pick (w := W) (L := L) (b2 := b2) (v2 := v2) M hM hMl hW)
  have hA := hid (fun W L d n hd hn hW => D.any (w := W) (L := L) d n hd hn hW)
  have hrd := hid (fun W t (ht : t.size ≤ 1000) => l01Read_any W t (by omega))
  have hro := hid (fun t (ht : (rdS t).length ≤ 8) => (show Few8 (rdAns t).1 from ⟨rdAns_ok t, rdAns_S ht⟩))
  have hz := zeroM_run
  have hz2 := hid (fun L W (h : St w0.heap.size w0 (Asn.src S v l.length :: L) W) => (h.newMB zeroM 27).f1)
  have hle := hid hS.le
  have hS := hid (((hz2.out _ _ hS).newOwn [.string { data := #[50, 58, 48, 97, 49, 97, 44, 49, 97, 48, 98] }, .string { data := #[50, 58, 48, 97, 49, 97, 44, 49, 97, 48, 97, 44, 48, 98, 49, 100, 44, 48, 98, 49, 101, 44, 48, 97, 49, 99] }, .string { data := #[50, 58, 48, 97, 49, 97, 44, 48, 97, 49, 99, 44, 49, 97, 48, 98] }, .string { data := #[50, 58, 48, 97, 49, 98, 44, 49, 97, 48, 98] }, .string { data := #[51, 58, 48, 97, 49, 97, 50, 97, 44, 49, 97, 48, 97, 50, 98, 44, 50, 97, 49, 99, 48, 97, 44, 48, 100, 50, 97, 49, 97] }, .string { data := #[51, 58, 48, 97, 49, 97, 50, 97, 44, 49, 97, 50, 97, 48, 97, 44, 48, 98, 49, 99, 50, 100, 44, 50, 97, 48, 97, 49, 97] }, .string { data := #[50, 58, 49, 98, 48, 99, 44, 48, 99, 49, 99, 44, 49, 97, 48, 98] }, .string { data := #[50, 58, 48, 98, 49, 97, 44, 49, 98, 48, 97] }] 9 (by simp)).f1)
  have htx := hid (fun W L r (hr : r < 8) (hW : St w0.heap.size w0 (Asn.src S v l.length :: Asn.own w0.heap.size 9 (.slice (some ⟨w.heap.size + 1, 0, none⟩) 8 8) [.string { data := #[50, 58, 48, 97, 49, 97, 44, 49, 97, 48, 98] }, .string { data := #[50, 58, 48, 97, 49, 97, 44, 49, 97, 48, 97, 44, 48, 98, 49, 100, 44, 48, 98, 49, 101, 44, 48, 97, 49, 99] }, .string { data := #[50, 58, 48, 97, 49, 97, 44, 48, 97, 49, 99, 44, 49, 97, 48, 98] }, .string { data := #[50, 58, 48, 97, 49, 98, 44, 49, 97, 48, 98] }, .string { data := #[51, 58, 48, 97, 49, 97, 50, 97, 44, 49, 97, 48, 97, 50, 98, 44, 50, 97, 49, 99, 48, 97, 44, 48, 100, 50, 97, 49, 97] }, .string { data := #[51, 58, 48, 97, 49, 97, 50, 97, 44, 49, 97, 50, 97, 48, 97, 44, 48, 98, 49, 99, 50, 100, 44, 50, 97, 48, 97, 49, 97] }, .string { data := #[50, 58, 49, 98, 48, 99, 44, 48, 99, 49, 99, 44, 49, 97, 48, 98] }, .string { data := #[50, 58, 48, 98, 49, 97, 44, 49, 98, 48, 97] }] :: L) W) => (show ∃ t, W.cell? ⟨w.heap.size + 1, r, none⟩ = some (.string t) ∧ Hid ((rdS t).length ≤ 8) ∧ t.size ≤ 1000 from by
    have hr' : r < tx8.length := hr
    have hm := tx8_S tx8[r] (List.getElem_mem hr')
    exact ⟨tx8[r], hW.o1.cellAt r _ (by rw [show ([.string { data := #[50, 58, 48, 97, 49, 97, 44, 49, 97, 48, 98] }, .string { data := #[50, 58, 48, 97, 49, 97, 44, 49, 97, 48, 97, 44, 48, 98, 49, 100, 44, 48, 98, 49, 101, 44, 48, 97, 49, 99] }, .string { data := #[50, 58, 48, 97, 49, 97, 44, 48, 97, 49, 99, 44, 49, 97, 48, 98] }, .string { data := #[50, 58, 48, 97, 49, 98, 44, 49, 97, 48, 98] }, .string { data := #[51, 58, 48, 97, 49, 97, 50, 97, 44, 49, 97, 48, 97, 50, 98, 44, 50, 97, 49, 99, 48, 97, 44, 48, 100, 50, 97, 49, 97] }, .string { data := #[51, 58, 48, 97, 49, 97, 50, 97, 44, 49, 97, 50, 97, 48, 97, 44, 48, 98, 49, 99, 50, 100, 44, 50, 97, 48, 97, 49, 97] }, .string { data := #[50, 58, 49, 98, 48, 99, 44, 48, 99, 49, 99, 44, 49, 97, 48, 98] }, .string { data := #[50, 58, 48, 98, 49, 97, 44, 49, 98, 48, 97] }] : List Value) = strs tx8 from rfl]; simp [strs, List.getElem?_eq_getElem hr']), hid hm.1, hm.2⟩))
  simp only [heap_alloc_size] at hS
  clear D
  go_enter Tryz.func200, Tryz.ntmps200
  go_upto_region 2 with (fail)
  generalize World.alloc (World.alloc w _) _ = wA at *
  simp only [List.length_cons, List.length_nil, Nat.reduceAdd] at hS
  generalize ([.string { data := #[50, 58, 48, 97, 49, 97, 44, 49, 97, 48, 98] }, .string { data := #[50, 58, 48, 97, 49, 97, 44, 49, 97, 48, 97, 44, 48, 98, 49, 100, 44, 48, 98, 49, 101, 44, 48, 97, 49, 99] }, .string { data := #[50, 58, 48, 97, 49, 97, 44, 48, 97, 49, 99, 44, 49, 97, 48, 98] }, .string { data := #[50, 58, 48, 97, 49, 98, 44, 49, 97, 48, 98] }, .string { data := #[51, 58, 48, 97, 49, 97, 50, 97, 44, 49, 97, 48, 97, 50, 98, 44, 50, 97, 49, 99, 48, 97, 44, 48, 100, 50, 97, 49, 97] }, .string { data := #[51, 58, 48, 97, 49, 97, 50, 97, 44, 49, 97, 50, 97, 48, 97, 44, 48, 98, 49, 99, 50, 100, 44, 50, 97, 48, 97, 49, 97] }, .string { data := #[50, 58, 49, 98, 48, 99, 44, 48, 99, 49, 99, 44, 49, 97, 48, 98] }, .string { data := #[50, 58, 48, 98, 49, 97, 44, 49, 98, 48, 97] }] : List Value) = cs at *
  generalize w.heap.size + 1 = gT at *
  have mk1 : True := trivial
  go_wp2_with (first
    | (go_at_call 130; clear mk1; (with_reducible refine (hN.out _ _ _ (by omega) hS.out).mono ?_); rintro e w1 ⟨r1, rfl, _, hS'⟩; replace hS := hid hS'; clear hS')
    | (go_at_call 130; (with_reducible refine (hN.out _ _ _ (by omega) hS.out).mono ?_); rintro e w2 ⟨r, rfl, hr, hS'⟩; (have hr8 : r < 8 := by omega); (have hr9 : (r : Int) < 8 := by omega); (have r0 : (0 : Int) ≤ (r : Int) := Int.natCast_nonneg _); (have e1 : wrap64 (1 + (r : Int)) = 1 + (r : Int) := w64 (by omega) (by omega)); (refine Exists.elim (htx.out w2 _ r hr8 hS') ?_); rintro t ⟨ct, ht, hts⟩; replace hS := hid hS'; clear hS' hr)
    | (go_at_call 130; (with_reducible refine (hN.out _ _ _ (by omega) hS.out).mono ?_); rintro e w2 ⟨r, rfl, hr, hS'⟩; (have hr8 : r < 8 := by omega); (have hr9 : (r : Int) < 8 := by omega); (have r0 : (0 : Int) ≤ (r : Int) := Int.natCast_nonneg _); (have e1 : wrap64 (1 + (r : Int)) = 1 + (r : Int) := w64 (by omega) (by omega)); replace hS := hid hS'; clear hS' hr)
    | (go_at_call 237; (with_reducible refine (hrd.out _ t hts).mono ?_); rintro e w3 ⟨rfl, hb⟩; (have hle3 := hid (hS.out.call hb).le); replace hS := hid (hz2.out _ _ (hS.out.call hb)); (have hF := hid (hro.out t ht.out)); clear ct hb; generalize (rdAns t).1 = M at *; generalize (rdAns t).2 = ok at *)
    | ((with_reducible refine gateOp (op := .store 27 (.tmp 4) (.tmp 19)) rfl ?_); refine store_mach rfl _ _ rfl w3.heap.size rfl M rfl 27 _ hS.out.f1.m0 ?_; intro w4 p3 ho hsz hbl; replace hS := hid (hS.out.f1.setM hle3.out p3 ho hbl); clear p3 ho hsz hbl)
    | ((with_reducible refine gate (N := 22) rfl ?_); refine load_mach rfl _ rfl w3.heap.size rfl M hS.out.m0 ?_)
    | ((with_reducible refine gateOp (op := .store 27 (.tmp 2) (.tmp 22)) rfl ?_); refine store_mach rfl _ _ rfl w.heap.size rfl M rfl 27 _ hS.out.f3.m0 ?_; intro w5 p3 ho hsz hbl; replace hS := hid (hS.out.f3.setM hle.out p3 ho hbl); clear p3 ho hsz hbl)
    | (go_at_call 158; (first | have hS2 := hS.out.list [.int .i64 2, .int .i64 2, .int .i64 3] (by simp) | have hS2 := hS.out.f1.list [.int .i64 2, .int .i64 2, .int .i64 3] (by simp)); (with_reducible refine (hP.out _ _ _ _ [2, 2, 3] (by simp) (by simp) hS2).mono ?_); rintro e w6 ⟨d', rfl, hd', hS'⟩; obtain ⟨d, rfl, hd⟩ := pick_two hd'; replace hS := hid hS'; clear hS' hS2 hd')
    | (go_at_call 158; (have hS2 := hS.out.list [.int .i64 1, .int .i64 2, .int .i64 3, .int .i64 4, .int .i64 5, .int .i64 (1 + (r : Int))] (by simp)); (with_reducible refine (hP.out _ _ _ _ [1, 2, 3, 4, 5, 1 + (r : Int)] (by simp) (by simp) hS2).mono ?_); rintro e w7 ⟨n', rfl, hn', hS'⟩; obtain ⟨n, rfl, hn⟩ := pick_six hr8 hn'; replace hS := hid hS'; clear hS' hS2 hn')
    | (go_at_call 174; (with_reducible refine (hA.out _ _ _ _ hd (by omega) hS.out).mono ?_); rintro e w8 ⟨M, rfl, hM, hS'⟩; (have hF := hid (hM.out.few hn)); replace hS := hid hS'; clear hS')
    | ((with_reducible refine gateOp (op := .store 27 (.tmp 2) (.tmp 33)) rfl ?_); refine store_mach rfl _ _ rfl w.heap.size rfl M rfl 27 _ hS.out.f2.m0 ?_; intro w9 p3 ho hsz hbl; replace hS := hid (hS.out.f2.setM hle.out p3 ho hbl); clear p3 ho hsz hbl)
    | ((with_reducible refine gateOp (op := .store 27 (.tmp 2) (.tmp 33)) rfl ?_); refine store_mach rfl _ _ rfl w.heap.size rfl M rfl 27 _ hS.out.f3.m0 ?_; intro w9 p3 ho hsz hbl; replace hS := hid (hS.out.f3.setM hle.out p3 ho hbl); clear p3 ho hsz hbl))
  all_goals first
    | exact ret_mach rfl rfl hS.out.m0 rfl ⟨M, rfl, hF, hS.out.drop.drop.f1.drop⟩
    | exact ret_mach rfl rfl hS.out.m0 rfl ⟨M, rfl, hF, hS.out.drop.f1.drop⟩
    | exact ret_mach rfl rfl hS.out.m0 rfl ⟨M, rfl, hF, hS.out.drop.f1.drop.f1.drop⟩
theorem MB.setL {w : World} {t b : Nat} {m : Mach} (h : MB w t b m) (x : Int) : MB (w.setCell ⟨b, 0, none⟩ (.int .i64 x)) t b { m with L := x } := by
  refine World.rowIs.congr (World.rowIs.set h 0 _) (fun i hi => ?_)
  unfold mf
  by_cases e : i = 0
  · rw [if_pos e, if_pos e]
  · rw [if_neg e, if_neg e, if_neg e]
theorem MB.setS {w : World} {t b : Nat} {m : Mach} (h : MB w t b m) (x : Int) : MB (w.setCell ⟨b, 1, none⟩ (.int .i64 x)) t b { m with S := x } := by
  refine World.rowIs.congr (World.rowIs.set h 1 _) (fun i hi => ?_)
  unfold mf
  by_cases e : i = 1
  · rw [if_pos e, if_neg (by omega), if_pos e]
  · rw [if_neg e]
    by_cases e0 : i = 0
    · rw [if_pos e0, if_pos e0]
    · rw [if_neg e0, if_neg e, if_neg e0, if_neg e]
theorem St.setL {base t bn : Nat} {w0 w : World} {L : List Asn} {m : Mach} (h : St base w0 (Asn.mb t bn m :: L) w) (hb : base ≤ bn) (x : Int) : St base w0 (Asn.mb t bn { m with L := x } :: L) (w.setCell ⟨bn, 0, none⟩ (.int .i64 x)) :=
  h.turn (a' := Asn.mb t bn _) (MB.setL h.star.1 x) (fun k hk => .inl hk) (fun k hk => (show k = bn from hk) ▸ hb) ((Below.refl _ _).setCell hb _) fun k _ hk => heap_setCell_other w ⟨bn, _, none⟩ k _ hk
theorem St.setS {base t bn : Nat} {w0 w : World} {L : List Asn} {m : Mach} (h : St base w0 (Asn.mb t bn m :: L) w) (hb : base ≤ bn) (x : Int) : St base w0 (Asn.mb t bn { m with S := x } :: L) (w.setCell ⟨bn, 1, none⟩ (.int .i64 x)) :=
  h.turn (a' := Asn.mb t bn _) (MB.setS h.star.1 x) (fun k hk => .inl hk) (fun k hk => (show k = bn from hk) ▸ hb) ((Below.refl _ _).setCell hb _) fun k _ hk => heap_setCell_other w ⟨bn, _, none⟩ k _ hk
theorem IsM.few {m : Mach} (h : IsM m) : 1 ≤ m.S ∧ m.S ≤ 16 := by
  obtain ⟨l, s, g⟩ := h.good
  have := g.S; have := g.s1; have := g.s16
  omega
theorem Few8.setL {m : Mach} (h : Few8 m) (x : Int) : Low8 { m with L := x } := ⟨h.1, fun _ => h.2.2⟩
theorem Few8.setS {m : Mach} (h : Few8 m) {x : Int} (hx : x ∈ [0, 17, -1, wrap64 (m.S - 1)]) : Low8 { m with S := x } := by
  refine ⟨h.1, fun hm => ?_⟩
  have h2 := hm.few
  have h3 : 1 ≤ x ∧ x ≤ 16 := h2
  show x ≤ 8
  have h4 := h.2.1; have h5 := h.2.2
  rw [w64 (by omega) (by omega)] at hx
  simp only [List.mem_cons, List.not_mem_nil, or_false] at hx
  rcases hx with rfl | rfl | rfl | rfl <;> omega
theorem Few8.setN {m : Mach} (h : Few8 m) (i v : Nat) (hv : v < 256) : Low8 { m with nx := upd m.nx i v } := ⟨(MLS.nx (L := m.L) (S := m.S) ⟨h.1, rfl, rfl⟩ i v hv).1, fun _ => h.2.2⟩
theorem Few8.setO {m : Mach} (h : Few8 m) (i v : Nat) (hv : v < 256) : Low8 { m with ot := upd m.ot i v } := ⟨(MLS.ot (L := m.L) (S := m.S) ⟨h.1, rfl, rfl⟩ i v hv).1, fun _ => h.2.2⟩
set_option maxHeartbeats 4000000 in
set_option maxRecDepth 100000 in
theorem Dg.bad (D : Dg w0 S v l) (m : Mach) (hm : Few8 m) (hS : St w0.heap.size w0 (Asn.src S v l.length :: L) w) :
    Calls Tryz.prog 199 #[.pointer (some ⟨S, 0, none⟩), .agg (mcells m)] w fun e w' => ∃ m : Mach, e = .returned (.agg (mcells m)) ∧ Hid (Low8 m) ∧ St w0.heap.size w0 (Asn.src S v l.length :: L) w' := by
  have hN := hid (fun W L n (h0 : n ≤ 1000000000) hW => D.next (w := W) (L := L) n h0 hW)
  have hP := hid (fun W L b2 v2 M hM hMl hW => D.pick (w := W) (L := L) (b2 := b2) (v2 := v2) M hM hMl hW)
  have hz := zeroM_run
  have hle := hid hS.le
  have hS := hid (((hS.newMB m 27).f1.newMB zeroM 27).f1)
  have hle2 := hid (show w0.heap.size ≤ w.heap.size + 1 from Nat.le_succ_of_le hle.out)
  simp only [heap_alloc_size] at hS
  replace hm := hid hm
  clear D
  go_enter Tryz.func199, Tryz.ntmps199
  go_upto_region 2 with (first
    | (go_at_call 130; (with_reducible refine (hN.out _ _ _ (by omega) hS.out).mono ?_); rintro e w1 ⟨k, rfl, _, hS'⟩; replace hS := hid hS'; clear hS'))
  generalize w.heap.size + 1 = b4 at *
  have cL := hS.out.m2.cL
  have cS := hS.out.m2.cS
  have fL : w1.frozen? ⟨w.heap.size, 0, none⟩ = false := World.rowIs.frozen hS.out.m2 _
  have fS : w1.frozen? ⟨w.heap.size, 1, none⟩ = false := World.rowIs.frozen hS.out.m2 _
  by_cases k0 : k = 0
  · subst k0
    go_upto_region 10 with (first
      | (go_at_call 158; (have hS2 := hS.out.list [.int .i64 0, .int .i64 1, .int .i64 4, .int .i64 (-1), .int .i64 (wrap64 (5 - m.L))] (by simp)); (with_reducible refine (hP.out _ _ _ _ [0, 1, 4, -1, wrap64 (5 - m.L)] (by simp) (by simp) hS2).mono ?_); rintro e w6 ⟨x, rfl, _, hS'⟩; replace hS := hid hS'; clear hS' hS2 cL cS fL fS; (obtain ⟨vl, cL⟩ : ∃ u, w6.cell? ⟨w.heap.size, 0, none⟩ = some u := ⟨_, hS.out.m2.cL⟩); (have fL : w6.frozen? ⟨w.heap.size, 0, none⟩ = false := World.rowIs.frozen hS.out.m2 _)))
    replace hS := hid (hS.out.f2.setL hle.out x)
    have hF := hid (hm.out.setL x)
    generalize World.setCell w6 _ _ = wz at *
    generalize hMM : Mach.mk _ _ _ _ = M at hS hF
    clear hMM
    go_wp2_with (first
      | ((with_reducible refine gate (N := 49) rfl ?_); refine load_mach rfl _ rfl w.heap.size rfl M hS.out.m0 ?_)
      | ((with_reducible refine gateOp (op := .store 27 (.tmp 4) (.tmp 49)) rfl ?_); refine store_mach rfl _ _ rfl b4 rfl M rfl 27 _ hS.out.f2.m0 ?_; intro w9 p3 ho hsz hbl; replace hS := hid (hS.out.f2.setM hle2.out p3 ho hbl); clear p3 ho hsz hbl))
    exact ret_mach rfl rfl hS.out.m0 rfl ⟨M, rfl, hF, hS.out.drop.drop⟩
  · have d0 : ((k : Int) == 0) = false := by simp; omega
    by_cases k1 : k = 1
    · subst k1
      go_upto_region 10 with (first
        | (go_at_call 158; (have hS2 := hS.out.list [.int .i64 0, .int .i64 17, .int .i64 (-1), .int .i64 (wrap64 (m.S - 1))] (by simp)); (with_reducible refine (hP.out _ _ _ _ [0, 17, -1, wrap64 (m.S - 1)] (by simp) (by simp) hS2).mono ?_); rintro e w6 ⟨x, rfl, hx, hS'⟩; replace hS := hid hS'; replace hx := hid hx; clear hS' hS2 cL cS fL fS; (obtain ⟨vl, cL⟩ : ∃ u, w6.cell? ⟨w.heap.size, 1, none⟩ = some u := ⟨_, hS.out.m2.cS⟩); (have fL : w6.frozen? ⟨w.heap.size, 1, none⟩ = false := World.rowIs.frozen hS.out.m2 _)))
      replace hS := hid (hS.out.f2.setS hle.out x)
      have hF := hid (hm.out.setS hx.out)
      generalize World.setCell w6 _ _ = wz at *
      generalize hMM : Mach.mk _ _ _ _ = M at hS hF
      clear hMM
      go_wp2_with (first
        | ((with_reducible refine gate (N := 49) rfl ?_); refine load_mach rfl _ rfl w.heap.size rfl M hS.out.m0 ?_)
        | ((with_reducible refine gateOp (op := .store 27 (.tmp 4) (.tmp 49)) rfl ?_); refine store_mach rfl _ _ rfl b4 rfl M rfl 27 _ hS.out.f2.m0 ?_; intro w9 p3 ho hsz hbl; replace hS := hid (hS.out.f2.setM hle2.out p3 ho hbl); clear p3 ho hsz hbl))
      exact ret_mach rfl rfl hS.out.m0 rfl ⟨M, rfl, hF, hS.out.drop.drop⟩
    · have d1 : ((k : Int) == 1) = false := by simp; omega
      by_cases k2 : k = 2
      · subst k2
        go_upto_region 7 with (fail)
        have mk1 : True := trivial
        have mk2 : True := trivial
        clear cL cS fL fS
        go_region_with (first
          | (go_at_call 130; clear mk1; (with_reducible refine (hN.out _ _ _ (by omega) hS.out.drew).mono ?_); rintro e w5 ⟨r, rfl, hr, hS'⟩; (have r0 : (0 : Int) ≤ (r : Int) := Int.natCast_nonneg _); (have r1 : (r : Int) < 16 := by omega); replace hS := hid hS'; clear hS')
          | (go_at_call 130; clear mk2; (with_reducible refine (hN.out _ _ _ (by omega) hS.out).mono ?_); rintro e w6 ⟨x, rfl, hx, hS'⟩; (have x0 : (0 : Int) ≤ (x : Int) := Int.natCast_nonneg _); (have x1 : (x : Int) < 3 := by omega); replace hS := hid hS'; clear hS')
          | (go_at_call 130; (with_reducible refine (hN.out _ _ _ (by omega) hS.out).mono ?_); rintro e w7 ⟨y, rfl, hy, hS'⟩; replace hS := hid hS'; clear hS'; (have y1 : y < 256 := by omega); (have e1 : IntKind.u8.wrap (y : Int) = y := u8_of y y1); (have hrx := hid (show r < 16 ∧ x < 3 by omega)); (obtain ⟨vn, cn⟩ : ∃ u, w7.cell? ⟨w.heap.size, 2 + r * 3 + x, none⟩ = some u := ⟨_, hS.out.m2.cnx r x hrx.out.1 hrx.out.2⟩); (have fn : w7.frozen? ⟨w.heap.size, 2 + r * 3 + x, none⟩ = false := World.rowIs.frozen hS.out.m2 _)))
        replace hS := hid (hS.out.f2.setNx hle.out r x y hrx.out.1 hrx.out.2)
        have hF := hid (hm.out.setN (r * 3 + x) y y1)
        generalize World.setCell w7 _ _ = wz at *
        generalize hMM : Mach.mk _ _ _ _ = M at hS hF
        clear hMM
        go_wp2_with (first
          | ((with_reducible refine gate (N := 49) rfl ?_); refine load_mach rfl _ rfl w.heap.size rfl M hS.out.m0 ?_)
          | ((with_reducible refine gateOp (op := .store 27 (.tmp 4) (.tmp 49)) rfl ?_); refine store_mach rfl _ _ rfl b4 rfl M rfl 27 _ hS.out.f2.m0 ?_; intro w9 p3 ho hsz hbl; replace hS := hid (hS.out.f2.setM hle2.out p3 ho hbl); clear p3 ho hsz hbl))
        exact ret_mach rfl rfl hS.out.m0 rfl ⟨M, rfl, hF, hS.out.drop.drop⟩
      · have d2 : ((k : Int) == 2) = false := by simp; omega
        by_cases k3 : k = 3
        · subst k3
          go_upto_region 9 with (fail)
          have mk1 : True := trivial
          have mk2 : True := trivial
          clear cL cS fL fS
          go_region_with (first
            | (go_at_call 130; clear mk1; (with_reducible refine (hN.out _ _ _ (by omega) hS.out.drew).mono ?_); rintro e w5 ⟨r, rfl, hr, hS'⟩; (have r0 : (0 : Int) ≤ (r : Int) := Int.natCast_nonneg _); (have r1 : (r : Int) < 16 := by omega); replace hS := hid hS'; clear hS')
            | (go_at_call 130; clear mk2; (with_reducible refine (hN.out _ _ _ (by omega) hS.out).mono ?_); rintro e w6 ⟨x, rfl, hx, hS'⟩; (have x0 : (0 : Int) ≤ (x : Int) := Int.natCast_nonneg _); (have x1 : (x : Int) < 3 := by omega); replace hS := hid hS'; clear hS')
            | (go_at_call 130; (with_reducible refine (hN.out _ _ _ (by omega) hS.out).mono ?_); rintro e w7 ⟨y, rfl, hy, hS'⟩; replace hS := hid hS'; clear hS'; (have y1 : y < 256 := by omega); (have e1 : IntKind.u8.wrap (y : Int) = y := u8_of y y1); (have hrx := hid (show r < 16 ∧ x < 3 by omega)); (obtain ⟨vn, cn⟩ : ∃ u, w7.cell? ⟨w.heap.size, 50 + r * 3 + x, none⟩ = some u := ⟨_, hS.out.m2.cot r x hrx.out.1 hrx.out.2⟩); (have fn : w7.frozen? ⟨w.heap.size, 50 + r * 3 + x, none⟩ = false := World.rowIs.frozen hS.out.m2 _)))
          replace hS := hid (hS.out.f2.setOt hle.out r x y hrx.out.1 hrx.out.2)
          have hF := hid (hm.out.setO (r * 3 + x) y y1)
          generalize World.setCell w7 _ _ = wz at *
          generalize hMM : Mach.mk _ _ _ _ = M at hS hF
          clear hMM
          go_wp2_with (first
            | ((with_reducible refine gate (N := 49) rfl ?_); refine load_mach rfl _ rfl w.heap.size rfl M hS.out.m0 ?_)
            | ((with_reducible refine gateOp (op := .store 27 (.tmp 4) (.tmp 49)) rfl ?_); refine store_mach rfl _ _ rfl b4 rfl M rfl 27 _ hS.out.f2.m0 ?_; intro w9 p3 ho hsz hbl; replace hS := hid (hS.out.f2.setM hle2.out p3 ho hbl); clear p3 ho hsz hbl))
          exact ret_mach rfl rfl hS.out.m0 rfl ⟨M, rfl, hF, hS.out.drop.drop⟩
        · have d3 : ((k : Int) == 3) = false := by simp; omega
          replace hS := hid hS.out.f2
          have hF := hid hm.out.low
          clear cL cS fL fS
          go_wp2_with (first
            | ((with_reducible refine gate (N := 49) rfl ?_); refine load_mach rfl _ rfl w.heap.size rfl m hS.out.m0 ?_)
            | ((with_reducible refine gateOp (op := .store 27 (.tmp 4) (.tmp 49)) rfl ?_); refine store_mach rfl _ _ rfl b4 rfl m rfl 27 _ hS.out.f2.m0 ?_; intro w9 p3 ho hsz hbl; replace hS := hid (hS.out.f2.setM hle2.out p3 ho hbl); clear p3 ho hsz hbl))
          exact ret_mach rfl rfl hS.out.m0 rfl ⟨m, rfl, hF, hS.out.drop.drop⟩
set_option maxHeartbeats 4000000 in
set_option maxRecDepth 100000 in
theorem Dg.spoil (D : Dg w0 S v l) (hS : St w0.heap.size w0 (Asn.src S v l.length :: L) w) :
    Calls Tryz.prog 105 #[.pointer (some ⟨S, 0, none⟩)] w fun e w' => ∃ m : Mach, e = .returned (.agg (mcells m)) ∧ Hid (Low8 m) ∧ St w0.heap.size w0 (Asn.src S v l.length :: L) w' := by
  have hR := hid (fun W L hW => D.draw (w := W) (L := L) hW)
  have hB := hid (fun W L m hm hW => D.bad (w := W) (L := L) m hm hW)
  have hz := zeroM_run
  have hle := hid hS.le
  have hS := hid ((hS.newMB zeroM 27).f1)
  clear D
  go_enter Tryz.func105, Tryz.ntmps105
  go_wp2_with (first
    | (go_at_call 200; (with_reducible refine (hR.out _ _ hS.out).mono ?_); rintro e w1 ⟨m0, rfl, hm, hS'⟩; replace hS := hid hS'; clear hS')
    | (go_at_call 199; (with_reducible refine (hB.out _ _ m0 hm.out hS.out).mono ?_); rintro e w2 ⟨M, rfl, hF, hS'⟩; replace hS := hid hS'; clear hS')
    | ((with_reducible refine gateOp (op := .store 27 (.tmp 2) (.tmp 6)) rfl ?_); refine store_mach rfl _ _ rfl w.heap.size rfl M rfl 27 _ hS.out.f1.m0 ?_; intro w9 p3 ho hsz hbl; replace hS := hid (hS.out.f1.setM hle.out p3 ho hbl); clear p3 ho hsz hbl))
  exact ret_mach rfl rfl hS.out.m0 rfl ⟨M, rfl, hF, hS.out.drop⟩
end
end Go.Proofs.YthmcdfjijkecfaaGreat

/- Draws of machines and levels. -/
namespace Go.Proofs.YthmcdfjijkecfaaGreat
open Go.RowKit
set_option linter.unusedVariables false
set_option linter.unusedSimpArgs false
-- @LONG

theorem Low8.ok {m : Mach} (h : Low8 m) : m.Ok := h.1
theorem ret_mvv {fn : Func} {R : Ending → World → Prop} {a : Act} {w : World} {p q r : Nat} (h : fn.results = #[.cell p 27, .tmp q, .tmp r]) {g t : Nat} {m : Mach} {v u : Value}
    (hp : a.tmps.getD p undef = .pointer (some ⟨g, 0, none⟩)) (hq : a.tmps.getD q undef = v) (hr : a.tmps.getD r undef = u) (hm : MB w t g m) (hdf : a.defers = []) (hR : R (.returned (.tuple #[.agg (mcells m), v, u])) w) : bodyPost Tryz.prog fn R .ret a w := by
  refine bodyPost_ret (v := .tuple #[.agg (mcells m), v, u]) ?_ hdf hR
  have hp' : a.tmps[p]?.getD undef = .pointer (some ⟨g, 0, none⟩) := by simpa using hp
  have hq' : a.tmps[q]?.getD undef = v := by simpa using hq
  have hr' : a.tmps[r]?.getD undef = u := by simpa using hr
  have := run_loadVar_row (P := Tryz.prog) w g t 27 (mcells m) (0, 0) _ hm.heap Tryz.underlying27 rfl (by rw [size_mcells]; exact sz_mach)
  simp [results, h, hp', hq', hr', asAddr, this]
theorem ret_mvvv {fn : Func} {R : Ending → World → Prop} {a : Act} {w : World} {p q r s : Nat} (h : fn.results = #[.cell p 27, .tmp q, .tmp r, .tmp s]) {g t : Nat} {m : Mach} {v u x : Value}
    (hp : a.tmps.getD p undef = .pointer (some ⟨g, 0, none⟩)) (hq : a.tmps.getD q undef = v) (hr : a.tmps.getD r undef = u) (hs : a.tmps.getD s undef = x) (hm : MB w t g m) (hdf : a.defers = []) (hR : R (.returned (.tuple #[.agg (mcells m), v, u, x])) w) : bodyPost Tryz.prog fn R .ret a w := by
  refine bodyPost_ret (v := .tuple #[.agg (mcells m), v, u, x]) ?_ hdf hR
  have hp' : a.tmps[p]?.getD undef = .pointer (some ⟨g, 0, none⟩) := by simpa using hp
  have hq' : a.tmps[q]?.getD undef = v := by simpa using hq
  have hr' : a.tmps[r]?.getD undef = u := by simpa using hr
  have hs' : a.tmps[s]?.getD undef = x := by simpa using hs
  have := run_loadVar_row (P := Tryz.prog) w g t 27 (mcells m) (0, 0) _ hm.heap Tryz.underlying27 rfl (by rw [size_mcells]; exact sz_mach)
  simp [results, h, hp', hq', hr', hs', asAddr, this]
theorem Dg.from {w W : World} {v : Value} {l : List Nat} {L : List Asn} (hv : ArgB w v l) (hl : l.length ≤ 4096) (hS : St w.heap.size w L W) :
    Calls Tryz.prog 104 #[v] W fun e w' => ∃ S, e = .returned (.pointer (some ⟨S, 0, none⟩)) ∧ Hid (Dg w S v l) ∧ St w.heap.size w (Asn.src S v l.length :: L) w' := by
  refine (l01From_any W v l (hv.below hS.bel) hl).mono ?_
  rintro e w' ⟨rfl, h⟩
  exact ⟨_, rfl, hid ⟨hv, hl, hS.le⟩, hS.callPush (a := Asn.src W.heap.size v l.length) h.bel h.star.1 fun k hk => Nat.le_of_eq (show k = W.heap.size from hk).symm⟩
section
variable {w0 w : World} {S : Nat} {v : Value} {l : List Nat} {L : List Asn}
theorem power_small (d n : Int) (hd : 1 ≤ d ∧ d ≤ 3) (hn : 0 ≤ n ∧ n ≤ 5) (w : World) : Calls Tryz.prog 120 #[.int .i64 d, .int .i64 n] w fun e w' => ∃ r : Int, e = .returned (.int .i64 r) ∧ 1 ≤ r ∧ r ≤ 243 ∧ w = w' := by
  obtain ⟨d, rfl⟩ := Int.eq_ofNat_of_zero_le (show 0 ≤ d by omega)
  obtain ⟨n, rfl⟩ := Int.eq_ofNat_of_zero_le hn.1
  have hb : pw d n ≤ 243 := by
    have h1 := pw_le d (by omega) (n := n) (k := 5) (by omega)
    have h2 : d = 1 ∨ d = 2 ∨ d = 3 := by omega
    have h3 : pw d 5 ≤ 243 := by rcases h2 with rfl | rfl | rfl <;> decide
    omega
  have hp := pw_pos d (by omega) n
  refine (l01Power_any d n (by omega) (by omega) (by omega) w).mono ?_
  rintro e w' ⟨rfl, rfl⟩
  exact ⟨_, rfl, by omega, by omega, rfl⟩
set_option maxHeartbeats 2000000 in
set_option maxRecDepth 100000 in
theorem Dg.place (D : Dg w0 S v l) (m : Mach) (n : Int) (hS : St w0.heap.size w0 (Asn.src S v l.length :: L) w) :
    Calls Tryz.prog 107 #[.pointer (some ⟨S, 0, none⟩), .agg (mcells m), .int .i64 n] w fun e w' => ∃ r : Int, e = .returned (.int .i64 r) ∧ Hid (I64 r) ∧ St w0.heap.size w0 (Asn.src S v l.length :: L) w' := by
  have hN := hid (fun W L n (h0 : -1 ≤ n) (h1 : n ≤ 1000000) hW => D.near (w := W) (L := L) n h0 h1 hW)
  have hPw := hid power_small
  replace hS := hid (hS.newMB m 27).f1
  have cL := hS.out.m1.cL
  clear D
  go_enter Tryz.func107, Tryz.ntmps107
  go_wp2_with (first
    | (go_at_call 120; (with_reducible refine (hPw.out _ _ (by (repeat' split) <;> omega) (by (repeat' split) <;> omega) _).mono ?_); rintro e w1 ⟨r, rfl, hr1, hr2, rfl⟩; have ew : wrap64 (r - 1) = r - 1 := w64 (by omega) (by omega))
    | (go_at_call 140; (with_reducible refine (hN.out _ _ _ (by omega) (by omega) hS.out).mono ?_); rintro e w1 ⟨x, rfl, hr, hS'⟩; clear hS; have hS := hid hS'.f1.drop; clear hS' cL))
  all_goals go_ret
  all_goals exact ⟨_, rfl, hr, hS.out⟩
end
set_option maxHeartbeats 2000000 in
set_option maxRecDepth 100000 in
theorem l05Draw_any (w : World) (v : Value) (l : List Nat) (hv : ArgB w v l) (hl : l.length ≤ 4096) :
    Calls Tryz.prog 118 #[v] w fun e w' => ∃ (m : Mach) (n : Int), e = .returned (.tuple #[.agg (mcells m), .int .i64 n]) ∧ Hid (Low8 m ∧ I64 n) ∧ Below w.heap.size w w' := by
  have hz := zeroM_run
  have hS := hid ((St.start w).newMB zeroM 27)
  have hfr := hid (fun W L hW => Dg.from (w := w) (W := W) (L := L) hv hl hW)
  replace hv := hid hv
  obtain ⟨A, c, rfl, _⟩ := hv.out
  go_enter Tryz.func118, Tryz.ntmps118
  go_wp2_with (first
    | (go_at_call 104; (with_reducible refine (hfr.out _ _ hS.out).mono ?_); rintro e w1 ⟨S, rfl, D, hS'⟩; replace hS := hid hS'; clear hS')
    | (go_at_call 105; (with_reducible refine (D.out.spoil hS.out).mono ?_); rintro e w2 ⟨M, rfl, hM, hS'⟩; replace hS := hid hS'; clear hS')
    | (go_at_call 106; (with_reducible refine (D.out.level hS.out).mono ?_); rintro e w3 ⟨n, rfl, hn, hS'⟩; replace hS := hid hS'; clear hS')
    | ((with_reducible refine gateOp (op := .store 27 (.tmp 2) (.tmp 8)) rfl ?_); refine store_mach rfl _ _ rfl w.heap.size rfl M rfl 27 _ hS.out.f1.m0 ?_; intro w4 p3 ho hsz hbl; replace hS := hid (hS.out.f1.setM (Nat.le_refl _) p3 ho hbl); clear p3 ho hsz hbl))
  exact ret_mach_v rfl rfl rfl hS.out.m0 rfl ⟨M, n, rfl, hid ⟨hM.out, hn.out⟩, hS.out.bel⟩
set_option maxHeartbeats 2000000 in
set_option maxRecDepth 100000 in
theorem drEdg_any (w : World) (v : Value) (l : List Nat) (hv : ArgB w v l) (hl : l.length ≤ 4096) :
    Calls Tryz.prog 27 #[v] w fun e w' => ∃ (m : Mach) (n : Int), e = .returned (.tuple #[.agg (mcells m), .int .i64 n]) ∧ Hid (Low8 m ∧ I64 n) ∧ Below w.heap.size w w' := by
  have hz := zeroM_run
  have hS := hid ((St.start w).newMB zeroM 27)
  have hdr := hid (fun W (hW : Below w.heap.size w W) => l05Draw_any W v l (hv.below hW) hl)
  have hz2 := hid (fun L W (h : St w.heap.size w L W) => h.newMB zeroM 27)
  replace hv := hid hv
  obtain ⟨A, c, rfl, _⟩ := hv.out
  go_enter Tryz.func27, Tryz.ntmps27
  go_wp2_with (first
    | (go_at_call 118; (with_reducible refine (hdr.out _ hS.out.bel).mono ?_); rintro e w1 ⟨M, n, rfl, hF, hb⟩; have hle := hid (hS.out.call hb).le; replace hS := hid (hz2.out _ _ (hS.out.call hb)); clear hb)
    | ((with_reducible refine gateOp (op := .store 27 (.tmp 4) (.tmp 9)) rfl ?_); refine store_mach rfl _ _ rfl w1.heap.size rfl M rfl 27 _ hS.out.m0 ?_; intro w2 p3 ho hsz hbl; replace hS := hid (hS.out.setM hle.out p3 ho hbl); clear p3 ho hsz hbl)
    | ((with_reducible refine gate (N := 11) rfl ?_); refine load_mach rfl _ rfl w1.heap.size rfl M hS.out.m0 ?_)
    | ((with_reducible refine gateOp (op := .store 27 (.tmp 2) (.tmp 11)) rfl ?_); refine store_mach rfl _ _ rfl w.heap.size rfl M rfl 27 _ hS.out.f1.m0 ?_; intro w4 p3 ho hsz hbl; replace hS := hid (hS.out.f1.setM (Nat.le_refl _) p3 ho hbl); clear p3 ho hsz hbl))
  exact ret_mach_v rfl rfl rfl hS.out.m0 rfl ⟨M, n, rfl, hF, hS.out.bel⟩
set_option maxHeartbeats 2000000 in
set_option maxRecDepth 100000 in
theorem drDia_any (w : World) (v : Value) (l : List Nat) (hv : ArgB w v l) (hl : l.length ≤ 4096) :
    Calls Tryz.prog 30 #[v] w fun e w' => ∃ (m : Mach) (n : Int), e = .returned (.tuple #[.agg (mcells m), .int .i64 n]) ∧ Hid (Low8 m ∧ I64 n) ∧ Below w.heap.size w w' := by
  have hz := zeroM_run
  have hS := hid ((St.start w).newMB zeroM 27)
  have hdr := hid (fun W (hW : Below w.heap.size w W) => l05Draw_any W v l (hv.below hW) hl)
  have hz2 := hid (fun L W (h : St w.heap.size w L W) => h.newMB zeroM 27)
  replace hv := hid hv
  obtain ⟨A, c, rfl, _⟩ := hv.out
  go_enter Tryz.func30, Tryz.ntmps30
  go_wp2_with (first
    | (go_at_call 118; (with_reducible refine (hdr.out _ hS.out.bel).mono ?_); rintro e w1 ⟨M, n, rfl, hF, hb⟩; have hle := hid (hS.out.call hb).le; replace hS := hid (hz2.out _ _ (hS.out.call hb)); clear hb)
    | ((with_reducible refine gateOp (op := .store 27 (.tmp 4) (.tmp 9)) rfl ?_); refine store_mach rfl _ _ rfl w1.heap.size rfl M rfl 27 _ hS.out.m0 ?_; intro w2 p3 ho hsz hbl; replace hS := hid (hS.out.setM hle.out p3 ho hbl); clear p3 ho hsz hbl)
    | ((with_reducible refine gate (N := 11) rfl ?_); refine load_mach rfl _ rfl w1.heap.size rfl M hS.out.m0 ?_)
    | ((with_reducible refine gateOp (op := .store 27 (.tmp 2) (.tmp 11)) rfl ?_); refine store_mach rfl _ _ rfl w.heap.size rfl M rfl 27 _ hS.out.f1.m0 ?_; intro w4 p3 ho hsz hbl; replace hS := hid (hS.out.f1.setM (Nat.le_refl _) p3 ho hbl); clear p3 ho hsz hbl))
  exact ret_mach_v rfl rfl rfl hS.out.m0 rfl ⟨M, n, rfl, hF, hS.out.bel⟩
set_option maxHeartbeats 2000000 in
set_option maxRecDepth 100000 in
theorem drLvo_any (w : World) (v : Value) (l : List Nat) (hv : ArgB w v l) (hl : l.length ≤ 4096) :
    Calls Tryz.prog 32 #[v] w fun e w' => ∃ (m : Mach) (n : Int), e = .returned (.tuple #[.agg (mcells m), .int .i64 n]) ∧ Hid (Low8 m ∧ I64 n) ∧ Below w.heap.size w w' := by
  have hz := zeroM_run
  have hS := hid ((St.start w).newMB zeroM 27)
  have hdr := hid (fun W (hW : Below w.heap.size w W) => l05Draw_any W v l (hv.below hW) hl)
  have hz2 := hid (fun L W (h : St w.heap.size w L W) => h.newMB zeroM 27)
  replace hv := hid hv
  obtain ⟨A, c, rfl, _⟩ := hv.out
  go_enter Tryz.func32, Tryz.ntmps32
  go_wp2_with (first
    | (go_at_call 118; (with_reducible refine (hdr.out _ hS.out.bel).mono ?_); rintro e w1 ⟨M, n, rfl, hF, hb⟩; have hle := hid (hS.out.call hb).le; replace hS := hid (hz2.out _ _ (hS.out.call hb)); clear hb)
    | ((with_reducible refine gateOp (op := .store 27 (.tmp 4) (.tmp 9)) rfl ?_); refine store_mach rfl _ _ rfl w1.heap.size rfl M rfl 27 _ hS.out.m0 ?_; intro w2 p3 ho hsz hbl; replace hS := hid (hS.out.setM hle.out p3 ho hbl); clear p3 ho hsz hbl)
    | ((with_reducible refine gate (N := 11) rfl ?_); refine load_mach rfl _ rfl w1.heap.size rfl M hS.out.m0 ?_)
    | ((with_reducible refine gateOp (op := .store 27 (.tmp 2) (.tmp 11)) rfl ?_); refine store_mach rfl _ _ rfl w.heap.size rfl M rfl 27 _ hS.out.f1.m0 ?_; intro w4 p3 ho hsz hbl; replace hS := hid (hS.out.f1.setM (Nat.le_refl _) p3 ho hbl); clear p3 ho hsz hbl))
  exact ret_mach_v rfl rfl rfl hS.out.m0 rfl ⟨M, n, rfl, hF, hS.out.bel⟩
set_option maxHeartbeats 2000000 in
set_option maxRecDepth 100000 in
theorem drFix_any (w : World) (v : Value) (l : List Nat) (hv : ArgB w v l) (hl : l.length ≤ 4096) :
    Calls Tryz.prog 78 #[v] w fun e w' => ∃ (m : Mach) (n : Int), e = .returned (.tuple #[.agg (mcells m), .int .i64 n]) ∧ Hid (Low8 m ∧ I64 n) ∧ Below w.heap.size w w' := by
  have hz := zeroM_run
  have hS := hid ((St.start w).newMB zeroM 27)
  have hdr := hid (fun W (hW : Below w.heap.size w W) => l05Draw_any W v l (hv.below hW) hl)
  have hz2 := hid (fun L W (h : St w.heap.size w L W) => h.newMB zeroM 27)
  replace hv := hid hv
  obtain ⟨A, c, rfl, _⟩ := hv.out
  go_enter Tryz.func78, Tryz.ntmps78
  go_wp2_with (first
    | (go_at_call 118; (with_reducible refine (hdr.out _ hS.out.bel).mono ?_); rintro e w1 ⟨M, n, rfl, hF, hb⟩; have hle := hid (hS.out.call hb).le; replace hS := hid (hz2.out _ _ (hS.out.call hb)); clear hb)
    | ((with_reducible refine gateOp (op := .store 27 (.tmp 4) (.tmp 9)) rfl ?_); refine store_mach rfl _ _ rfl w1.heap.size rfl M rfl 27 _ hS.out.m0 ?_; intro w2 p3 ho hsz hbl; replace hS := hid (hS.out.setM hle.out p3 ho hbl); clear p3 ho hsz hbl)
    | ((with_reducible refine gate (N := 11) rfl ?_); refine load_mach rfl _ rfl w1.heap.size rfl M hS.out.m0 ?_)
    | ((with_reducible refine gateOp (op := .store 27 (.tmp 2) (.tmp 11)) rfl ?_); refine store_mach rfl _ _ rfl w.heap.size rfl M rfl 27 _ hS.out.f1.m0 ?_; intro w4 p3 ho hsz hbl; replace hS := hid (hS.out.f1.setM (Nat.le_refl _) p3 ho hbl); clear p3 ho hsz hbl))
  exact ret_mach_v rfl rfl rfl hS.out.m0 rfl ⟨M, n, rfl, hF, hS.out.bel⟩
set_option maxHeartbeats 2000000 in
set_option maxRecDepth 100000 in
theorem drDis_any (w : World) (v : Value) (l : List Nat) (hv : ArgB w v l) (hl : l.length ≤ 4096) :
    Calls Tryz.prog 19 #[v] w fun e w' => ∃ (m : Mach) (n k : Int), e = .returned (.tuple #[.agg (mcells m), .int .i64 n, .int .i64 k]) ∧ Hid (Low8 m ∧ I64 n ∧ I64 k) ∧ Below w.heap.size w w' := by
  have hz := zeroM_run
  have hS := hid ((St.start w).newMB zeroM 27)
  have hfr := hid (fun W L hW => Dg.from (w := w) (W := W) (L := L) hv hl hW)
  have hz2 := hid (fun L W (h : St w.heap.size w L W) => h.newMB zeroM 27)
  replace hv := hid hv
  obtain ⟨A, c, rfl, _⟩ := hv.out
  go_enter Tryz.func19, Tryz.ntmps19
  go_upto_region 3 with (first
    | (go_at_call 104; (with_reducible refine (hfr.out _ _ hS.out).mono ?_); rintro e w1 ⟨S, rfl, D, hS'⟩; replace hS := hid hS'; clear hS')
    | (go_at_call 105; (with_reducible refine (D.out.spoil hS.out).mono ?_); rintro e w2 ⟨M, rfl, hM, hS'⟩; replace hS := hid hS'; clear hS')
    | (go_at_call 106; (with_reducible refine (D.out.level hS.out).mono ?_); rintro e w3 ⟨n, rfl, hn, hS'⟩; have hle := hid hS'.le; replace hS := hid (hz2.out _ _ hS'); clear hS')
    | ((with_reducible refine gateOp (op := .store 27 (.tmp 6) (.tmp 11)) rfl ?_); refine store_mach rfl _ _ rfl w3.heap.size rfl M rfl 27 _ hS.out.m0 ?_; intro w4 p3 ho hsz hbl; replace hS := hid (hS.out.setM hle.out p3 ho hbl); clear p3 ho hsz hbl))
  generalize w3.heap.size = b6 at *
  replace hS := hid hS.out.drew
  refine wp_region_heldL (L := [(6, (fun w' : World => MB w' 27 b6 M))]) (by kernel_rfl) (HeldL.cons (fun _ => hS.out.m0) HeldL.nil) (fun hHeld => ?_)
  generalize World.drew w4 = wa at *
  refine wpAnyL_takeP (i := 0) 6 [] (v := (.agg (mcells M))) (fun w' : World => MB w' 27 b6 M) rfl (by kernel_rfl) (by kernel_rfl) (by kernel_rfl) (by rfl) (by kernel_rfl) (by simp) (fun _ _ _ h => h) (Or.inl ⟨by rfl, ?_⟩) (by assumption) ?_
  · (intro W hW; exact exec_load _ rfl rfl (load_run hW))
  intro hHeld'
  clear hHeld; have hHeld := hHeld'; clear hHeld'
  try simp only [Act.put, List.getElem_toArray, List.getElem_cons_succ, List.getElem_cons_zero, List.setIfInBounds_toArray, List.set_cons_zero, List.set_cons_succ]
  refine wpAnyL_take0 (i := 1) (v := ?_) rfl (by kernel_rfl) (by kernel_rfl) (by kernel_rfl) (by rfl) (fun _ _ _ h => h) (Or.inl ⟨by rfl, ?_⟩) (by assumption) ?_
  rotate_left
  · (intro W _; go_simp; (with_reducible rfl))
  intro hHeld'
  clear hHeld; have hHeld := hHeld'; clear hHeld'
  try simp only [Act.put, List.getElem_toArray, List.getElem_cons_succ, List.getElem_cons_zero, List.setIfInBounds_toArray, List.set_cons_zero, List.set_cons_succ]
  refine wpAnyL_take0 (i := 2) (v := ?_) rfl (by kernel_rfl) (by kernel_rfl) (by kernel_rfl) (by rfl) (fun _ _ _ h => h) (Or.inl ⟨by rfl, ?_⟩) (by assumption) ?_
  rotate_left
  · (intro W _; go_simp; (with_reducible rfl))
  intro hHeld'
  clear hHeld; have hHeld := hHeld'; clear hHeld'
  try simp only [Act.put, List.getElem_toArray, List.getElem_cons_succ, List.getElem_cons_zero, List.setIfInBounds_toArray, List.set_cons_zero, List.set_cons_succ]
  refine wpAnyL_takeP (i := 3) 6 [5] (v := (.agg (mcells M))) (fun w' : World => MB w' 27 b6 M) rfl (by kernel_rfl) (by kernel_rfl) (by kernel_rfl) (by rfl) (by kernel_rfl) (by simp) (fun _ _ _ h => h) (Or.inl ⟨by rfl, ?_⟩) (by assumption) ?_
  · (intro W hW; exact exec_load _ rfl rfl (load_run hW))
  intro hHeld'
  clear hHeld; have hHeld := hHeld'; clear hHeld'
  try simp only [Act.put, List.getElem_toArray, List.getElem_cons_succ, List.getElem_cons_zero, List.setIfInBounds_toArray, List.set_cons_zero, List.set_cons_succ]
  refine wpAnyL_take0 (i := 4) (v := ?_) rfl (by kernel_rfl) (by kernel_rfl) (by kernel_rfl) (by rfl) (fun _ _ _ h => h) (Or.inl ⟨by rfl, ?_⟩) (by assumption) ?_
  rotate_left
  · (intro W _; go_simp; (with_reducible rfl))
  intro hHeld'
  clear hHeld; have hHeld := hHeld'; clear hHeld'
  try simp only [Act.put, List.getElem_toArray, List.getElem_cons_succ, List.getElem_cons_zero, List.setIfInBounds_toArray, List.set_cons_zero, List.set_cons_succ]
  refine wpAnyL_ready (rs := [5]) (by kernel_rfl) (by simp) ?_
  refine AllReadyL.cons rfl (fun K hK => ?_) AllReadyL.nil
  go_simp
  replace hS := hid hS.out.f1
  (with_reducible refine (D.out.place M n hS.out).mono ?_)
  rintro e w5 ⟨k, rfl, hk, hS'⟩
  replace hS := hid hS'
  clear hS'
  go_simp
  refine hK.out _ _ (HeldL.cons (fun _ => hS.out.m1) HeldL.nil) (fun hHeld' => ?_)
  clear hK K hHeld; have hHeld := hHeld'; clear hHeld'
  try simp only [Act.put, List.getElem_toArray, List.getElem_cons_succ, List.getElem_cons_zero, List.setIfInBounds_toArray, List.set_cons_zero, List.set_cons_succ]
  refine wpAnyL_ready (rs := [6]) (by kernel_rfl) (by simp) ?_
  refine AllReadyL.cons rfl (fun K hK => ?_) AllReadyL.nil
  refine step_store_mach rfl _ _ rfl _ rfl M rfl _ _ hS.out.m2 ?_
  intro W9 p2 ho hbl
  replace hS := hid (hS.out.f2.setM (Nat.le_refl _) p2 ho hbl)
  clear p2 ho hbl
  refine hK.out _ _ (HeldL.cons (fun h => absurd h (by decide +kernel)) HeldL.nil) (fun hHeld' => ?_)
  clear hK K hHeld; have hHeld := hHeld'; clear hHeld'
  try simp only [Act.put, List.getElem_toArray, List.getElem_cons_succ, List.getElem_cons_zero, List.setIfInBounds_toArray, List.set_cons_zero, List.set_cons_succ]
  refine wpAnyL_take0 (i := 7) (v := ?_) rfl (by kernel_rfl) (by kernel_rfl) (by kernel_rfl) (by rfl) (fun _ _ _ h => h) (Or.inl ⟨by rfl, ?_⟩) (by assumption) ?_
  rotate_left
  · (intro W _; go_simp; (with_reducible rfl))
  intro hHeld'
  clear hHeld; have hHeld := hHeld'; clear hHeld'
  try simp only [Act.put, List.getElem_toArray, List.getElem_cons_succ, List.getElem_cons_zero, List.setIfInBounds_toArray, List.set_cons_zero, List.set_cons_succ]
  refine wpAnyL_take0 (i := 8) (v := ?_) rfl (by kernel_rfl) (by kernel_rfl) (by kernel_rfl) (by rfl) (fun _ _ _ h => h) (Or.inl ⟨by rfl, ?_⟩) (by assumption) ?_
  rotate_left
  · (intro W _; go_simp; (with_reducible rfl))
  intro hHeld'
  clear hHeld; have hHeld := hHeld'; clear hHeld'
  try simp only [Act.put, List.getElem_toArray, List.getElem_cons_succ, List.getElem_cons_zero, List.setIfInBounds_toArray, List.set_cons_zero, List.set_cons_succ]
  refine wpAnyL_done (by kernel_rfl) ?_ _
  go_wp2
  exact ret_mvv rfl rfl rfl rfl hS.out.m0 rfl ⟨M, n, k, rfl, hid ⟨hM.out, hn.out, hk.out⟩, hS.out.bel⟩
set_option maxHeartbeats 2000000 in
set_option maxRecDepth 100000 in
theorem drLop_any (w : World) (v : Value) (l : List Nat) (hv : ArgB w v l) (hl : l.length ≤ 4096) :
    Calls Tryz.prog 61 #[v] w fun e w' => ∃ (m : Mach) (n k : Int), e = .returned (.tuple #[.agg (mcells m), .int .i64 n, .int .i64 k]) ∧ Hid (Low8 m ∧ I64 n ∧ I64 k) ∧ Below w.heap.size w w' := by
  have hz := zeroM_run
  have hS := hid ((St.start w).newMB zeroM 27)
  have hfr := hid (fun W L hW => Dg.from (w := w) (W := W) (L := L) hv hl hW)
  have hz2 := hid (fun L W (h : St w.heap.size w L W) => h.newMB zeroM 27)
  replace hv := hid hv
  obtain ⟨A, c, rfl, _⟩ := hv.out
  go_enter Tryz.func61, Tryz.ntmps61
  go_upto_region 3 with (first
    | (go_at_call 104; (with_reducible refine (hfr.out _ _ hS.out).mono ?_); rintro e w1 ⟨S, rfl, D, hS'⟩; replace hS := hid hS'; clear hS')
    | (go_at_call 105; (with_reducible refine (D.out.spoil hS.out).mono ?_); rintro e w2 ⟨M, rfl, hM, hS'⟩; replace hS := hid hS'; clear hS')
    | (go_at_call 106; (with_reducible refine (D.out.level hS.out).mono ?_); rintro e w3 ⟨n, rfl, hn, hS'⟩; have hle := hid hS'.le; replace hS := hid (hz2.out _ _ hS'); clear hS')
    | ((with_reducible refine gateOp (op := .store 27 (.tmp 6) (.tmp 11)) rfl ?_); refine store_mach rfl _ _ rfl w3.heap.size rfl M rfl 27 _ hS.out.m0 ?_; intro w4 p3 ho hsz hbl; replace hS := hid (hS.out.setM hle.out p3 ho hbl); clear p3 ho hsz hbl))
  generalize w3.heap.size = b6 at *
  replace hS := hid hS.out.drew
  refine wp_region_heldL (L := [(6, (fun w' : World => MB w' 27 b6 M))]) (by kernel_rfl) (HeldL.cons (fun _ => hS.out.m0) HeldL.nil) (fun hHeld => ?_)
  generalize World.drew w4 = wa at *
  refine wpAnyL_takeP (i := 0) 6 [] (v := (.agg (mcells M))) (fun w' : World => MB w' 27 b6 M) rfl (by kernel_rfl) (by kernel_rfl) (by kernel_rfl) (by rfl) (by kernel_rfl) (by simp) (fun _ _ _ h => h) (Or.inl ⟨by rfl, ?_⟩) (by assumption) ?_
  · (intro W hW; exact exec_load _ rfl rfl (load_run hW))
  intro hHeld'
  clear hHeld; have hHeld := hHeld'; clear hHeld'
  try simp only [Act.put, List.getElem_toArray, List.getElem_cons_succ, List.getElem_cons_zero, List.setIfInBounds_toArray, List.set_cons_zero, List.set_cons_succ]
  refine wpAnyL_take0 (i := 1) (v := ?_) rfl (by kernel_rfl) (by kernel_rfl) (by kernel_rfl) (by rfl) (fun _ _ _ h => h) (Or.inl ⟨by rfl, ?_⟩) (by assumption) ?_
  rotate_left
  · (intro W _; go_simp; (with_reducible rfl))
  intro hHeld'
  clear hHeld; have hHeld := hHeld'; clear hHeld'
  try simp only [Act.put, List.getElem_toArray, List.getElem_cons_succ, List.getElem_cons_zero, List.setIfInBounds_toArray, List.set_cons_zero, List.set_cons_succ]
  refine wpAnyL_take0 (i := 2) (v := ?_) rfl (by kernel_rfl) (by kernel_rfl) (by kernel_rfl) (by rfl) (fun _ _ _ h => h) (Or.inl ⟨by rfl, ?_⟩) (by assumption) ?_
  rotate_left
  · (intro W _; go_simp; (with_reducible rfl))
  intro hHeld'
  clear hHeld; have hHeld := hHeld'; clear hHeld'
  try simp only [Act.put, List.getElem_toArray, List.getElem_cons_succ, List.getElem_cons_zero, List.setIfInBounds_toArray, List.set_cons_zero, List.set_cons_succ]
  refine wpAnyL_takeP (i := 3) 6 [5] (v := (.agg (mcells M))) (fun w' : World => MB w' 27 b6 M) rfl (by kernel_rfl) (by kernel_rfl) (by kernel_rfl) (by rfl) (by kernel_rfl) (by simp) (fun _ _ _ h => h) (Or.inl ⟨by rfl, ?_⟩) (by assumption) ?_
  · (intro W hW; exact exec_load _ rfl rfl (load_run hW))
  intro hHeld'
  clear hHeld; have hHeld := hHeld'; clear hHeld'
  try simp only [Act.put, List.getElem_toArray, List.getElem_cons_succ, List.getElem_cons_zero, List.setIfInBounds_toArray, List.set_cons_zero, List.set_cons_succ]
  refine wpAnyL_take0 (i := 4) (v := ?_) rfl (by kernel_rfl) (by kernel_rfl) (by kernel_rfl) (by rfl) (fun _ _ _ h => h) (Or.inl ⟨by rfl, ?_⟩) (by assumption) ?_
  rotate_left
  · (intro W _; go_simp; (with_reducible rfl))
  intro hHeld'
  clear hHeld; have hHeld := hHeld'; clear hHeld'
  try simp only [Act.put, List.getElem_toArray, List.getElem_cons_succ, List.getElem_cons_zero, List.setIfInBounds_toArray, List.set_cons_zero, List.set_cons_succ]
  refine wpAnyL_ready (rs := [5]) (by kernel_rfl) (by simp) ?_
  refine AllReadyL.cons rfl (fun K hK => ?_) AllReadyL.nil
  go_simp
  replace hS := hid hS.out.f1
  (with_reducible refine (D.out.place M n hS.out).mono ?_)
  rintro e w5 ⟨k, rfl, hk, hS'⟩
  replace hS := hid hS'
  clear hS'
  go_simp
  refine hK.out _ _ (HeldL.cons (fun _ => hS.out.m1) HeldL.nil) (fun hHeld' => ?_)
  clear hK K hHeld; have hHeld := hHeld'; clear hHeld'
  try simp only [Act.put, List.getElem_toArray, List.getElem_cons_succ, List.getElem_cons_zero, List.setIfInBounds_toArray, List.set_cons_zero, List.set_cons_succ]
  refine wpAnyL_ready (rs := [6]) (by kernel_rfl) (by simp) ?_
  refine AllReadyL.cons rfl (fun K hK => ?_) AllReadyL.nil
  refine step_store_mach rfl _ _ rfl _ rfl M rfl _ _ hS.out.m2 ?_
  intro W9 p2 ho hbl
  replace hS := hid (hS.out.f2.setM (Nat.le_refl _) p2 ho hbl)
  clear p2 ho hbl
  refine hK.out _ _ (HeldL.cons (fun h => absurd h (by decide +kernel)) HeldL.nil) (fun hHeld' => ?_)
  clear hK K hHeld; have hHeld := hHeld'; clear hHeld'
  try simp only [Act.put, List.getElem_toArray, List.getElem_cons_succ, List.getElem_cons_zero, List.setIfInBounds_toArray, List.set_cons_zero, List.set_cons_succ]
  refine wpAnyL_take0 (i := 7) (v := ?_) rfl (by kernel_rfl) (by kernel_rfl) (by kernel_rfl) (by rfl) (fun _ _ _ h => h) (Or.inl ⟨by rfl, ?_⟩) (by assumption) ?_
  rotate_left
  · (intro W _; go_simp; (with_reducible rfl))
  intro hHeld'
  clear hHeld; have hHeld := hHeld'; clear hHeld'
  try simp only [Act.put, List.getElem_toArray, List.getElem_cons_succ, List.getElem_cons_zero, List.setIfInBounds_toArray, List.set_cons_zero, List.set_cons_succ]
  refine wpAnyL_take0 (i := 8) (v := ?_) rfl (by kernel_rfl) (by kernel_rfl) (by kernel_rfl) (by rfl) (fun _ _ _ h => h) (Or.inl ⟨by rfl, ?_⟩) (by assumption) ?_
  rotate_left
  · (intro W _; go_simp; (with_reducible rfl))
  intro hHeld'
  clear hHeld; have hHeld := hHeld'; clear hHeld'
  try simp only [Act.put, List.getElem_toArray, List.getElem_cons_succ, List.getElem_cons_zero, List.setIfInBounds_toArray, List.set_cons_zero, List.set_cons_succ]
  refine wpAnyL_done (by kernel_rfl) ?_ _
  go_wp2
  exact ret_mvv rfl rfl rfl rfl hS.out.m0 rfl ⟨M, n, k, rfl, hid ⟨hM.out, hn.out, hk.out⟩, hS.out.bel⟩
end Go.Proofs.YthmcdfjijkecfaaGreat

/- Draws of group words. -/
namespace Go.Proofs.YthmcdfjijkecfaaGreat
open Go.RowKit
set_option linter.unusedVariables false
set_option linter.unusedSimpArgs false
-- @LONG

section
variable {w0 w : World} {S : Nat} {v : Value} {l : List Nat} {L : List Asn}
set_option maxHeartbeats 4000000 in
set_option maxRecDepth 100000 in
theorem Dg.small (D : Dg w0 S v l) (hS : St w0.heap.size w0 (Asn.src S v l.length :: L) w) :
    Calls Tryz.prog 211 #[.pointer (some ⟨S, 0, none⟩)] w fun e w' => ∃ m : Mach, e = .returned (.agg (mcells m)) ∧ Hid (Low8 m) ∧ St w0.heap.size w0 (Asn.src S v l.length :: L) w' := by
  have hN := hid (fun W L n (h0 : n ≤ 1000000000) hW => D.next (w := W) (L := L) n h0 hW)
  have hP := hid (fun W L b2 v2 M hM hMl hW => D.pick (w := W) (L := L) (b2 := b2) (v2 := v2) M hM hMl hW)
  have hA := hid (fun W L d n hd hn hW => D.any (w := W) (L := L) d n hd hn hW)
  have hrd := hid (fun W t (ht : t.size ≤ 1000) => l01Read_any W t (by omega))
  have hA2 := hid (fun W L (r : Nat) (hr : r < 7) hW => (by
      have h := hA.out W L 2 (1 + r) (Or.inl rfl) (by omega) hW
      rw [show ((1 + r : Nat) : Int) = 1 + (r : Int) by omega] at h
      refine h.mono ?_
      rintro e w' ⟨m, rfl, hm, h'⟩
      exact ⟨m, rfl, hid (MLS.few (S := 1 + r) ⟨hm.out.1, hm.out.2.1, by rw [hm.out.2.2]; omega⟩ (by omega)).low, h'⟩ : Calls Tryz.prog 174 #[.pointer (some ⟨S, 0, none⟩), .int .i64 2, .int .i64 (1 + (r : Int))] W fun e w' => ∃ m : Mach, e = .returned (.agg (mcells m)) ∧ Hid (Low8 m) ∧ St w0.heap.size w0 (Asn.src S v l.length :: L) w'))
  have hB := hid (fun W L m hm hW => D.bad (w := W) (L := L) m hm hW)
  have hro := hid (fun t (ht : (rdS t).length ≤ 8) => (show Few8 (rdAns t).1 from ⟨rdAns_ok t, rdAns_S ht⟩))
  have hz := zeroM_run
  have hz2 := hid (fun L W (h : St w0.heap.size w0 (Asn.src S v l.length :: L) W) => (h.newMB zeroM 27).f1)
  have hle := hid hS.le
  have hS := hid (((hz2.out _ _ hS).newOwn [.string { data := #[50, 58, 48, 97, 49, 97, 44, 49, 97, 48, 98] }, .string { data := #[50, 58, 48, 97, 49, 97, 44, 48, 97, 49, 99, 44, 49, 97, 48, 98] }, .string { data := #[50, 58, 48, 97, 49, 97, 44, 49, 97, 48, 97, 44, 48, 98, 49, 100, 44, 48, 98, 49, 101, 44, 48, 97, 49, 99] }, .string { data := #[50, 58, 48, 98, 49, 97, 44, 49, 98, 48, 97] }, .string { data := #[51, 58, 48, 97, 49, 97, 50, 97, 44, 49, 97, 48, 97, 50, 98] }, .string { data := #[50, 58, 48, 97, 49, 98, 44, 49, 97, 48, 98] }, .string { data := #[51, 58, 48, 97, 49, 97, 50, 97, 44, 49, 97, 50, 97, 48, 98] }] 9 (by simp)).f1)
  have htx := hid (fun W L r (hr : r < 7) (hW : St w0.heap.size w0 (Asn.src S v l.length :: Asn.own w0.heap.size 9 (.slice (some ⟨w.heap.size + 1, 0, none⟩) 7 7) [.string { data := #[50, 58, 48, 97, 49, 97, 44, 49, 97, 48, 98] }, .string { data := #[50, 58, 48, 97, 49, 97, 44, 48, 97, 49, 99, 44, 49, 97, 48, 98] }, .string { data := #[50, 58, 48, 97, 49, 97, 44, 49, 97, 48, 97, 44, 48, 98, 49, 100, 44, 48, 98, 49, 101, 44, 48, 97, 49, 99] }, .string { data := #[50, 58, 48, 98, 49, 97, 44, 49, 98, 48, 97] }, .string { data := #[51, 58, 48, 97, 49, 97, 50, 97, 44, 49, 97, 48, 97, 50, 98] }, .string { data := #[50, 58, 48, 97, 49, 98, 44, 49, 97, 48, 98] }, .string { data := #[51, 58, 48, 97, 49, 97, 50, 97, 44, 49, 97, 50, 97, 48, 98] }] :: L) W) => (show ∃ t, W.cell? ⟨w.heap.size + 1, r, none⟩ = some (.string t) ∧ Hid ((rdS t).length ≤ 8) ∧ t.size ≤ 1000 from by
    have hr' : r < tx7.length := hr
    have hm := tx7_S tx7[r] (List.getElem_mem hr')
    exact ⟨tx7[r], hW.o1.cellAt r _ (by rw [show ([.string { data := #[50, 58, 48, 97, 49, 97, 44, 49, 97, 48, 98] }, .string { data := #[50, 58, 48, 97, 49, 97, 44, 48, 97, 49, 99, 44, 49, 97, 48, 98] }, .string { data := #[50, 58, 48, 97, 49, 97, 44, 49, 97, 48, 97, 44, 48, 98, 49, 100, 44, 48, 98, 49, 101, 44, 48, 97, 49, 99] }, .string { data := #[50, 58, 48, 98, 49, 97, 44, 49, 98, 48, 97] }, .string { data := #[51, 58, 48, 97, 49, 97, 50, 97, 44, 49, 97, 48, 97, 50, 98] }, .string { data := #[50, 58, 48, 97, 49, 98, 44, 49, 97, 48, 98] }, .string { data := #[51, 58, 48, 97, 49, 97, 50, 97, 44, 49, 97, 50, 97, 48, 98] }] : List Value) = strs tx7 from rfl]; simp [strs, List.getElem?_eq_getElem hr']), hid hm.1, hm.2⟩))
  simp only [heap_alloc_size] at hS
  clear D
  go_enter Tryz.func211, Tryz.ntmps211
  go_upto_region 2 with (fail)
  generalize World.alloc (World.alloc w _) _ = wA at *
  simp only [List.length_cons, List.length_nil, Nat.reduceAdd] at hS
  generalize ([.string { data := #[50, 58, 48, 97, 49, 97, 44, 49, 97, 48, 98] }, .string { data := #[50, 58, 48, 97, 49, 97, 44, 48, 97, 49, 99, 44, 49, 97, 48, 98] }, .string { data := #[50, 58, 48, 97, 49, 97, 44, 49, 97, 48, 97, 44, 48, 98, 49, 100, 44, 48, 98, 49, 101, 44, 48, 97, 49, 99] }, .string { data := #[50, 58, 48, 98, 49, 97, 44, 49, 98, 48, 97] }, .string { data := #[51, 58, 48, 97, 49, 97, 50, 97, 44, 49, 97, 48, 97, 50, 98] }, .string { data := #[50, 58, 48, 97, 49, 98, 44, 49, 97, 48, 98] }, .string { data := #[51, 58, 48, 97, 49, 97, 50, 97, 44, 49, 97, 50, 97, 48, 98] }] : List Value) = cs at *
  generalize w.heap.size + 1 = gT at *
  have mk1 : True := trivial
  go_wp2_with (first
    | (go_at_call 130; clear mk1; (with_reducible refine (hN.out _ _ _ (by omega) hS.out).mono ?_); rintro e w1 ⟨r1, rfl, _, hS'⟩; replace hS := hid hS'; clear hS')
    | (go_at_call 130; (with_reducible refine (hN.out _ _ _ (by omega) hS.out).mono ?_); rintro e w2 ⟨r, rfl, hr, hS'⟩; (have hr8 : r < 7 := by omega); (have hr9 : (r : Int) < 7 := by omega); (have r0 : (0 : Int) ≤ (r : Int) := Int.natCast_nonneg _); (have e1 : wrap64 (1 + (r : Int)) = 1 + (r : Int) := w64 (by omega) (by omega)); (refine Exists.elim (htx.out w2 _ r hr8 hS') ?_); rintro t ⟨ct, ht, hts⟩; replace hS := hid hS'; clear hS' hr)
    | (go_at_call 130; (with_reducible refine (hN.out _ _ _ (by omega) hS.out).mono ?_); rintro e w2 ⟨r, rfl, hr, hS'⟩; (have hr8 : r < 7 := by omega); (have hr9 : (r : Int) < 7 := by omega); (have r0 : (0 : Int) ≤ (r : Int) := Int.natCast_nonneg _); (have e1 : wrap64 (1 + (r : Int)) = 1 + (r : Int) := w64 (by omega) (by omega)); replace hS := hid hS'; clear hS' hr)
    | (go_at_call 130; (with_reducible refine (hN.out _ _ _ (by omega) hS.out.f1).mono ?_); rintro e w2 ⟨r, rfl, hr, hS'⟩; (have hr8 : r < 7 := by omega); (have hr9 : (r : Int) < 7 := by omega); (have r0 : (0 : Int) ≤ (r : Int) := Int.natCast_nonneg _); (have e1 : wrap64 (1 + (r : Int)) = 1 + (r : Int) := w64 (by omega) (by omega)); replace hS := hid hS'; clear hS' hr)
    | (go_at_call 237; (with_reducible refine (hrd.out _ t hts).mono ?_); rintro e w3 ⟨rfl, hb⟩; (have hle3 := hid (hS.out.call hb).le); replace hS := hid (hz2.out _ _ (hS.out.call hb)); (have hF := hid (hro.out t ht.out)); clear ct hb; generalize (rdAns t).1 = M at *; generalize (rdAns t).2 = ok at *)
    | ((with_reducible refine gateOp (op := .store 27 (.tmp 4) (.tmp 19)) rfl ?_); refine store_mach rfl _ _ rfl w3.heap.size rfl M rfl 27 _ hS.out.f1.m0 ?_; intro w4 p3 ho hsz hbl; replace hS := hid (hS.out.f1.setM hle3.out p3 ho hbl); clear p3 ho hsz hbl)
    | ((with_reducible refine gate (N := 23) rfl ?_); refine load_mach rfl _ rfl w3.heap.size rfl M hS.out.m0 ?_)
    | (go_at_call 199; (with_reducible refine (hB.out _ _ M hF.out hS.out.f1).mono ?_); rintro e w2 ⟨M2, rfl, hG, hS'⟩; replace hS := hid hS'; clear hS')
    | ((with_reducible refine gateOp (op := .store 27 (.tmp 2) (.tmp 24)) rfl ?_); refine store_mach rfl _ _ rfl w.heap.size rfl M2 rfl 27 _ hS.out.f3.m0 ?_; intro w5 p3 ho hsz hbl; replace hS := hid (hS.out.f3.setM hle.out p3 ho hbl); clear p3 ho hsz hbl)
    | (go_at_call 174; (with_reducible refine (hA2.out _ _ r hr8 hS.out).mono ?_); rintro e w8 ⟨M2, rfl, hG, hS'⟩; replace hS := hid hS'; clear hS')
    | ((with_reducible refine gateOp (op := .store 27 (.tmp 2) (.tmp 29)) rfl ?_); refine store_mach rfl _ _ rfl w.heap.size rfl M2 rfl 27 _ hS.out.f2.m0 ?_; intro w9 p3 ho hsz hbl; replace hS := hid (hS.out.f2.setM hle.out p3 ho hbl); clear p3 ho hsz hbl)
    | ((with_reducible refine gateOp (op := .store 27 (.tmp 2) (.tmp 29)) rfl ?_); refine store_mach rfl _ _ rfl w.heap.size rfl M2 rfl 27 _ hS.out.f3.m0 ?_; intro w9 p3 ho hsz hbl; replace hS := hid (hS.out.f3.setM hle.out p3 ho hbl); clear p3 ho hsz hbl))
  all_goals first
    | exact ret_mach rfl rfl hS.out.m0 rfl ⟨M2, rfl, hG, hS.out.drop.f1.drop⟩
    | exact ret_mach rfl rfl hS.out.m0 rfl ⟨M2, rfl, hG, hS.out.drop.f1.drop.f1.drop⟩
end
end Go.Proofs.YthmcdfjijkecfaaGreat
