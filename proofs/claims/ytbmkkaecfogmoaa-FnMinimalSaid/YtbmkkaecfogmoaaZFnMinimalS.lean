/- What the proof of FnMinimal leans on, part 19 of 21. -/
import Derived.Test.YtbmkkaecfogmoaaZFnMinimalR
/- The dice of the great laws. -/
namespace Go.Proofs.Ytbmkkaecfogmoaa
open Go.RowKit
set_option linter.unusedVariables false
set_option linter.unusedSimpArgs false
-- @LONG

/-- Dice: their code, how far it is read, their number. -/
def Asn.dic (S : Nat) (v : Value) (n : Nat) : Asn :=
  ⟨fun k => k = S, fun w => ∃ a h : Nat, w.heap[S]? = some (.cells #[v, .int .i64 a, .int .u64 h] 191 (0, 0)) ∧ a ≤ n ∧ h < 18446744073709551616,
   fun ⟨a, h, h1, h2⟩ hk => ⟨a, h, (hk S rfl).trans h1, h2⟩, fun ⟨a, h, h1, _⟩ k hk => hk ▸ (Array.getElem?_eq_some_iff.1 h1).1⟩
theorem St.dicBlk {base S n : Nat} {w0 w : World} {L : List Asn} {v : Value} (h : St base w0 (Asn.dic S v n :: L) w) : ∃ a x : Nat, a ≤ n ∧ x < 18446744073709551616 ∧ St base w0 (Asn.blk S #[v, .int .i64 a, .int .u64 x] 191 :: L) w := by
  obtain ⟨⟨a, x, h1, h2, h3⟩, hf, hL⟩ := h.star
  exact ⟨a, x, h2, h3, h.bel, h.le, h1, hf, hL⟩
theorem St.blkDic {base S n a x : Nat} {w0 w : World} {L : List Asn} {v : Value} (h : St base w0 (Asn.blk S #[v, .int .i64 a, .int .u64 x] 191 :: L) w) (ha : a ≤ n) (hx : x < 18446744073709551616) : St base w0 (Asn.dic S v n :: L) w :=
  ⟨h.bel, h.le, ⟨a, x, h.star.1, ha, hx⟩, h.star.2.1, h.star.2.2⟩
set_option maxHeartbeats 2000000 in
set_option maxRecDepth 100000 in
theorem below_any (w0 : World) (L : List Asn) (w : World) (S : Nat) (v : Value) (l : List Nat) (hv : ArgB w0 v l) (hl : l.length ≤ 4096) (hSb : w0.heap.size ≤ S) (n : Int) (hn : n < 9223372036854775808)
    (hS : St w0.heap.size w0 (Asn.dic S v l.length :: L) w) :
    Calls Try.prog 86 #[.pointer (some ⟨S, 0, none⟩), .int .i64 n] w fun e w' => ∃ r : Int, e = .returned (.int .i64 r) ∧ 0 ≤ r ∧ (r < n ∨ r = 0) ∧ St w0.heap.size w0 (Asn.dic S v l.length :: L) w' := by
  have hv' := hid hv
  obtain ⟨A, c, rfl, hA⟩ := hv
  obtain ⟨a, x, ha, hx, hB⟩ := hS.dicBlk
  by_cases h1 : n < 1
  · have d1 : decide (n < 1) = true := decide_eq_true h1
    replace hS := hid hS
    clear hB
    go_enter Try.func86, Try.ntmps86
    go_wp2
    go_ret
    exact ⟨0, rfl, by omega, .inr rfl, hS.out⟩
  · have d1 : decide (n < 1) = false := decide_eq_false h1
    have c2 := (show w.cell? ⟨S, 2, none⟩ = some (.int .u64 x) from cell_of_row _ _ 2 _ _ _ hB.k0)
    have f2 := frozen_of_row _ _ 2 _ _ hB.k0
    replace hB := hid hB
    clear hS
    go_enter Try.func86, Try.ntmps86
    go_upto_region 4 with (fail)
    obtain ⟨y, hy, hy2⟩ := u64_nat (IntKind.u64.wrap ((x : Int) * 6364136223846793005) + 1442695040888963407)
    rw [hy]
    clear hy
    replace hB := hid (show St w0.heap.size w0 (Asn.blk S #[.slice A l.length c, .int .i64 a, .int .u64 y] 191 :: L) _ from hB.out.setBlk hSb 2 (.int .u64 y))
    clear c2 f2
    generalize w.setCell _ _ = w1 at *
    have c2 := (show w1.cell? ⟨S, 2, none⟩ = some (.int .u64 y) from cell_of_row _ _ 2 _ _ _ hB.out.k0)
    have c1 := (show w1.cell? ⟨S, 1, none⟩ = some (.int .i64 a) from cell_of_row _ _ 1 _ _ _ hB.out.k0)
    have c0 := (show w1.cell? ⟨S, 0, none⟩ = some (.slice A l.length c) from cell_of_row _ _ 0 _ _ _ hB.out.k0)
    have f1 := frozen_of_row _ _ 1 _ _ hB.out.k0
    go_upto_region 5 with (fail)
    obtain ⟨z, hz, hz2⟩ := and24 y hy2
    rw [hz]
    clear hz
    rw [w64 (show -9223372036854775808 ≤ (z : Int) by omega) (show (z : Int) ≤ 9223372036854775807 by omega)]
    have dz : ¬ n = 0 := by omega
    by_cases hlt : a < l.length
    · have da : decide ((a : Int) < (l.length : Int)) = true := decide_eq_true (by omega)
      obtain ⟨g, rfl, hc⟩ : ∃ g : Addr, A = some g ∧ ∀ i x, l[i]? = some x → x < 256 ∧ w0.cell? (g.add i) = some (.int .u8 (x : Nat)) ∧ (g.add i).block < w0.heap.size := by
        rcases hA with ⟨_, h⟩ | ⟨g, h, hh⟩
        · rw [h] at hlt; simp at hlt
        · exact ⟨g, h, hh⟩
      obtain ⟨b, hb⟩ : ∃ b, l[a]? = some b := ⟨_, List.getElem?_eq_getElem hlt⟩
      obtain ⟨hb1, hb2, hb3⟩ := hc a b hb
      have cb := (hB.out.bel.cell hb3).trans hb2
      have a0 : (0 : Int) ≤ (a : Int) := Int.natCast_nonneg _
      have a1 : (a : Int) < (l.length : Int) := by omega
      have ew : wrap64 ((z : Int) + (b : Int)) = (z : Int) + b := w64 (by omega) (by omega)
      have ew1 : wrap64 ((a : Int) + 1) = (a : Int) + 1 := w64 (by omega) (by omega)
      have ewb : wrap64 (b : Int) = (b : Int) := w64 (by omega) (by omega)
      have hr1 := Int.emod_nonneg ((z : Int) + b) (show n ≠ 0 by omega)
      have hr2 := Int.emod_lt_of_pos ((z : Int) + b) (show 0 < n by omega)
      have m1 : Int.tmod ((z : Int) + (b : Int)) n = ((z : Int) + b) % n := Int.tmod_eq_emod_of_nonneg (Int.add_nonneg (Int.natCast_nonneg _) (Int.natCast_nonneg _))
      clear hA hc hb hb2 hb3
      replace hy2 := hid hy2; replace hx := hid hx; replace hn := hid hn; replace hz2 := hid hz2
      go_quiet (fail)
      go_upto_region 6 with (fail)
      go_quiet (fail)
      rw [ew]
      obtain ⟨w3, hw3, hB3⟩ : ∃ w3, (World.drewN (World.drewN w1 _) nq) = w3 ∧ St w0.heap.size w0 (Asn.blk S #[.slice (some g) l.length c, .int .i64 a, .int .u64 y] 191 :: L) w3 := ⟨_, rfl, (hB.out.drewN _).drewN _⟩
      rw [hw3]
      replace hB := hid hB3
      clear hw3 hB3 c0 c1 c2 f1 cb
      have c1 := (show w3.cell? ⟨S, 1, none⟩ = some (.int .i64 a) from cell_of_row _ _ 1 _ _ _ hB.out.k0)
      have f1 := frozen_of_row _ _ 1 _ _ hB.out.k0
      go_upto_region 8 with (fail)
      replace hB := hid (show St w0.heap.size w0 (Asn.blk S #[.slice (some g) l.length c, .int .i64 ((a : Int) + 1), .int .u64 y] 191 :: L) _ from hB.out.setBlk hSb 1 (.int .i64 ((a : Int) + 1)))
      generalize w3.setCell _ _ = w4 at *
      have ea : (a : Int) + 1 = ((a + 1 : Nat) : Int) := rfl
      rw [ea] at hB
      clear c1 f1 ew ew1 ewb
      go_wp2
      go_ret
      exact ⟨((z : Int) + b) % n, by first | rfl | (rw [m1]), hr1, .inl hr2, (hB.out.blkDic (by omega) hy2.out)⟩
    · have da : decide ((a : Int) < (l.length : Int)) = false := decide_eq_false (by omega)
      have hr1 := Int.emod_nonneg (z : Int) (show n ≠ 0 by omega)
      have hr2 := Int.emod_lt_of_pos (z : Int) (show 0 < n by omega)
      have m1 : Int.tmod (z : Int) n = (z : Int) % n := Int.tmod_eq_emod_of_nonneg (Int.natCast_nonneg _)
      go_quiet (fail)
      go_wp2
      go_ret
      exact ⟨(z : Int) % n, by first | rfl | (rw [m1]), hr1, .inl hr2, ((hB.out.drewN _).blkDic ha hy2)⟩
theorem built_dice (A : Option Addr) (n c : Nat) (x : Int) : Try.prog.built 191 [(0, .slice A n c), (2, .int .u64 x)] = some #[.slice A n c, .int .i64 0, .int .u64 x] := by kernel_rfl
set_option maxHeartbeats 2000000 in
set_option maxRecDepth 100000 in
theorem roll_any (w : World) (v : Value) (l : List Nat) (hv : ArgB w v l) (hl : l.length ≤ 4096) (sd : Int) :
    Calls Try.prog 85 #[v, .int .u64 sd] w fun e w' => e = .returned (.pointer (some ⟨w.heap.size, 0, none⟩)) ∧ St w.heap.size w [Asn.dic w.heap.size v l.length] w' := by
  have hv' := hid hv
  obtain ⟨A, c, rfl, hA⟩ := hv
  have hbs := fun (x : Int) => built_dice A l.length c x
  have hby := hid (fun i (hi : i < l.length) => (show ∃ (g : Addr) (b : Nat), A = some g ∧ b < 256 ∧ w.cell? (g.add i) = some (.int .u8 (b : Nat)) ∧ (g.add i).block < w.heap.size from by
    rcases hA with ⟨_, h⟩ | ⟨g, h, hh⟩
    · rw [h] at hi; simp at hi
    · obtain ⟨h1, h2, h3⟩ := hh i _ (List.getElem?_eq_getElem hi)
      exact ⟨g, _, h, h1, h2, h3⟩))
  clear hA
  have hux := hid u64_nat
  generalize hn : l.length = n at *
  go_enter Try.func85, Try.ntmps85
  go_upto_region 2 with (fail)
  obtain ⟨y0, hy0, hy02⟩ := hux.out (IntKind.u64.wrap (sd * 6257) + (n : Int))
  rw [hy0]
  have hS1 := hid ((show St w.heap.size w [Asn.blk w.heap.size #[.slice A n c, .int .i64 ((0 : Nat) : Int), .int .u64 ((y0 : Nat) : Int)] 191] _ from (St.start w).newBlk #[.slice A n c, .int .i64 0, .int .u64 (y0 : Nat)] 191).blkDic (n := n) (Nat.zero_le _) hy02)
  generalize World.alloc w _ = w1 at *
  clear hbs hy0
  replace hy02 := hid hy02
  go_wp2
  go_loopw [6] (fun i wr => ∃ k : Nat, k ≤ n ∧ i = .int .i64 k ∧ St w.heap.size w [Asn.dic w.heap.size (.slice A n c) n] wr) (fun i _ => n - (intOf i).toNat)
  case atStart => exact ⟨0, Nat.zero_le _, rfl, hS1.out⟩
  case round =>
    obtain ⟨k, hk, rfl, rS⟩ := hrel
    clear hS1
    by_cases hlt : k < n
    · have dk : decide ((k : Int) < (n : Int)) = true := decide_eq_true (by omega)
      obtain ⟨a, x, ha, hx, hB⟩ := rS.dicBlk
      obtain ⟨g, b, rfl, hb, hb2, hb3⟩ := hby.out k hlt
      have cb := (hB.bel.cell hb3).trans hb2
      have c2 := (show wr.cell? ⟨w.heap.size, 2, none⟩ = some (.int .u64 x) from cell_of_row _ _ 2 _ _ _ hB.k0)
      have f2 := frozen_of_row _ _ 2 _ _ hB.k0
      have k0 : (0 : Int) ≤ (k : Int) := Int.natCast_nonneg _
      have k1 : (k : Int) < (n : Int) := by omega
      replace hB := hid hB; replace hx := hid hx
      clear rS hb2 hb3
      go_upto_region 5 with (fail)
      go_region
      obtain ⟨y, hy, hy2⟩ := u64_nat (IntKind.u64.wrap (IntKind.u64.wrap ((x : Int) * 1099511628211) + (b : Int)) + 5)
      rw [hy]
      replace hB := hid ((show St w.heap.size w [Asn.blk w.heap.size #[.slice (some g) n c, .int .i64 a, .int .u64 y] 191] _ from hB.out.setBlk (Nat.le_refl _) 2 (.int .u64 y)).drew)
      generalize World.drew _ = w5 at *
      clear hy c2 f2 cb
      replace hy2 := hid hy2
      go_wp2
      go_roundw
      case rel => exact ⟨k + 1, by omega, by go_num, hB.out.blkDic ha hy2.out⟩
      case measure => simp [intOf]; omega
    · obtain rfl : k = n := by omega
      have dk : decide ((k : Int) < (k : Int)) = false := decide_eq_false (by omega)
      replace rS := hid rS
      go_wp2
      go_ret
      exact ⟨rfl, rS.out⟩
end Go.Proofs.Ytbmkkaecfogmoaa

/- Equal lists of numbers, sums, words of dice. -/
namespace Go.Proofs.Ytbmkkaecfogmoaa
open Go.RowKit
set_option linter.unusedVariables false
set_option linter.unusedSimpArgs false
-- @LONG

set_option maxHeartbeats 2000000 in
set_option maxRecDepth 100000 in
theorem likeInts_any (w : World) (b1 b2 : Nat) (v1 v2 : Value) (M : List Int) (h1 : Own w b1 2 v1 (ints M)) (h2 : Own w b2 2 v2 (ints M)) (hl : M.length ≤ 1000000) :
    Calls Try.prog 14 #[v1, v2] w fun e w' => e = .returned (.bool true) ∧ Below w.heap.size w w' := by
  obtain ⟨A1, c1, rfl, _, hA1⟩ := h1.form
  obtain ⟨A2, c2, rfl, _, hA2⟩ := h2.form
  rw [ints_length] at *
  have hg := hid (fun k (hk : k < M.length) => (show ∃ (x : Int) (g1 g2 : Nat), A1 = some ⟨g1, 0, none⟩ ∧ A2 = some ⟨g2, 0, none⟩ ∧ w.cell? ⟨g1, k, none⟩ = some (.int .i64 x) ∧ w.cell? ⟨g2, k, none⟩ = some (.int .i64 x) ∧ g1 < w.heap.size ∧ g2 < w.heap.size from by
    have hx : (ints M)[k]? = some (.int .i64 M[k]) := by simp [ints, hk]
    rcases hA1 with ⟨_, h, _⟩ | ⟨g1, e1, _, l1, q1⟩
    · rw [h] at hx; simp at hx
    · rcases hA2 with ⟨_, h, _⟩ | ⟨g2, e2, _, l2, q2⟩
      · rw [h] at hx; simp at hx
      · exact ⟨_, g1, g2, e1, e2, q1 k _ hx, q2 k _ hx, l1, l2⟩))
  clear hA1 hA2 h1 h2
  generalize M.length = n at *
  go_enter Try.func14, Try.ntmps14
  go_wp2
  go_loopw [5] (fun i wr => ∃ k : Nat, k ≤ n ∧ i = .int .i64 k ∧ Below w.heap.size w wr) (fun i _ => n - (intOf i).toNat)
  case atStart => exact ⟨0, Nat.zero_le _, rfl, Below.refl _ _⟩
  case round =>
    obtain ⟨k, hk, rfl, rB⟩ := hrel
    by_cases hlt : k < n
    · have dk : decide ((k : Int) < (n : Int)) = true := decide_eq_true (by omega)
      obtain ⟨x, g1, g2, rfl, rfl, q1, q2, l1, l2⟩ := hg.out k hlt
      have d1 := (rB.cell (p := ⟨g1, k, none⟩) l1).trans q1
      have d2 := (rB.cell (p := ⟨g2, k, none⟩) l2).trans q2
      have k0 : (0 : Int) ≤ (k : Int) := Int.natCast_nonneg _
      have k1 : (k : Int) < (n : Int) := by omega
      replace rB := hid rB
      go_upto_region 6 with (fail)
      go_quiet (fail)
      go_wp2
      go_roundw
      case rel => exact ⟨k + 1, by omega, by go_num, below_drewN rB.out _⟩
      case measure => simp [intOf]; omega
    · obtain rfl : k = n := by omega
      have dk : decide ((k : Int) < (k : Int)) = false := decide_eq_false (by omega)
      go_wp2
      go_ret
      exact ⟨rfl, rB⟩
set_option maxHeartbeats 1000000 in
set_option maxRecDepth 100000 in
theorem sum_any (w : World) (b1 : Nat) (v1 : Value) (M : List Int) (h1 : Own w b1 2 v1 (ints M)) (hl : M.length ≤ 100000) (hr : ∀ x ∈ M, 0 ≤ x ∧ x ≤ 1000000000) :
    Calls Try.prog 35 #[v1] w fun e w' => e = .returned (.int .i64 M.sum) ∧ w = w' := by
  obtain ⟨A1, c1, rfl, _, hA1⟩ := h1.form
  rw [ints_length] at *
  have hg := hid (fun k (hk : k < M.length) => (show ∃ (x : Int) (g1 : Nat), A1 = some ⟨g1, 0, none⟩ ∧ M[k]? = some x ∧ w.cell? ⟨g1, k, none⟩ = some (.int .i64 x) ∧ (M.take (k + 1)).sum = (M.take k).sum + x from by
    have hx : (ints M)[k]? = some (.int .i64 M[k]) := by simp [ints, hk]
    have hy : M[k]? = some M[k] := List.getElem?_eq_getElem hk
    rcases hA1 with ⟨_, h, _⟩ | ⟨g1, e1, _, l1, q1⟩
    · rw [h] at hx; simp at hx
    · exact ⟨_, g1, e1, hy, q1 k _ hx, by rw [List.take_add_one, hy, List.sum_append]; simp⟩))
  have hbd := hid (fun k (hk : k ≤ M.length) => (show 0 ≤ (M.take k).sum ∧ (M.take k).sum ≤ k * 1000000000 from by
    induction k with
    | zero => simp
    | succ k ih =>
      obtain ⟨x, _, _, hx, _, e⟩ := hg.out k (by omega)
      have h1 := hr x (List.mem_of_getElem? hx)
      have h2 := ih (by omega)
      rw [e]; omega))
  have hfu := hid (show M.sum = (M.take M.length).sum by rw [List.take_length])
  rw [hfu.out]
  obtain ⟨F, hF⟩ : ∃ F : Nat → Int, F = fun k => (M.take k).sum := ⟨_, rfl⟩
  have hF' := hid (fun k => (show (M.take k).sum = F k by rw [hF]))
  have hF0 := hid (show F 0 = 0 by rw [hF]; rfl)
  simp only [hF'.out] at hg hbd ⊢
  clear hA1 h1 hfu hF hr
  generalize M.length = n at *
  go_enter Try.func35, Try.ntmps35
  go_wp2
  go_loop [3, 4] (fun s i => ∃ k : Nat, k ≤ n ∧ i = .int .i64 k ∧ s = .int .i64 (F k)) (fun _ i => n - (intOf i).toNat)
  case atStart => exact ⟨0, Nat.zero_le _, rfl, by rw [hF0.out]⟩
  case round =>
    obtain ⟨k, hk, rfl, rfl⟩ := hrel
    by_cases hlt : k < n
    · have dk : decide ((k : Int) < (n : Int)) = true := decide_eq_true (by omega)
      obtain ⟨x, g1, rfl, _, q1, e⟩ := hg.out k hlt
      have k0 : (0 : Int) ≤ (k : Int) := Int.natCast_nonneg _
      have k1 : (k : Int) < (n : Int) := by omega
      have h2 := hbd.out (k + 1) hlt
      have ew : wrap64 (F k + x) = F k + x := by rw [← e]; exact w64 (by omega) (by omega)
      replace e := hid e; replace h2 := hid h2
      go_wp2
      go_round
      case rel => exact ⟨k + 1, by omega, by go_num, by rw [e.out]; first | rfl | (rw [ew]) | (rw [IntWalk.i64_in _ (by have := h2.out; rw [e.out] at this; omega)])⟩
      case measure => simp [intOf]; omega
    · obtain rfl : k = n := by omega
      have dk : decide ((k : Int) < (k : Int)) = false := decide_eq_false (by omega)
      go_wp2
      go_ret
      exact ⟨rfl, rfl⟩
set_option maxHeartbeats 2000000 in
set_option maxRecDepth 100000 in
theorem word5_any (w : World) (v : Value) (l : List Nat) (hv : ArgB w v l) (hl : l.length ≤ 4096) (d n : Nat) (hd1 : 1 ≤ d) (hd : d ≤ 3) (hn : n ≤ 40) :
    Calls Try.prog 15 #[v, .int .i64 d, .int .i64 n] w fun e w' => ∃ u : List Nat, e = .returned (.string (wstr u)) ∧ u.length = n ∧ (∀ x ∈ u, x < d) ∧ Below w.heap.size w w' := by
  have hro := hid (roll_any w v l hv hl 1701)
  have hN := hid (fun W L hW => below_any w L W w.heap.size v l hv hl (Nat.le_refl _) (d : Int) (by omega) hW)
  replace hv := hid hv
  obtain ⟨A, c, rfl, _⟩ := hv.out
  go_enter Try.func15, Try.ntmps15
  go_upto_region 2 with (first
    | (go_at_call 85; (with_reducible refine (hro.out).mono ?_); rintro e w1 ⟨rfl, hS⟩; replace hS := hid hS))
  have hS0 := hid ((hS.out.newOwn [] 5 (by simp)).f1)
  clear hS
  go_wp2
  go_loopw [2, 8] (fun i o wr => ∃ (u : List Nat) (k : Nat), i = .int .i64 k ∧ u.length + k = n ∧ Hid (∀ x ∈ u, x < d) ∧ St w.heap.size w [Asn.dic w.heap.size (.slice A l.length c) l.length, Asn.own w.heap.size 5 o (wb u)] wr) (fun i _ _ => (intOf i).toNat)
  case atStart => exact ⟨[], n, rfl, by simp, hid (fun x hx => by cases hx), hS0.out⟩
  case round =>
    obtain ⟨u, k, rfl, hk3, hu, rS⟩ := hrel
    clear hS0
    replace rS := hid rS
    by_cases hlt : 0 < k
    · have dk : decide (0 < (k : Int)) = true := decide_eq_true (by omega)
      have hul : u.length ≤ 40 := by omega
      go_wp2_with (first
        | (go_at_call 86; (with_reducible refine (hN.out _ _ rS.out).mono ?_); rintro e w1 ⟨x, rfl, hx0, hx, hS'⟩; obtain ⟨x, rfl⟩ := Int.eq_ofNat_of_zero_le hx0; (have hx3 : x < d := by omega); (have e1 : wrap64 (48 + (x : Int)) = 48 + (x : Int) := w64 (by omega) (by omega)); replace rS := hid hS'.f1; clear hS' hx hN hx0)
        | ((with_reducible refine gate (N := 23) rfl ?_); (refine St.app 22 5 (.int .u8 0) 1 Try.underlying22 info_u8 rfl (by omega) rfl _ _ rfl _ _ rfl rS.out (.int .u8 (48 + (x : Int))) rfl rfl u.length (wb_length u) (by omega) ?_; intro gn cap w2 hO2; replace rS := hid hO2.f1; clear hO2)))
      all_goals go_roundw
      all_goals first
        | (exact ⟨u ++ [x], k - 1, i64_eq (by omega), by simp; omega, hid (fun y hy => (List.mem_append.1 hy).elim (hu.out y) fun hy => by rw [List.mem_singleton.1 hy]; exact hx3), by rw [wb_snoc]; exact rS.out⟩)
        | (simp only [intOf]; omega)
    · obtain rfl : k = 0 := by omega
      have hconv := rS.out.o1.conv
      have hun : u.length = n := by omega
      go_wp2
      go_ret
      exact ⟨u, rfl, hun, hu.out, rS.out.bel⟩
end Go.Proofs.Ytbmkkaecfogmoaa

/- Minimal machines: the program's side. -/
namespace Go.Proofs.Ytbmkkaecfogmoaa
open Go.RowKit
set_option linter.unusedVariables false
set_option linter.unusedSimpArgs false
-- @LONG

set_option maxHeartbeats 1000000 in
theorem min1_any (w : World) (bs bo r base n : Nat) (vs vo : Value) (st F : List Nat) (c : Nat) (hbs : w.cell? ⟨bs, 0, none⟩ = some vs) (hbo : w.cell? ⟨bo, 0, none⟩ = some vo) (hs : Own w base 2 vs (nats st)) (ho : Own w base 2 vo (nats F))
    (hr : F[r]? = some c) (hc : c ∈ st) (hl : st.length < 1000000) (hF : F.length < 1000000) :
    Calls Try.prog 181 #[.int .i64 r, .pointer (some ⟨bs, 0, none⟩), .pointer (some ⟨bo, 0, none⟩)] w fun e w' => e = .returned (.int .i64 (st.idxOf c : Nat)) ∧ ∃ d, w' = w.drewN d := by
  have hrl := (List.getElem?_eq_some_iff.1 hr).1
  have hpos : 0 < st.length := List.length_pos_of_mem hc
  obtain ⟨go, co, rfl, _, _⟩ := ho.blk (fun e => by have h1 := congrArg List.length e; rw [nats_length, List.length_nil] at h1; first | omega | (rw [List.length_map, List.length_range] at h1; omega))
  obtain ⟨gs, cs, rfl, _, _⟩ := hs.blk (fun e => by have h1 := congrArg List.length e; rw [nats_length, List.length_nil] at h1; first | omega | (rw [List.length_map, List.length_range] at h1; omega))
  have cr := ho.cellAt r (.int .i64 (c : Nat)) (by simp [nats, hr])
  rw [nats_length] at hbo hbs hs
  have hi := hid (fun n => slIndex_any (w.drewN n) base (.slice (some ⟨gs, 0, none⟩) st.length cs) (st.map Int.ofNat) (c : Int) (by rw [← nats_ints]; exact hs.drewN n) (by simpa using hl))
  rw [idxZ_nat hc] at hi
  clear hs ho hr hc
  generalize F.length = nF at *
  go_enter Try.func181, Try.ntmps181
  go_wp2
  go_quiet ((go_at_call 182; exact quiet_same (hi.out _)))
  go_wp2
  go_ret
  exact ⟨rfl, _, rfl⟩

set_option maxHeartbeats 8000000 in
set_option maxRecDepth 100000 in
theorem gatheredM_any (w : World) (G bs bo base : Nat) (vN vO vs vo : Value) (T : Tab) (st : List Nat) (hT : T.Ok) (hL : T.L ≤ 3) (hL0 : 0 < T.L) (hn : T.n < 100000) (hTB : TB w G vN vO T) (hot : ∀ q x, q < T.n → x < T.L → T.ot q x < 256)
    (hbs : w.cell? ⟨bs, 0, none⟩ = some vs) (hbo : w.cell? ⟨bo, 0, none⟩ = some vo) (hbsl : bs < w.heap.size) (hbol : bo < w.heap.size) (hs : Own w base 2 vs (nats st)) (ho : Own w base 2 vo (nats ((List.range T.n).map (fix T))))
    (hlt : ∀ s ∈ st, s < T.n) (hcl : ∀ s ∈ st, ∀ x, x < T.L → fix T (T.nx s x) ∈ st) (hl : st.length ≤ 16) :
    Calls Try.prog 183 #[.pointer (some ⟨G, 0, none⟩), .int .i64 T.L, vs, .func (.func 181) #[] #[.pointer (some ⟨bs, 0, none⟩), .pointer (some ⟨bo, 0, none⟩)]] w fun e w' => e = .returned (.agg (mcells (gth T (fix T) st))) ∧ Below w.heap.size w w' := by
  have hz := zero_mach
  have hcall := hid (fun W (hb : Below w.heap.size w W) r c (hr : ((List.range T.n).map (fix T))[r]? = some c) (hc : c ∈ st) => min1_any W bs bo r base T.n vs vo st _ c ((hb.cell (p := ⟨bs, 0, none⟩) hbsl).trans hbs) ((hb.cell (p := ⟨bo, 0, none⟩) hbol).trans hbo) (hs.below hb) (ho.below hb) hr hc (by omega) (by simp; omega))
  obtain ⟨gN, cN, rfl, _, _⟩ := hTB.2.1.blk (fun e => by have h1 := congrArg List.length e; rw [tbL_length] at h1; simp at h1; have := hT.pos; omega)
  obtain ⟨gO, cO, rfl, _, _⟩ := hTB.2.2.blk (fun e => by have h1 := congrArg List.length e; rw [tbL_length] at h1; simp at h1; have := hT.pos; omega)
  rw [tbL_length, tbL_length] at hTB
  have hread := hid (fun W (hb : Below w.heap.size w W) => (show W.cell? ⟨G, 0, none⟩ = some (.slice (some ⟨gN, 0, none⟩) T.n cN) ∧ W.cell? ⟨G, 1, none⟩ = some (.slice (some ⟨gO, 0, none⟩) T.n cO) from ⟨(hTB.below hb).c0, (hTB.below hb).c1⟩))
  have hrowN := hid (fun q (hq : q < T.n) => (show ∃ g c, ∀ W, Below w.heap.size w W → W.cell? ⟨gN, q, none⟩ = some (.slice (some ⟨g, 0, none⟩) T.L c) ∧ ∀ x, x < T.L → W.cell? ⟨g, x, none⟩ = some (.int .i64 (T.nx q x : Nat)) from by
    obtain ⟨rows, hO, hlr, hall⟩ := hTB.2.1
    have hi : q < rows.length := by rw [hlr, tbL_length]; exact hq
    obtain ⟨r, hr⟩ : ∃ r, rows[q]? = some r := ⟨_, List.getElem?_eq_getElem hi⟩
    have hrow := hall q r _ hr (tbL_get T.nx T.n T.L q hq)
    obtain ⟨g, c, rfl, _, _⟩ := hrow.blk (fun e => by have h1 := congrArg List.length e; rw [ints_length, rwI_length] at h1; simp at h1; omega)
    rw [ints_length, rwI_length] at hr hrow
    exact ⟨g, c, fun W hb => ⟨(hO.below hb).cellAt q _ hr, fun x hx => (hrow.below hb).cellAt x _ (by simp [ints, rwI_get _ _ _ _ hx])⟩⟩))
  have hrowO := hid (fun q (hq : q < T.n) => (show ∃ g c, ∀ W, Below w.heap.size w W → W.cell? ⟨gO, q, none⟩ = some (.slice (some ⟨g, 0, none⟩) T.L c) ∧ ∀ x, x < T.L → W.cell? ⟨g, x, none⟩ = some (.int .i64 (T.ot q x : Nat)) from by
    obtain ⟨rows, hO, hlr, hall⟩ := hTB.2.2
    have hi : q < rows.length := by rw [hlr, tbL_length]; exact hq
    obtain ⟨r, hr⟩ : ∃ r, rows[q]? = some r := ⟨_, List.getElem?_eq_getElem hi⟩
    have hrow := hall q r _ hr (tbL_get T.ot T.n T.L q hq)
    obtain ⟨g, c, rfl, _, _⟩ := hrow.blk (fun e => by have h1 := congrArg List.length e; rw [ints_length, rwI_length] at h1; simp at h1; omega)
    rw [ints_length, rwI_length] at hr hrow
    exact ⟨g, c, fun W hb => ⟨(hO.below hb).cellAt q _ hr, fun x hx => (hrow.below hb).cellAt x _ (by simp [ints, rwI_get _ _ _ _ hx])⟩⟩))
  have hst := hid (fun W (hb : Below w.heap.size w W) i s (hi : st[i]? = some s) => (show ∃ g c, vs = .slice (some ⟨g, 0, none⟩) st.length c ∧ W.cell? ⟨g, i, none⟩ = some (.int .i64 (s : Nat)) from by
    have hpos : 0 < st.length := Nat.lt_of_le_of_lt (Nat.zero_le i) (List.getElem?_eq_some_iff.1 hi).1
    obtain ⟨g, c, rfl, _, _⟩ := (hs.below hb).blk (fun e => by have h1 := congrArg List.length e; rw [nats_length, List.length_nil] at h1; first | omega | (rw [List.length_map, List.length_range] at h1; omega))
    rw [nats_length] at *
    exact ⟨g, c, rfl, (hs.below hb).cellAt i _ (by simp [nats, hi])⟩))
  obtain ⟨As, cs, hvs, _, _⟩ := hs.form
  rw [nats_length] at hvs
  subst hvs
  have hnx := hid (fun q x (hq : q < T.n) (hx : x < T.L) => hT.nx q x hq hx)
  replace hot := hid hot; replace hlt := hid hlt; replace hcl := hid hcl
  have hstep := hid (fun i x s hx hs => gthP_step T (fix T) st i x s hx hL hs)
  have hrow := hid (fun i => gthP_row T (fix T) st i hL)
  have h00 := hid (gthP_zero T (fix T) st)
  have hS := hid (((St.start w).newMB ⟨0, 0, fun _ => 0, fun _ => 0⟩ 27).newMB ⟨0, 0, fun _ => 0, fun _ => 0⟩ 27)
  rw [heap_alloc_size] at hS
  clear hTB hs ho hbs hbo
  generalize hfin : gth T (fix T) st = gm at *
  have hfin' := hid (show gthP T (fix T) st st.length 0 = gm from hfin)
  clear hfin
  generalize hLL : T.L = L at *
  replace hLL := hid hLL
  generalize hlen : st.length = N at *
  replace hlen := hid hlen
  generalize mcells ⟨0, 0, fun _ => 0, fun _ => 0⟩ = zs at *
  go_enter Try.func183, Try.ntmps183
  go_wp2_with (first
    | ((with_reducible refine gate (N := 17) rfl ?_); refine build_mach rfl _ _ rfl (L : Int) (N : Int) rfl rfl ?_)
    | ((with_reducible refine gateOp (op := .store 27 (.tmp 9) (.tmp 17)) rfl ?_); refine store_mach rfl _ _ rfl (w.heap.size + 1) rfl ⟨(L : Int), (N : Int), fun _ => 0, fun _ => 0⟩ rfl 27 _ hS.out.m0 ?_; intro W1 p3 ho hsz hbl; replace hS := hid (hS.out.setM (Nat.le_succ _) p3 ho hbl); clear p3 ho hsz hbl))
  go_loopw [20] (fun i wr => ∃ i' : Nat, i' ≤ N ∧ i = .int .i64 i' ∧ St w.heap.size w [Asn.mb 27 (w.heap.size + 1) (gthP T (fix T) st i' 0), Asn.mb 27 w.heap.size ⟨0, 0, fun _ => 0, fun _ => 0⟩] wr) (fun i _ => N - (intOf i).toNat)
  case atStart => exact ⟨0, Nat.zero_le _, rfl, by rw [h00.out]; exact hS.out⟩
  case round =>
    obtain ⟨i, hi, rfl, rS⟩ := hrel
    clear hS
    by_cases hiN : i < N
    · obtain ⟨s, hs⟩ : ∃ s, st[i]? = some s := ⟨_, List.getElem?_eq_getElem (by rw [hlen.out]; exact hiN)⟩
      have hsm : s ∈ st := List.mem_of_getElem? hs
      have hsn := hlt.out s hsm
      obtain ⟨gs, cs2, hvs, cst⟩ := hst.out wr rS.bel i s hs
      injection hvs with hvs hnn hcc
      subst hvs
      subst hcc
      clear hnn
      obtain ⟨e0, _⟩ := hread.out wr rS.bel
      obtain ⟨g1, c1, hr1⟩ := hrowN.out s hsn
      obtain ⟨g2, c2, hr2⟩ := hrowO.out s hsn
      have e1 := (hr1 wr rS.bel).1
      replace hr1 := hid hr1; replace hr2 := hid hr2
      replace rS := hid rS
      replace hs := hid hs; replace hsm := hid hsm
      go_wp2
      clear cst e0 e1
      go_loopw [33] (fun j wr => ∃ x : Nat, x ≤ L ∧ j = .int .i64 x ∧ St w.heap.size w [Asn.mb 27 (w.heap.size + 1) (gthP T (fix T) st i x), Asn.mb 27 w.heap.size ⟨0, 0, fun _ => 0, fun _ => 0⟩] wr) (fun j _ => L - (intOf j).toNat)
      case atStart => exact ⟨0, Nat.zero_le _, rfl, rS.out⟩
      case round =>
        obtain ⟨x, hx, rfl, yS⟩ := hrel
        clear rS
        by_cases hxL : x < L
        · have e1 := (hr1.out wr yS.bel).2 x hxL
          have hnxn := hnx.out s x hsn hxL
          have hcm := hid (hcl.out s hsm.out x hxL)
          have hotx := hot.out s x hsn hxL
          have hidx := List.idxOf_lt_length_of_mem hcm.out
          rw [hlen.out] at hidx
          have hst2 := hid (hstep.out i x s hxL hs.out)
          go_upto_region 8 with (fail)
          clear e1
          replace yS := hid yS
          have zS := hid yS.out.drew
          clear yS
          have hT0 : wr.drew.cell? ⟨G, 1, none⟩ = some (.slice (some ⟨gO, 0, none⟩) T.n cO) ∧ wr.drew.cell? ⟨gO, s, none⟩ = some (.slice (some ⟨g2, 0, none⟩) L c2) ∧ wr.drew.cell? ⟨g2, x, none⟩ = some (.int .i64 (T.ot s x : Nat)) := ⟨(hread.out _ zS.out.bel).2, (hr2.out _ zS.out.bel).1, (hr2.out _ zS.out.bel).2 x hxL⟩
          refine wp_region_heldL (L := [(26, (fun w' : World => w'.cell? ⟨G, 1, none⟩ = some (.slice (some ⟨gO, 0, none⟩) T.n cO) ∧ w'.cell? ⟨gO, s, none⟩ = some (.slice (some ⟨g2, 0, none⟩) L c2) ∧ w'.cell? ⟨g2, x, none⟩ = some (.int .i64 (T.ot s x : Nat))))]) (by kernel_rfl) (HeldL.cons (fun _ => hT0) HeldL.nil) (fun hHeld => ?_)
          clear hT0
          generalize wr.drew = wa at *
          have hc := hid (fun W hb => hcall.out W hb (T.nx s x) (fix T (T.nx s x)) (by simp [hnxn]) hcm.out)
          generalize T.nx s x = r at *
          generalize hci : st.idxOf (fix T r) = ci at *
          replace hci := hid hci
          generalize hoe : T.ot s x = ot at *
          replace hoe := hid hoe
          have xm : ((ci : Int) % 256) = ci := by omega
          have xo : ((ot : Int) % 256) = ot := by omega
          have xm2 : IntKind.u8.wrap (ci : Int) = (ci : Int) := u8_in ci (by omega)
          have xo2 : IntKind.u8.wrap (ot : Int) = (ot : Int) := u8_in ot (by omega)
          have xi0 : (0 : Int) ≤ (i : Int) := Int.natCast_nonneg _
          have xi1 : (i : Int) < 16 := by omega
          have xx0 : (0 : Int) ≤ (x : Int) := Int.natCast_nonneg _
          have xx1 : (x : Int) < 3 := by omega
          refine wpAnyL_take0 (i := 0) (v := ?_) rfl (by kernel_rfl) (by kernel_rfl) (by kernel_rfl) (by rfl) (fun _ _ _ h => h) (Or.inl ⟨by rfl, ?_⟩) (by assumption) ?_
          rotate_left
          · (intro W _; go_simp; (with_reducible rfl))
          intro hHeld'
          clear hHeld; have hHeld := hHeld'; clear hHeld'
          try simp only [Act.put, List.getElem_toArray, List.getElem_cons_succ, List.getElem_cons_zero, List.setIfInBounds_toArray, List.set_cons_zero, List.set_cons_succ]
          refine wpAnyL_take0 (i := 1) (v := ?_) rfl (by kernel_rfl) (by kernel_rfl) (by kernel_rfl) (by rfl) (fun _ _ _ h => h) (Or.inl ⟨by rfl, ?_⟩) (by assumption) ?_
          rotate_left
          · (intro W _; go_simp; (with_reducible rfl))
          intro hHeld'
          clear hHeld; have hHeld := hHeld'; clear hHeld'
          try simp only [Act.put, List.getElem_toArray, List.getElem_cons_succ, List.getElem_cons_zero, List.setIfInBounds_toArray, List.set_cons_zero, List.set_cons_succ]
          refine wpAnyL_take0 (i := 2) (v := ?_) rfl (by kernel_rfl) (by kernel_rfl) (by kernel_rfl) (by rfl) (fun _ _ _ h => h) (Or.inl ⟨by rfl, ?_⟩) (by assumption) ?_
          rotate_left
          · (intro W _; go_simp; (with_reducible rfl))
          intro hHeld'
          clear hHeld; have hHeld := hHeld'; clear hHeld'
          try simp only [Act.put, List.getElem_toArray, List.getElem_cons_succ, List.getElem_cons_zero, List.setIfInBounds_toArray, List.set_cons_zero, List.set_cons_succ]
          refine wpAnyL_take0 (i := 3) (v := ?_) rfl (by kernel_rfl) (by kernel_rfl) (by kernel_rfl) (by rfl) (fun _ _ _ h => h) (Or.inl ⟨by rfl, ?_⟩) (by assumption) ?_
          rotate_left
          · (intro W _; go_simp; (with_reducible rfl))
          intro hHeld'
          clear hHeld; have hHeld := hHeld'; clear hHeld'
          try simp only [Act.put, List.getElem_toArray, List.getElem_cons_succ, List.getElem_cons_zero, List.setIfInBounds_toArray, List.set_cons_zero, List.set_cons_succ]
          refine wpAnyL_take0 (i := 4) (v := ?_) rfl (by kernel_rfl) (by kernel_rfl) (by kernel_rfl) (by rfl) (fun _ _ _ h => h) (Or.inl ⟨by rfl, ?_⟩) (by assumption) ?_
          rotate_left
          · (intro W _; go_simp; (with_reducible rfl))
          intro hHeld'
          clear hHeld; have hHeld := hHeld'; clear hHeld'
          try simp only [Act.put, List.getElem_toArray, List.getElem_cons_succ, List.getElem_cons_zero, List.setIfInBounds_toArray, List.set_cons_zero, List.set_cons_succ]
          refine wpAnyL_take0 (i := 5) (v := ?_) rfl (by kernel_rfl) (by kernel_rfl) (by kernel_rfl) (by rfl) (fun _ _ _ h => h) (Or.inl ⟨by rfl, ?_⟩) (by assumption) ?_
          rotate_left
          · (intro W _; go_simp; (with_reducible rfl))
          intro hHeld'
          clear hHeld; have hHeld := hHeld'; clear hHeld'
          try simp only [Act.put, List.getElem_toArray, List.getElem_cons_succ, List.getElem_cons_zero, List.setIfInBounds_toArray, List.set_cons_zero, List.set_cons_succ]
          refine wpAnyL_take0 (i := 8) (v := ?_) rfl (by kernel_rfl) (by kernel_rfl) (by kernel_rfl) (by rfl) (fun _ _ _ h => h) (Or.inl ⟨by rfl, ?_⟩) (by assumption) ?_
          rotate_left
          · (intro W _; go_simp; (with_reducible rfl))
          intro hHeld'
          clear hHeld; have hHeld := hHeld'; clear hHeld'
          try simp only [Act.put, List.getElem_toArray, List.getElem_cons_succ, List.getElem_cons_zero, List.setIfInBounds_toArray, List.set_cons_zero, List.set_cons_succ]
          refine wpAnyL_take0 (i := 9) (v := ?_) rfl (by kernel_rfl) (by kernel_rfl) (by kernel_rfl) (by rfl) (fun _ _ _ h => h) (Or.inl ⟨by rfl, ?_⟩) (by assumption) ?_
          rotate_left
          · (intro W _; go_simp; (with_reducible rfl))
          intro hHeld'
          clear hHeld; have hHeld := hHeld'; clear hHeld'
          try simp only [Act.put, List.getElem_toArray, List.getElem_cons_succ, List.getElem_cons_zero, List.setIfInBounds_toArray, List.set_cons_zero, List.set_cons_succ]
          refine wpAnyL_take0 (i := 10) (v := ?_) rfl (by kernel_rfl) (by kernel_rfl) (by kernel_rfl) (by rfl) (fun _ _ _ h => h) (Or.inl ⟨by rfl, ?_⟩) (by assumption) ?_
          rotate_left
          · (intro W _; go_simp; (with_reducible rfl))
          intro hHeld'
          clear hHeld; have hHeld := hHeld'; clear hHeld'
          try simp only [Act.put, List.getElem_toArray, List.getElem_cons_succ, List.getElem_cons_zero, List.setIfInBounds_toArray, List.set_cons_zero, List.set_cons_succ]
          refine wpAnyL_takeP (i := 11) 26 [] (v := ?_) (fun w' : World => w'.cell? ⟨G, 1, none⟩ = some (.slice (some ⟨gO, 0, none⟩) T.n cO) ∧ w'.cell? ⟨gO, s, none⟩ = some (.slice (some ⟨g2, 0, none⟩) L c2) ∧ w'.cell? ⟨g2, x, none⟩ = some (.int .i64 (ot : Nat))) rfl (by kernel_rfl) (by kernel_rfl) (by kernel_rfl) (by rfl) (by kernel_rfl) (by simp) (fun _ _ _ h => h) (Or.inl ⟨by rfl, ?_⟩) (by assumption) ?_
          rotate_left
          · (intro W hW; (obtain ⟨h1, h2, h3⟩ := hW); go_simp; (with_reducible rfl))
          intro hHeld'
          clear hHeld; have hHeld := hHeld'; clear hHeld'
          try simp only [Act.put, List.getElem_toArray, List.getElem_cons_succ, List.getElem_cons_zero, List.setIfInBounds_toArray, List.set_cons_zero, List.set_cons_succ]
          refine wpAnyL_take0 (i := 12) (v := ?_) rfl (by kernel_rfl) (by kernel_rfl) (by kernel_rfl) (by rfl) (fun _ _ _ h => h) (Or.inl ⟨by rfl, ?_⟩) (by assumption) ?_
          rotate_left
          · (intro W _; go_simp; (with_reducible rfl))
          intro hHeld'
          clear hHeld; have hHeld := hHeld'; clear hHeld'
          try simp only [Act.put, List.getElem_toArray, List.getElem_cons_succ, List.getElem_cons_zero, List.setIfInBounds_toArray, List.set_cons_zero, List.set_cons_succ]
          refine wpAnyL_take0 (i := 13) (v := ?_) rfl (by kernel_rfl) (by kernel_rfl) (by kernel_rfl) (by rfl) (fun _ _ _ h => h) (Or.inl ⟨by rfl, ?_⟩) (by assumption) ?_
          rotate_left
          · (intro W _; go_simp; (with_reducible rfl))
          intro hHeld'
          clear hHeld; have hHeld := hHeld'; clear hHeld'
          try simp only [Act.put, List.getElem_toArray, List.getElem_cons_succ, List.getElem_cons_zero, List.setIfInBounds_toArray, List.set_cons_zero, List.set_cons_succ]
          refine wpAnyL_takeP (i := 14) 26 [] (v := ?_) (fun w' : World => w'.cell? ⟨G, 1, none⟩ = some (.slice (some ⟨gO, 0, none⟩) T.n cO) ∧ w'.cell? ⟨gO, s, none⟩ = some (.slice (some ⟨g2, 0, none⟩) L c2) ∧ w'.cell? ⟨g2, x, none⟩ = some (.int .i64 (ot : Nat))) rfl (by kernel_rfl) (by kernel_rfl) (by kernel_rfl) (by rfl) (by kernel_rfl) (by simp) (fun _ _ _ h => h) (Or.inl ⟨by rfl, ?_⟩) (by assumption) ?_
          rotate_left
          · (intro W hW; (obtain ⟨h1, h2, h3⟩ := hW); go_simp; (with_reducible rfl))
          intro hHeld'
          clear hHeld; have hHeld := hHeld'; clear hHeld'
          try simp only [Act.put, List.getElem_toArray, List.getElem_cons_succ, List.getElem_cons_zero, List.setIfInBounds_toArray, List.set_cons_zero, List.set_cons_succ]
          refine wpAnyL_take0 (i := 15) (v := ?_) rfl (by kernel_rfl) (by kernel_rfl) (by kernel_rfl) (by rfl) (fun _ _ _ h => h) (Or.inl ⟨by rfl, ?_⟩) (by assumption) ?_
          rotate_left
          · (intro W _; go_simp; (with_reducible rfl))
          intro hHeld'
          clear hHeld; have hHeld := hHeld'; clear hHeld'
          try simp only [Act.put, List.getElem_toArray, List.getElem_cons_succ, List.getElem_cons_zero, List.setIfInBounds_toArray, List.set_cons_zero, List.set_cons_succ]
          refine wpAnyL_take0 (i := 16) (v := ?_) rfl (by kernel_rfl) (by kernel_rfl) (by kernel_rfl) (by rfl) (fun _ _ _ h => h) (Or.inl ⟨by rfl, ?_⟩) (by assumption) ?_
          rotate_left
          · (intro W _; go_simp; (with_reducible rfl))
          intro hHeld'
          clear hHeld; have hHeld := hHeld'; clear hHeld'
          try simp only [Act.put, List.getElem_toArray, List.getElem_cons_succ, List.getElem_cons_zero, List.setIfInBounds_toArray, List.set_cons_zero, List.set_cons_succ]
          refine wpAnyL_takeP (i := 17) 26 [] (v := ?_) (fun w' : World => w'.cell? ⟨G, 1, none⟩ = some (.slice (some ⟨gO, 0, none⟩) T.n cO) ∧ w'.cell? ⟨gO, s, none⟩ = some (.slice (some ⟨g2, 0, none⟩) L c2) ∧ w'.cell? ⟨g2, x, none⟩ = some (.int .i64 (ot : Nat))) rfl (by kernel_rfl) (by kernel_rfl) (by kernel_rfl) (by rfl) (by kernel_rfl) (by simp) (fun _ _ _ h => h) (Or.inl ⟨by rfl, ?_⟩) (by assumption) ?_
          rotate_left
          · (intro W hW; (obtain ⟨h1, h2, h3⟩ := hW); go_simp; (with_reducible rfl))
          intro hHeld'
          clear hHeld; have hHeld := hHeld'; clear hHeld'
          try simp only [Act.put, List.getElem_toArray, List.getElem_cons_succ, List.getElem_cons_zero, List.setIfInBounds_toArray, List.set_cons_zero, List.set_cons_succ]
          refine wpAnyL_take0 (i := 18) (v := ?_) rfl (by kernel_rfl) (by kernel_rfl) (by kernel_rfl) (by rfl) (fun _ _ _ h => h) (Or.inl ⟨by rfl, ?_⟩) (by assumption) ?_
          rotate_left
          · (intro W _; go_simp; (with_reducible rfl))
          intro hHeld'
          clear hHeld; have hHeld := hHeld'; clear hHeld'
          try simp only [Act.put, List.getElem_toArray, List.getElem_cons_succ, List.getElem_cons_zero, List.setIfInBounds_toArray, List.set_cons_zero, List.set_cons_succ]
          refine wpAnyL_take0 (i := 19) (v := ?_) rfl (by kernel_rfl) (by kernel_rfl) (by kernel_rfl) (by rfl) (fun _ _ _ h => h) (Or.inl ⟨by rfl, ?_⟩) (by assumption) ?_
          rotate_left
          · (intro W _; go_simp; (with_reducible rfl))
          intro hHeld'
          clear hHeld; have hHeld := hHeld'; clear hHeld'
          try simp only [Act.put, List.getElem_toArray, List.getElem_cons_succ, List.getElem_cons_zero, List.setIfInBounds_toArray, List.set_cons_zero, List.set_cons_succ]
          refine wpAnyL_take0 (i := 20) (v := ?_) rfl (by kernel_rfl) (by kernel_rfl) (by kernel_rfl) (by rfl) (fun _ _ _ h => h) (Or.inl ⟨by rfl, ?_⟩) (by assumption) ?_
          rotate_left
          · (intro W _; go_simp; (with_reducible rfl))
          intro hHeld'
          clear hHeld; have hHeld := hHeld'; clear hHeld'
          try simp only [Act.put, List.getElem_toArray, List.getElem_cons_succ, List.getElem_cons_zero, List.setIfInBounds_toArray, List.set_cons_zero, List.set_cons_succ]
          refine wpAnyL_take0 (i := 23) (v := ?_) rfl (by kernel_rfl) (by kernel_rfl) (by kernel_rfl) (by rfl) (fun _ _ _ h => h) (Or.inl ⟨by rfl, ?_⟩) (by assumption) ?_
          rotate_left
          · (intro W _; go_simp; (with_reducible rfl))
          intro hHeld'
          clear hHeld; have hHeld := hHeld'; clear hHeld'
          try simp only [Act.put, List.getElem_toArray, List.getElem_cons_succ, List.getElem_cons_zero, List.setIfInBounds_toArray, List.set_cons_zero, List.set_cons_succ]
          refine wpAnyL_take0 (i := 24) (v := ?_) rfl (by kernel_rfl) (by kernel_rfl) (by kernel_rfl) (by rfl) (fun _ _ _ h => h) (Or.inl ⟨by rfl, ?_⟩) (by assumption) ?_
          rotate_left
          · (intro W _; go_simp; (with_reducible rfl))
          intro hHeld'
          clear hHeld; have hHeld := hHeld'; clear hHeld'
          try simp only [Act.put, List.getElem_toArray, List.getElem_cons_succ, List.getElem_cons_zero, List.setIfInBounds_toArray, List.set_cons_zero, List.set_cons_succ]
          refine wpAnyL_ready (rs := [6]) (by kernel_rfl) (by simp) ?_
          refine AllReadyL.cons rfl (fun K hK => ?_) AllReadyL.nil
          go_simp
          go_at_call 181
          (with_reducible refine (hc.out _ zS.out.bel).mono ?_)
          rintro e w1 ⟨rfl, d, rfl⟩
          go_simp
          replace zS := hid (zS.out.drewN d)
          generalize wa.drewN d = wb at *
          refine hK.out _ _ (HeldL.cons (fun _ => ⟨(hread.out _ zS.out.bel).2, (hr2.out _ zS.out.bel).1, by rw [← hoe.out]; exact (hr2.out _ zS.out.bel).2 x hxL⟩) HeldL.nil) (fun hHeld' => ?_)
          clear hK K hHeld; have hHeld := hHeld'; clear hHeld'
          try simp only [Act.put, List.getElem_toArray, List.getElem_cons_succ, List.getElem_cons_zero, List.setIfInBounds_toArray, List.set_cons_zero, List.set_cons_succ]
          refine wpAnyL_take0 (i := 7) (v := ?_) rfl (by kernel_rfl) (by kernel_rfl) (by kernel_rfl) (by rfl) (fun _ _ _ h => h) (Or.inl ⟨by rfl, ?_⟩) (by assumption) ?_
          rotate_left
          · (intro W _; go_simp; (with_reducible rfl))
          intro hHeld'
          clear hHeld; have hHeld := hHeld'; clear hHeld'
          try simp only [Act.put, List.getElem_toArray, List.getElem_cons_succ, List.getElem_cons_zero, List.setIfInBounds_toArray, List.set_cons_zero, List.set_cons_succ]
          refine wpAnyL_take0 (i := 21) (v := ?_) rfl (by kernel_rfl) (by kernel_rfl) (by kernel_rfl) (by rfl) (fun _ _ _ h => h) (Or.inl ⟨by rfl, ?_⟩) (by assumption) ?_
          rotate_left
          · (intro W _; go_simp; (with_reducible rfl))
          intro hHeld'
          clear hHeld; have hHeld := hHeld'; clear hHeld'
          try simp only [Act.put, List.getElem_toArray, List.getElem_cons_succ, List.getElem_cons_zero, List.setIfInBounds_toArray, List.set_cons_zero, List.set_cons_succ]
          obtain ⟨vn, cn⟩ : ∃ u, wb.cell? ⟨w.heap.size + 1, 2 + i * 3 + x, none⟩ = some u := ⟨_, zS.out.m0.cnx i x (by omega) (by omega)⟩
          have fn : wb.frozen? ⟨w.heap.size + 1, 2 + i * 3 + x, none⟩ = false := World.rowIs.frozen zS.out.m0 _
          refine wpAnyL_ready (rs := [22]) (by kernel_rfl) (by simp) ?_
          refine AllReadyL.cons rfl (fun K hK => ?_) AllReadyL.nil
          go_simp
          replace zS := hid (zS.out.setNx (Nat.le_succ _) i x ci (by omega) (by omega))
          clear cn fn
          generalize wb.setCell ⟨w.heap.size + 1, 2 + i * 3 + x, none⟩ (.int .u8 (ci : Nat)) = wc at *
          refine hK.out _ _ (HeldL.cons (fun _ => ⟨(hread.out _ zS.out.bel).2, (hr2.out _ zS.out.bel).1, by rw [← hoe.out]; exact (hr2.out _ zS.out.bel).2 x hxL⟩) HeldL.nil) (fun hHeld' => ?_)
          clear hK K hHeld; have hHeld := hHeld'; clear hHeld'
          try simp only [Act.put, List.getElem_toArray, List.getElem_cons_succ, List.getElem_cons_zero, List.setIfInBounds_toArray, List.set_cons_zero, List.set_cons_succ]
          refine wpAnyL_take0 (i := 25) (v := ?_) rfl (by kernel_rfl) (by kernel_rfl) (by kernel_rfl) (by rfl) (fun _ _ _ h => h) (Or.inl ⟨by rfl, ?_⟩) (by assumption) ?_
          rotate_left
          · (intro W _; go_simp; (with_reducible rfl))
          intro hHeld'
          clear hHeld; have hHeld := hHeld'; clear hHeld'
          try simp only [Act.put, List.getElem_toArray, List.getElem_cons_succ, List.getElem_cons_zero, List.setIfInBounds_toArray, List.set_cons_zero, List.set_cons_succ]
          obtain ⟨vn, cn⟩ : ∃ u, wc.cell? ⟨w.heap.size + 1, 50 + i * 3 + x, none⟩ = some u := ⟨_, zS.out.m0.cot i x (by omega) (by omega)⟩
          have fn : wc.frozen? ⟨w.heap.size + 1, 50 + i * 3 + x, none⟩ = false := World.rowIs.frozen zS.out.m0 _
          refine wpAnyL_ready (rs := [26]) (by kernel_rfl) (by simp) ?_
          refine AllReadyL.cons rfl (fun K hK => ?_) AllReadyL.nil
          go_simp
          replace zS := hid (zS.out.setOt (Nat.le_succ _) i x ot (by omega) (by omega))
          clear cn fn
          refine hK.out _ _ (HeldL.cons (fun h => absurd h (by decide +kernel)) HeldL.nil) (fun hHeld' => ?_)
          clear hK K hHeld; have hHeld := hHeld'; clear hHeld'
          try simp only [Act.put, List.getElem_toArray, List.getElem_cons_succ, List.getElem_cons_zero, List.setIfInBounds_toArray, List.set_cons_zero, List.set_cons_succ]
          refine wpAnyL_done (by kernel_rfl) ?_ _
          go_wp2
          go_roundw
          case rel => exact ⟨x + 1, by omega, by go_num, by rw [hst2.out]; exact zS.out⟩
          case measure => simp [intOf]; omega
        · obtain rfl : L = x := by omega
          replace yS := hid yS
          go_wp2
          go_roundw
          case rel => exact ⟨i + 1, by omega, by go_num, by rw [← hrow.out]; exact yS.out⟩
          case measure => simp [intOf]; omega
    · obtain rfl : N = i := by omega
      rw [hfin'.out] at rS
      replace rS := hid rS
      go_wp2_with (first
        | ((with_reducible refine gate (N := 65) rfl ?_); refine load_mach rfl _ rfl (w.heap.size + 1) rfl _ rS.out.m0 ?_)
        | ((with_reducible refine gateOp (op := .store 27 (.tmp 8) (.tmp 65)) rfl ?_); refine store_mach rfl _ _ rfl w.heap.size rfl _ rfl 27 _ rS.out.m1 ?_; intro W3 p2 ho hsz hbl; have pB := hid (hbl _ _ (Nat.le_refl _) rS.out.bel); replace p2 := hid p2; clear ho hsz hbl))
      exact ret_mach rfl rfl p2.out rfl ⟨rfl, pB.out⟩
theorem blkM {w : World} {b t : Nat} {v : Value} (h : w.heap[b]? = some (.cells #[v] t (0, 0))) : w.cell? ⟨b, 0, none⟩ = some v := cell_of_row _ _ 0 _ _ _ h
/-- The least states below k. -/
def mstN (T : Tab) (k : Nat) : List Nat := (List.range k).filter fun q => fix T q == q
theorem mstN_succ (T : Tab) (k : Nat) : mstN T (k + 1) = if fix T k = k then mstN T k ++ [k] else mstN T k := by
  unfold mstN
  rw [List.range_succ, List.filter_append]
  by_cases h : fix T k = k
  · rw [if_pos h]; simp [h]
  · rw [if_neg h]; simp [h]
theorem mstN_len (T : Tab) (k : Nat) : (mstN T k).length ≤ k := by
  have := List.length_filter_le (fun q => fix T q == q) (List.range k)
  rwa [List.length_range] at this
def mnNk (T : Tab) (k : Nat) : List Nat := (List.range k).map fun q => (mst T).idxOf (fix T q)
theorem mnNk_succ (T : Tab) (k : Nat) : mnNk T (k + 1) = mnNk T k ++ [(mst T).idxOf (fix T k)] := by simp [mnNk, List.range_succ]
theorem mnNk_len (T : Tab) (k : Nat) : (mnNk T k).length = k := by simp [mnNk]
set_option maxHeartbeats 8000000 in
set_option maxRecDepth 100000 in
theorem minimal_any (b : Nat) (w : World) (m : Mach) (hm : MB w 27 b m) (l s : Nat) (g : Good m l s) :
    Calls Try.prog 79 #[.pointer (some ⟨b, 0, none⟩)] w fun e w' => ∃ v, e = .returned (.tuple #[.agg (mcells (mnM (tabOf m l s))), v]) ∧ Own w' w.heap.size 2 v (nats (mnN (tabOf m l s))) ∧ Below w.heap.size w w' := by
  have hz := zero_mach
  have hS0 := hid ((St.start w).newMB ⟨0, 0, fun _ => 0, fun _ => 0⟩ 27)
  have hta := hid (fun W h => table_any b W m h l s g)
  have l2 := g.l2; have l3 := g.l3; have s16 := g.s16; have s1 := g.s1
  have hls := hid (fun W G vN vO hTB => least_any W G vN vO (tabOf m l s) (tabOf_ok g) (show l < 100 by omega) (show 0 < l by omega) (show s < 100000 by omega) hTB)
  have hgt := hid (fun W G bs bo base vN vO vs vo hTB h1 h2 h3 h4 h5 h6 => gatheredM_any W G bs bo base vN vO vs vo (tabOf m l s) (mst (tabOf m l s)) (tabOf_ok g) l3 (show 0 < l by omega) (show s < 100000 by omega) hTB (ot256 g) h1 h2 h3 h4 h5 h6 mst_lt (mst_cl (tabOf_ok g)) (Nat.le_trans (mst_len _) s16))
  rw [show (tabOf m l s).L = l from rfl] at hgt
  have hcl := hid (fun W bs bo base vs vo (q : Nat) (hq : q < s) h1 h2 h3 h4 => min1_any W bs bo q base s vs vo (mst (tabOf m l s)) ((List.range (tabOf m l s).n).map (fix (tabOf m l s))) (fix (tabOf m l s) q) h1 h2 h3 h4 (by have : q < (tabOf m l s).n := hq; simp [this]) (mst_fix (T := tabOf m l s) hq) (by have := mst_len (tabOf m l s); have e : (tabOf m l s).n = s := rfl; omega) (by have e : (tabOf m l s).n = s := rfl; simp; omega))
  have hmL := hid (fun W (hm : MB W 27 b m) => (show W.cell? ⟨b, 0, none⟩ = some (.int .i64 (l : Int)) from by have h := hm.cL; rw [g.L] at h; exact h))
  have hlen := hid (show (nats ((List.range (tabOf m l s).n).map (fix (tabOf m l s)))).length = s by simp [nats]; rfl)
  have hget := hid (fun x (hx : x < s) => (show (nats ((List.range (tabOf m l s).n).map (fix (tabOf m l s))))[x]? = some (.int .i64 (fix (tabOf m l s) x : Nat)) from by
    have : x < (tabOf m l s).n := hx
    simp [nats, this]))
  have hm0 := hid (show MB (w.alloc (.cells (mcells ⟨0, 0, fun _ => 0, fun _ => 0⟩) 27)) 27 b m from hm.below (below_alloc (Below.refl _ _) (Nat.le_refl _) _) hm.lt)
  have hbl := hid hm.lt
  have hM := hid (show mnM (tabOf m l s) = gth (tabOf m l s) (fix (tabOf m l s)) (mst (tabOf m l s)) from rfl)
  have hNN := hid (show mnN (tabOf m l s) = mnNk (tabOf m l s) s from rfl)
  have hst0 := hid (show mst (tabOf m l s) = mstN (tabOf m l s) s from rfl)
  have hss := hid (fun k => mstN_succ (tabOf m l s) k)
  have hsl := hid (fun k => mstN_len (tabOf m l s) k)
  have hns := hid (fun k => mnNk_succ (tabOf m l s) k)
  have hnl := hid (fun k => mnNk_len (tabOf m l s) k)
  have hfl := hid (fun x (hx : x < s) => (show fix (tabOf m l s) x ≤ x from cls_le _ _ _))
  have hs0 := hid (show mstN (tabOf m l s) 0 = [] from rfl)
  have hn0 := hid (show mnNk (tabOf m l s) 0 = [] from rfl)
  rw [hM.out, hNN.out]
  rw [hst0.out] at hgt hcl hns ⊢
  clear g hm hM hNN hst0
  generalize hgm : gth (tabOf m l s) (fix (tabOf m l s)) (mstN (tabOf m l s) s) = gm at *
  clear hgm
  generalize nats ((List.range (tabOf m l s).n).map (fix (tabOf m l s))) = FL at *
  generalize mcells ⟨0, 0, fun _ => 0, fun _ => 0⟩ = zs at *
  have hmf : ∀ (fn : Fn) (first cap : Array Value) (w : World), (Instr.makeFunc fn first cap).run Try.prog w = .ok (.func fn first cap) w := fun _ _ _ _ => rfl
  generalize hFx : fix (tabOf m l s) = FX at *
  clear hFx
  generalize mst (tabOf m l s) = MS0 at *
  go_enter Try.func79, Try.ntmps79
  go_upto_region 4 with (first
    | (go_at_call 82; (with_reducible refine (hta.out _ hm0.out).mono ?_); rintro e w2 ⟨vN, vO, rfl, hTB, hb⟩; rw [heap_alloc_size] at hTB; replace hTB := hid hTB; have hBz := hid (hS0.out.call hb); have hm2 := hid (hm0.out.below hb hm0.out.lt); have hS := hid (St.start w2); clear hb hS0 hm0)
    | (go_at_call 90; (with_reducible refine (hls.out _ _ _ _ hTB.out).mono ?_); rintro e w3 ⟨vF, rfl, hO, hb⟩; (obtain ⟨gF, cF, rfl, _, _⟩ := hO.blk (fun e => by have h1 := congrArg List.length e; rw [hlen.out, List.length_nil] at h1; omega)); rw [hlen.out] at hO ⊢; replace hS := hid (hS.out.callOwn hb hO); clear hb hO))
  have hKp := hid (fun W (hW : Below w2.heap.size w2 W) => (show TB W (w.heap.size + 1) vN vO (tabOf m l s) ∧ MB W 27 b m ∧ MB W 27 w.heap.size ⟨0, 0, fun _ => 0, fun _ => 0⟩ ∧ Below w.heap.size w W from ⟨hTB.out.below hW, hm2.out.below hW hm2.out.lt, hBz.out.m0.below hW hBz.out.m0.lt, hBz.out.bel.trans (hW.mono hBz.out.le)⟩))
  have hS2 := ((hS.out.newBlk #[.slice (some ⟨gF, 0, none⟩) s cF] 29).newBlk #[.slice none 0 0] 29).nilOwn 2
  simp only [heap_alloc_size] at hS2
  have hlt2 := hid (show w.heap.size < w2.heap.size from hBz.out.m0.lt)
  have hle5 := hid hS.out.le
  have hle6 := hid (Nat.le_succ_of_le hS.out.le)
  clear hS hTB hBz hm2 hta hls
  generalize w3.heap.size = b5 at *
  generalize World.alloc (World.alloc w3 _) _ = w4 at *
  have c5 := blkM hS2.k2
  replace hS2 := hid hS2
  go_wp2
  clear c5
  go_loopw [7, 8, 18] (fun _ _ i wr => ∃ k : Nat, k ≤ s ∧ i = .int .i64 k ∧ ∃ vs, St w2.heap.size w2 [Asn.own w2.heap.size 2 vs (nats (mstN (tabOf m l s) k)), Asn.blk (b5 + 1) #[vs] 29, Asn.blk b5 #[.slice (some ⟨gF, 0, none⟩) s cF] 29, Asn.own w2.heap.size 2 (.slice (some ⟨gF, 0, none⟩) s cF) FL] wr) (fun _ _ i _ => s - (intOf i).toNat)
  case atStart => exact ⟨0, Nat.zero_le _, rfl, _, by rw [hs0.out]; exact hS2.out⟩
  case round =>
    obtain ⟨k, hk, rfl, vs, rS⟩ := hrel
    clear hS2
    by_cases hlk : k < s
    · have dk : decide ((k : Int) < (s : Int)) = true := decide_eq_true (by omega)
      have k0 : (0 : Int) ≤ (k : Int) := Int.natCast_nonneg _
      have k1 : (k : Int) < (s : Int) := by omega
      have c0 := rS.o3.cellAt k _ (hget.out k hlk)
      have hfk := hfl.out k hlk
      have hsk := hid (hss.out k)
      have hlen2 := hid (nats_length (mstN (tabOf m l s) k))
      have hll := hsl.out k
      have c6 := blkM rS.k1
      replace rS := hid rS
      by_cases he : FX k = k
      · have de : ((k : Int) == (k : Int)) = true := by simp
        rw [if_pos he] at hsk
        rw [he] at c0
        replace he := hid he
        go_wp2_with (
          ((with_reducible refine gate (N := 29) rfl ?_); refine St.app 29 2 (.int .i64 0) 8 Try.underlying29 info_i64 rfl (by omega) rfl _ _ rfl _ _ rfl rS.out _ rfl rfl (mstN (tabOf m l s) k).length hlen2.out (by omega) ?_; intro gn cn w5 rS'; have co := blkM rS'.k1; have fo := frozen_of_row _ _ 0 _ _ rS'.k1; replace rS := hid (rS'.f1.setBlk hle6.out 0 (.slice (some ⟨gn, 0, none⟩) ((mstN (tabOf m l s) k).length + 1) cn)).f1; clear rS'))
        go_roundw
        case rel => exact ⟨k + 1, by omega, by go_num, _, by rw [hsk.out]; simpa [nats] using rS.out⟩
        case measure => simp [intOf]; omega
      · have de : ((k : Int) == ((FX k : Nat) : Int)) = false := by simp; omega
        rw [if_neg he] at hsk
        replace he := hid he
        generalize FX k = fk at *
        go_wp2
        go_roundw
        case rel => exact ⟨k + 1, by omega, by go_num, _, by rw [hsk.out]; exact rS.out⟩
        case measure => simp [intOf]; omega
    · obtain rfl : k = s := by omega
      have dk : decide ((k : Int) < (k : Int)) = false := decide_eq_false (by omega)
      have c5 := blkM rS.k2
      have c6 := blkM rS.k1
      have hS3 := hid (rS.nilOwn 2)
      clear rS
      go_wp2
      clear c5 c6
      go_loopw [10, 11, 34] (fun o _ i wr => ∃ q : Nat, q ≤ k ∧ i = .int .i64 q ∧ St w2.heap.size w2 [Asn.own w2.heap.size 2 o (nats (mnNk (tabOf m l k) q)), Asn.own w2.heap.size 2 vs (nats (mstN (tabOf m l k) k)), Asn.blk (b5 + 1) #[vs] 29, Asn.blk b5 #[.slice (some ⟨gF, 0, none⟩) k cF] 29, Asn.own w2.heap.size 2 (.slice (some ⟨gF, 0, none⟩) k cF) FL] wr) (fun _ _ i _ => k - (intOf i).toNat)
      case atStart => exact ⟨0, Nat.zero_le _, rfl, by rw [hn0.out]; exact hS3.out⟩
      case round =>
        obtain ⟨q, hq, rfl, rS⟩ := hrel
        clear hS3
        by_cases hlq : q < k
        · have dq : decide ((q : Int) < (k : Int)) = true := decide_eq_true (by omega)
          have hnq := hid (hns.out q)
          have hlen2 := hid ((nats_length (mnNk (tabOf m l k) q)).trans (hnl.out q))
          have hcq := hid (hcl.out wr (b5 + 1) b5 w2.heap.size vs (.slice (some ⟨gF, 0, none⟩) k cF) q hlq (blkM rS.k2) (blkM rS.k3) rS.o1 rS.o4)
          generalize (mstN (tabOf m l k) k).idxOf (FX q) = iq at *
          replace rS := hid rS
          go_wp2_with (first
            | (go_at_call 181; (with_reducible refine (hcq.out).mono ?_); rintro e w6 ⟨rfl, d, rfl⟩; replace rS := hid (rS.out.drewN d); clear hcq)
            | ((with_reducible refine gate (N := 42) rfl ?_); refine St.app 29 2 (.int .i64 0) 8 Try.underlying29 info_i64 rfl (by omega) rfl _ _ rfl _ _ rfl rS.out _ rfl rfl q hlen2.out (by omega) ?_; intro gn cn w5 rS'; replace rS := hid rS'; clear rS'))
          go_roundw
          case rel => exact ⟨q + 1, by omega, by go_num, by rw [hnq.out]; simpa [nats] using rS.out⟩
          case measure => simp [intOf]; omega
        · obtain rfl : q = k := by omega
          have dq : decide ((q : Int) < (q : Int)) = false := decide_eq_false (by omega)
          have hT0 := hid (fun W u (h : St w2.heap.size w2 [Asn.own w2.heap.size 2 u (nats (mnNk (tabOf m l q) q)), Asn.own w2.heap.size 2 vs (nats (mstN (tabOf m l q) q)), Asn.blk (b5 + 1) #[vs] 29, Asn.blk b5 #[.slice (some ⟨gF, 0, none⟩) q cF] 29, Asn.own w2.heap.size 2 (.slice (some ⟨gF, 0, none⟩) q cF) FL] W) => (show W.cell? ⟨b, 0, none⟩ = some (.int .i64 (l : Int)) ∧ W.cell? ⟨b5 + 1, 0, none⟩ = some vs from ⟨hmL.out _ (hKp.out _ h.bel).2.1, blkM h.k2⟩))
          replace rS := hid rS
          go_upto_region 17 with (fail)
          replace rS := hid rS.out.drew
          have T0 := hT0.out _ _ rS.out
          refine wp_region_heldL (L := [(9, (fun w' : World => w'.cell? ⟨b, 0, none⟩ = some (.int .i64 (l : Int)) ∧ w'.cell? ⟨b5 + 1, 0, none⟩ = some vs))]) (by kernel_rfl) (HeldL.cons (fun _ => T0) HeldL.nil) (fun hHeld => ?_)
          generalize wr.drew = wa at *
          refine wpAnyL_take0 (i := 0) (v := ?_) rfl (by kernel_rfl) (by kernel_rfl) (by kernel_rfl) (by rfl) (fun _ _ _ h => h) (Or.inl ⟨by rfl, ?_⟩) (by assumption) ?_
          rotate_left
          · (intro W _; go_simp; (with_reducible rfl))
          intro hHeld'
          clear hHeld; have hHeld := hHeld'; clear hHeld'
          try simp only [Act.put, List.getElem_toArray, List.getElem_cons_succ, List.getElem_cons_zero, List.setIfInBounds_toArray, List.set_cons_zero, List.set_cons_succ]
          refine wpAnyL_take0 (i := 1) (v := ?_) rfl (by kernel_rfl) (by kernel_rfl) (by kernel_rfl) (by rfl) (fun _ _ _ h => h) (Or.inl ⟨by rfl, ?_⟩) (by assumption) ?_
          rotate_left
          · (intro W _; go_simp; (with_reducible rfl))
          intro hHeld'
          clear hHeld; have hHeld := hHeld'; clear hHeld'
          try simp only [Act.put, List.getElem_toArray, List.getElem_cons_succ, List.getElem_cons_zero, List.setIfInBounds_toArray, List.set_cons_zero, List.set_cons_succ]
          refine wpAnyL_take0 (i := 2) (v := ?_) rfl (by kernel_rfl) (by kernel_rfl) (by kernel_rfl) (by rfl) (fun _ _ _ h => h) (Or.inl ⟨by rfl, ?_⟩) (by assumption) ?_
          rotate_left
          · (intro W _; go_simp; (with_reducible rfl))
          intro hHeld'
          clear hHeld; have hHeld := hHeld'; clear hHeld'
          try simp only [Act.put, List.getElem_toArray, List.getElem_cons_succ, List.getElem_cons_zero, List.setIfInBounds_toArray, List.set_cons_zero, List.set_cons_succ]
          refine wpAnyL_take0 (i := 3) (v := ?_) rfl (by kernel_rfl) (by kernel_rfl) (by kernel_rfl) (by rfl) (fun _ _ _ h => h) (Or.inl ⟨by rfl, ?_⟩) (by assumption) ?_
          rotate_left
          · (intro W _; go_simp; (with_reducible rfl))
          intro hHeld'
          clear hHeld; have hHeld := hHeld'; clear hHeld'
          try simp only [Act.put, List.getElem_toArray, List.getElem_cons_succ, List.getElem_cons_zero, List.setIfInBounds_toArray, List.set_cons_zero, List.set_cons_succ]
          refine wpAnyL_takeP (i := 4) 9 [] (v := (.int .i64 (l : Int))) (fun w' : World => w'.cell? ⟨b, 0, none⟩ = some (.int .i64 (l : Int)) ∧ w'.cell? ⟨b5 + 1, 0, none⟩ = some vs) rfl (by kernel_rfl) (by kernel_rfl) (by kernel_rfl) (by rfl) (by kernel_rfl) (by simp) (fun _ _ _ h => h) (Or.inl ⟨by rfl, ?_⟩) (by assumption) ?_
          · (intro W hW; (replace hW := hW.1); go_simp)
          intro hHeld'
          clear hHeld; have hHeld := hHeld'; clear hHeld'
          try simp only [Act.put, List.getElem_toArray, List.getElem_cons_succ, List.getElem_cons_zero, List.setIfInBounds_toArray, List.set_cons_zero, List.set_cons_succ]
          refine wpAnyL_takeP (i := 5) 9 [] (v := vs) (fun w' : World => w'.cell? ⟨b, 0, none⟩ = some (.int .i64 (l : Int)) ∧ w'.cell? ⟨b5 + 1, 0, none⟩ = some vs) rfl (by kernel_rfl) (by kernel_rfl) (by kernel_rfl) (by rfl) (by kernel_rfl) (by simp) (fun _ _ _ h => h) (Or.inl ⟨by rfl, ?_⟩) (by assumption) ?_
          · (intro W hW; (replace hW := hW.2); go_simp)
          intro hHeld'
          clear hHeld; have hHeld := hHeld'; clear hHeld'
          try simp only [Act.put, List.getElem_toArray, List.getElem_cons_succ, List.getElem_cons_zero, List.setIfInBounds_toArray, List.set_cons_zero, List.set_cons_succ]
          refine wpAnyL_take0 (i := 6) (v := ?_) rfl (by kernel_rfl) (by kernel_rfl) (by kernel_rfl) (by rfl) (fun _ _ _ h => h) (Or.inl ⟨by rfl, ?_⟩) (by assumption) ?_
          rotate_left
          · (intro W _; go_simp; (with_reducible rfl))
          intro hHeld'
          clear hHeld; have hHeld := hHeld'; clear hHeld'
          try simp only [Act.put, List.getElem_toArray, List.getElem_cons_succ, List.getElem_cons_zero, List.setIfInBounds_toArray, List.set_cons_zero, List.set_cons_succ]
          refine wpAnyL_take0 (i := 8) (v := ?_) rfl (by kernel_rfl) (by kernel_rfl) (by kernel_rfl) (by rfl) (fun _ _ _ h => h) (Or.inl ⟨by rfl, ?_⟩) (by assumption) ?_
          rotate_left
          · (intro W _; go_simp; (with_reducible rfl))
          intro hHeld'
          clear hHeld; have hHeld := hHeld'; clear hHeld'
          try simp only [Act.put, List.getElem_toArray, List.getElem_cons_succ, List.getElem_cons_zero, List.setIfInBounds_toArray, List.set_cons_zero, List.set_cons_succ]
          refine wpAnyL_ready (rs := [7]) (by kernel_rfl) (by simp) ?_
          refine AllReadyL.cons rfl (fun K hK => ?_) AllReadyL.nil
          go_simp
          (with_reducible refine (hgt.out wa (w.heap.size + 1) (b5 + 1) b5 w2.heap.size vN vO vs (.slice (some ⟨gF, 0, none⟩) q cF) (hKp.out _ rS.out.bel).1 (blkM rS.out.k2) (blkM rS.out.k3) (Array.getElem?_eq_some_iff.1 rS.out.k2).1 (Array.getElem?_eq_some_iff.1 rS.out.k3).1 rS.out.o1 rS.out.o4).mono ?_)
          rintro e w7 ⟨rfl, hb⟩
          replace rS := hid (rS.out.call hb)
          clear hb T0
          go_simp
          refine hK.out _ _ (HeldL.cons (fun _ => hT0.out _ _ rS.out) HeldL.nil) (fun hHeld' => ?_)
          clear hK K hHeld; have hHeld := hHeld'; clear hHeld'
          try simp only [Act.put, List.getElem_toArray, List.getElem_cons_succ, List.getElem_cons_zero, List.setIfInBounds_toArray, List.set_cons_zero, List.set_cons_succ]
          obtain ⟨_, _, hz7, hb7⟩ := hKp.out _ rS.out.bel
          refine wpAnyL_ready (rs := [9]) (by kernel_rfl) (by simp) ?_
          refine AllReadyL.cons rfl (fun K hK => ?_) AllReadyL.nil
          refine step_store_mach rfl _ _ rfl _ rfl gm rfl _ _ hz7 ?_
          intro w9 p2 ho hbl9
          have pB := hid (hbl9 _ _ (Nat.le_refl _) hb7)
          have pO := hid (rS.out.o0.keep fun k hk => ho k (by have := (rS.out.o0.lt k hk).1; have := hlt2.out; omega))
          replace p2 := hid p2
          clear ho hbl9 hz7 hb7 rS
          refine hK.out _ _ (HeldL.cons (fun h => absurd h (by decide +kernel)) HeldL.nil) (fun hHeld' => ?_)
          clear hK K hHeld; have hHeld := hHeld'; clear hHeld'
          try simp only [Act.put, List.getElem_toArray, List.getElem_cons_succ, List.getElem_cons_zero, List.setIfInBounds_toArray, List.set_cons_zero, List.set_cons_succ]
          refine wpAnyL_take0 (i := 10) (v := ?_) rfl (by kernel_rfl) (by kernel_rfl) (by kernel_rfl) (by rfl) (fun _ _ _ h => h) (Or.inl ⟨by rfl, ?_⟩) (by assumption) ?_
          rotate_left
          · (intro W _; go_simp; (with_reducible rfl))
          intro hHeld'
          clear hHeld; have hHeld := hHeld'; clear hHeld'
          try simp only [Act.put, List.getElem_toArray, List.getElem_cons_succ, List.getElem_cons_zero, List.setIfInBounds_toArray, List.set_cons_zero, List.set_cons_succ]
          refine wpAnyL_done (by kernel_rfl) ?_ _
          go_wp2
          exact ret_mach_v rfl rfl rfl p2.out rfl ⟨_, rfl, pO.out.mono (Nat.le_of_lt hlt2.out), pB.out⟩
set_option maxHeartbeats 4000000 in
set_option maxRecDepth 100000 in
theorem implMin_any (w : World) (m : Mach) (hk : m.Ok) :
    Calls Try.prog 10 #[.agg (mcells m)] w fun e w' => ∃ v, e = .returned (.tuple #[.agg (mcells (minAns m).1), v, .int .i64 (minAns m).2.2]) ∧ Own w' w.heap.size 2 v (ints (minAns m).2.1) ∧ Below w.heap.size w w' := by
  have hz := zero_mach
  have hS := hid (((St.start w).newMB m 27).newMB ⟨0, 0, fun _ => 0, fun _ => 0⟩ 27)
  rw [heap_alloc_size] at hS
  by_cases hm : IsM m
  · obtain ⟨l, s, g⟩ := hm.good
    rw [minAns_good g]
    have him := hid (fun W => IsMachine_any W m hk true (iff_of_true rfl hm))
    have hmi := hid (fun W h => (by have h2 := minimal_any w.heap.size W m h l s g; rw [nats_ints] at h2; exact h2 : Calls Try.prog 79 #[.pointer (some ⟨w.heap.size, 0, none⟩)] W fun e w' => ∃ v, e = .returned (.tuple #[.agg (mcells (mnM (tabOf m l s))), v]) ∧ Own w' W.heap.size 2 v (ints ((mnN (tabOf m l s)).map Int.ofNat)) ∧ Below W.heap.size W w'))
    have hz2 := hid (fun L W (h : St w.heap.size w L W) => h.newMB ⟨0, 0, fun _ => 0, fun _ => 0⟩ 27)
    replace hk := hid hk; replace hm := hid hm
    clear g
    generalize mnM (tabOf m l s) = M at *
    generalize (mnN (tabOf m l s)).map Int.ofNat = NN at *
    go_enter Try.func10, Try.ntmps10
    go_upto_region 4 with (first
      | ((with_reducible refine gate (N := 7) rfl ?_); refine load_mach rfl _ rfl w.heap.size rfl m hS.out.m1 ?_)
      | (go_at_call 65; (with_reducible refine (him.out _).mono ?_); rintro e w1 ⟨rfl, hb⟩; replace hS := hid (hS.out.call hb); clear hb)
      | (go_at_call 79; (with_reducible refine (hmi.out _ hS.out.m1).mono ?_); rintro e w2 ⟨v2, rfl, hO, hb⟩; have hle := hid (hS.out.call hb).le; replace hS := hid (hz2.out _ _ (hS.out.callOwn hb hO)); clear hb hO)
      | ((with_reducible refine gateOp (op := .store 27 (.tmp 5) (.tmp 13)) rfl ?_); refine store_mach rfl _ _ rfl w2.heap.size rfl M rfl 27 _ hS.out.m0 ?_; intro w3 p3 ho hsz hbl; replace hS := hid (hS.out.setM hle.out p3 ho hbl); clear p3 ho hsz hbl))
    generalize w2.heap.size = b5 at *
    go_wp2_with (first
      | ((with_reducible refine gate (N := 15) rfl ?_); refine load_mach rfl _ rfl b5 rfl M hS.out.m0 ?_)
      | ((with_reducible refine gateOp (op := .store 27 (.tmp 2) (.tmp 15)) rfl ?_); refine store_mach rfl _ _ rfl (w.heap.size + 1) rfl M rfl 27 _ hS.out.m2 ?_; intro W3 p2 ho hsz hbl; replace hS := hid (hS.out.f2.setM (Nat.le_succ _) p2 ho hbl); clear p2 ho hsz hbl))
    exact ret_mvv rfl rfl rfl rfl hS.out.m0 rfl ⟨_, rfl, hS.out.o2, hS.out.bel⟩
  · rw [minAns_bad hm]
    have him := hid (fun W => IsMachine_any W m hk false (iff_of_false (by decide) hm))
    replace hk := hid hk
    clear hm
    generalize hzs : mcells ⟨0, 0, fun _ => 0, fun _ => 0⟩ = zs at *
    replace hzs := hid hzs
    go_enter Try.func10, Try.ntmps10
    go_wp2_with (first
      | ((with_reducible refine gate (N := 7) rfl ?_); refine load_mach rfl _ rfl w.heap.size rfl m hS.out.m1 ?_)
      | (go_at_call 65; (with_reducible refine (him.out _).mono ?_); rintro e w1 ⟨rfl, hb⟩; replace hS := hid (hS.out.call hb); clear hb)
      | ((with_reducible refine gate (N := 10) rfl ?_); refine build_zero rfl rfl ?_)
      | ((with_reducible refine gateOp (op := .store 27 (.tmp 2) (.tmp 10)) rfl ?_); refine store_mach rfl _ _ rfl (w.heap.size + 1) rfl ⟨0, 0, fun _ => 0, fun _ => 0⟩ rfl 27 _ hS.out.m0 ?_; intro W3 p2 ho hsz hbl; replace hS := hid (hS.out.setM (Nat.le_succ _) p2 ho hbl); clear p2 ho hsz hbl))
    exact ret_mvv rfl rfl rfl rfl hS.out.m0 rfl ⟨_, by rw [hzs.out]; rfl, Own.nil _ _ _, hS.out.bel⟩
end Go.Proofs.Ytbmkkaecfogmoaa
