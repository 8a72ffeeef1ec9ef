/- What the proof of FnDuals leans on, part 20 of 26. -/
import Derived.Test.YtbmkkaecfogmoaaZFnDualsS
import Derived.Carry
import Derived.ProofKit
import Derived.OpenShut
import Derived.Laws.BitsAllLaws
import Derived.BigQuiet
import Derived.Deep.RegionWith
/- A slice of bytes as an argument. -/
namespace Go.Proofs.Ytbmkkaecfogmoaa
open Go.RowKit
set_option linter.unusedVariables false
set_option linter.unusedSimpArgs false

/-- A slice of bytes that was handed in. -/
def ArgB (W : World) (v : Value) (l : List Nat) : Prop :=
  ∃ A c, v = .slice A l.length c ∧ ((A = none ∧ l = []) ∨ ∃ a : Addr, A = some a ∧ ∀ i x, l[i]? = some x → x < 256 ∧ W.cell? (a.add i) = some (.int .u8 (x : Nat)) ∧ (a.add i).block < W.heap.size)
theorem ArgB.below {W W' : World} {v : Value} {l : List Nat} (h : ArgB W v l) (hb : Below W.heap.size W W') : ArgB W' v l := by
  obtain ⟨A, c, rfl, h | ⟨a, rfl, hc⟩⟩ := h
  · exact ⟨A, c, rfl, .inl h⟩
  · exact ⟨_, c, rfl, .inr ⟨a, rfl, fun i x hx => ⟨(hc i x hx).1, (hb.cell (hc i x hx).2.2).trans (hc i x hx).2.1, Nat.lt_of_lt_of_le (hc i x hx).2.2 hb.size⟩⟩⟩
theorem laidOutB' : laidOutB Try.prog = true := by kernel_rfl
theorem cell_ltB {W : World} {a : Addr} {v : Value} (h : W.cell? a = some v) : a.block < W.heap.size := by
  rcases Nat.lt_or_ge a.block W.heap.size with h1 | h1
  · exact h1
  · exfalso
    unfold World.cell? at h
    rw [Array.getElem?_eq_none h1] at h
    simp at h
theorem cellsL_u8 : Try.prog.cellsOf 5 = 1 := by kernel_rfl
theorem readable_bytes : Try.prog.readableRec 22 = true := by kernel_rfl
set_option maxRecDepth 1000000 in
theorem open_argB {H : Type} {enc : TypeId × Value → H} {W : World} {b0 : Nat} {v : Value} {d : DataW H} {p : List MemPlace} (hval : Value.okWide Try.prog W .any b0 22 v) (h : DataW.Trod enc Try.prog W 0 (fun _ => true) true 22 v d p) : ∃ l, ArgB W v l := by
  obtain ⟨a0, len, cap, rfl⟩ := Go.WideShapes.okWide_slice Try.underlying22 hval
  obtain ⟨fuel, hf⟩ := h
  rcases Go.ChangeShapes.open_ints Try.underlying22 Try.underlying5 cellsL_u8 hf with ⟨hcs, _⟩ | ⟨a, len', cap', zs, hcs, _, hl, _, hz, _, hcell, hwf⟩
  · simp [Value.cells] at hcs
    obtain ⟨rfl, rfl, rfl⟩ := hcs
    exact ⟨[], none, 0, rfl, .inl ⟨rfl, rfl⟩⟩
  · simp [Value.cells] at hcs
    obtain ⟨rfl, rfl, rfl⟩ := hcs
    simp only [if_true] at hz
    have hlen : ((zs.take len).map Int.toNat).length = len := by rw [List.length_map, List.length_take]; omega
    refine ⟨(zs.take len).map Int.toNat, some a, cap, by rw [hlen], .inr ⟨a, rfl, fun i x hx => ?_⟩⟩
    have hi := (List.getElem?_eq_some_iff.1 hx).1
    rw [hlen] at hi
    rw [List.getElem?_map, List.getElem?_take_of_lt hi] at hx
    have hc := hcell i (by omega)
    obtain ⟨z, hz1, hz2⟩ := Option.map_eq_some_iff.1 hx
    rw [List.getD_eq_getElem?_getD, hz1] at hc
    have hw := hwf z (List.mem_of_getElem? hz1)
    unfold Lit.wf at hw
    rw [Bool.and_eq_true, decide_eq_true_eq, decide_eq_true_eq] at hw
    have e1 : IntKind.u8.min = 0 := by decide
    have e2 : IntKind.u8.max = 255 := by decide
    rw [e1, e2] at hw
    have e3 : ((x : Nat) : Int) = z := by rw [← hz2]; omega
    exact ⟨by omega, by rw [e3]; exact hc, cell_ltB hc⟩
end Go.Proofs.Ytbmkkaecfogmoaa

/- Numbers drawn from a code: the reference's source. -/
namespace Go.Proofs.Ytbmkkaecfogmoaa
open Go.RowKit
set_option linter.unusedVariables false
set_option linter.unusedSimpArgs false
-- @LONG

/-- A source: its code, how far it is read, its hash. -/
def Asn.src (S : Nat) (v : Value) (n : Nat) : Asn :=
  ⟨fun k => k = S, fun w => ∃ a h : Nat, w.heap[S]? = some (.cells #[v, .int .i64 a, .int .u64 h] 185 (0, 0)) ∧ a ≤ n ∧ h < 18446744073709551616,
   fun ⟨a, h, h1, h2⟩ hk => ⟨a, h, (hk S rfl).trans h1, h2⟩, fun ⟨a, h, h1, _⟩ k hk => hk ▸ (Array.getElem?_eq_some_iff.1 h1).1⟩
theorem St.srcBlk {base S n : Nat} {w0 w : World} {L : List Asn} {v : Value} (h : St base w0 (Asn.src S v n :: L) w) : ∃ a x : Nat, a ≤ n ∧ x < 18446744073709551616 ∧ St base w0 (Asn.blk S #[v, .int .i64 a, .int .u64 x] 185 :: L) w := by
  obtain ⟨⟨a, x, h1, h2, h3⟩, hf, hL⟩ := h.star
  exact ⟨a, x, h2, h3, h.bel, h.le, h1, hf, hL⟩
theorem St.blkSrc {base S n a x : Nat} {w0 w : World} {L : List Asn} {v : Value} (h : St base w0 (Asn.blk S #[v, .int .i64 a, .int .u64 x] 185 :: L) w) (ha : a ≤ n) (hx : x < 18446744073709551616) : St base w0 (Asn.src S v n :: L) w :=
  ⟨h.bel, h.le, ⟨a, x, h.star.1, ha, hx⟩, h.star.2.1, h.star.2.2⟩
theorem u64_nat (x : Int) : ∃ y : Nat, IntKind.u64.wrap x = (y : Int) ∧ y < 18446744073709551616 := by
  have h1 : 0 ≤ IntKind.u64.wrap x ∧ IntKind.u64.wrap x < 18446744073709551616 := by
    have e : IntKind.u64.wrap x = x % 18446744073709551616 := by
      unfold IntKind.wrap
      simp [IntKind.signed, IntKind.bits]
    rw [e]; omega
  exact ⟨(IntKind.u64.wrap x).toNat, by omega, by omega⟩
theorem and24 (y : Nat) (hy : y < 18446744073709551616) : ∃ z : Nat, bits .and .u64 ((y : Int) / 8589934592) 16777215 = (z : Int) ∧ z ≤ 16777215 := by
  have h := u64_and_nat (y / 8589934592) 16777215 (by omega) (by omega)
  have e : ((y / 8589934592 : Nat) : Int) = (y : Int) / 8589934592 := by omega
  rw [e] at h
  exact ⟨_, h, Nat.and_le_right⟩
set_option maxHeartbeats 2000000 in
set_option maxRecDepth 100000 in
theorem l01Next_any (w0 : World) (L : List Asn) (w : World) (S : Nat) (v : Value) (l : List Nat) (hv : ArgB w0 v l) (hl : l.length ≤ 5000) (hSb : w0.heap.size ≤ S) (n : Int) (hn : n < 9223372036854775808)
    (hS : St w0.heap.size w0 (Asn.src S v l.length :: L) w) :
    Calls Try.prog 132 #[.pointer (some ⟨S, 0, none⟩), .int .i64 n] w fun e w' => ∃ r : Int, e = .returned (.int .i64 r) ∧ 0 ≤ r ∧ (r < n ∨ r = 0) ∧ St w0.heap.size w0 (Asn.src S v l.length :: L) w' := by
  have hv' := hid hv
  obtain ⟨A, c, rfl, hA⟩ := hv
  obtain ⟨a, x, ha, hx, hB⟩ := hS.srcBlk
  by_cases h1 : n < 1
  · have d1 : decide (n < 1) = true := decide_eq_true h1
    replace hS := hid hS
    clear hB
    go_enter Try.func132, Try.ntmps132
    go_wp2
    go_ret
    exact ⟨0, rfl, by omega, .inr rfl, hS.out⟩
  · have d1 : decide (n < 1) = false := decide_eq_false h1
    have c2 := (show w.cell? ⟨S, 2, none⟩ = some (.int .u64 x) from cell_of_row _ _ 2 _ _ _ hB.k0)
    have f2 := frozen_of_row _ _ 2 _ _ hB.k0
    replace hB := hid hB
    clear hS
    go_enter Try.func132, Try.ntmps132
    go_upto_region 4 with (fail)
    obtain ⟨y, hy, hy2⟩ := u64_nat (IntKind.u64.wrap ((x : Int) * 6364136223846793005) + 1442695040888963407)
    rw [hy]
    clear hy
    replace hB := hid (show St w0.heap.size w0 (Asn.blk S #[.slice A l.length c, .int .i64 a, .int .u64 y] 185 :: L) _ from hB.out.setBlk hSb 2 (.int .u64 y))
    clear c2 f2
    generalize w.setCell _ _ = w1 at *
    have c2 := (show w1.cell? ⟨S, 2, none⟩ = some (.int .u64 y) from cell_of_row _ _ 2 _ _ _ hB.out.k0)
    have c1 := (show w1.cell? ⟨S, 1, none⟩ = some (.int .i64 a) from cell_of_row _ _ 1 _ _ _ hB.out.k0)
    have c0 := (show w1.cell? ⟨S, 0, none⟩ = some (.slice A l.length c) from cell_of_row _ _ 0 _ _ _ hB.out.k0)
    have f1 := frozen_of_row _ _ 1 _ _ hB.out.k0
    go_upto_region 5 with (fail)
    obtain ⟨z, hz, hz2⟩ := and24 y hy2
    rw [hz]
    clear hz
    rw [w64 (show -9223372036854775808 ≤ (z : Int) by omega) (show (z : Int) ≤ 9223372036854775807 by omega)]
    have dz : ¬ n = 0 := by omega
    by_cases hlt : a < l.length
    · have da : decide ((a : Int) < (l.length : Int)) = true := decide_eq_true (by omega)
      obtain ⟨g, rfl, hc⟩ : ∃ g : Addr, A = some g ∧ ∀ i x, l[i]? = some x → x < 256 ∧ w0.cell? (g.add i) = some (.int .u8 (x : Nat)) ∧ (g.add i).block < w0.heap.size := by
        rcases hA with ⟨_, h⟩ | ⟨g, h, hh⟩
        · rw [h] at hlt; simp at hlt
        · exact ⟨g, h, hh⟩
      obtain ⟨b, hb⟩ : ∃ b, l[a]? = some b := ⟨_, List.getElem?_eq_getElem hlt⟩
      obtain ⟨hb1, hb2, hb3⟩ := hc a b hb
      have cb := (hB.out.bel.cell hb3).trans hb2
      have a0 : (0 : Int) ≤ (a : Int) := Int.natCast_nonneg _
      have a1 : (a : Int) < (l.length : Int) := by omega
      have ew : wrap64 ((z : Int) + (b : Int)) = (z : Int) + b := w64 (by omega) (by omega)
      have ew1 : wrap64 ((a : Int) + 1) = (a : Int) + 1 := w64 (by omega) (by omega)
      have ewb : wrap64 (b : Int) = (b : Int) := w64 (by omega) (by omega)
      have hr1 := Int.emod_nonneg ((z : Int) + b) (show n ≠ 0 by omega)
      have hr2 := Int.emod_lt_of_pos ((z : Int) + b) (show 0 < n by omega)
      have m1 : Int.tmod ((z : Int) + (b : Int)) n = ((z : Int) + b) % n := Int.tmod_eq_emod_of_nonneg (Int.add_nonneg (Int.natCast_nonneg _) (Int.natCast_nonneg _))
      clear hA hc hb hb2 hb3
      replace hy2 := hid hy2; replace hx := hid hx; replace hn := hid hn; replace hz2 := hid hz2
      go_quiet (fail)
      go_upto_region 6 with (fail)
      go_quiet (fail)
      rw [ew]
      obtain ⟨w3, hw3, hB3⟩ : ∃ w3, (World.drewN (World.drewN w1 _) nq) = w3 ∧ St w0.heap.size w0 (Asn.blk S #[.slice (some g) l.length c, .int .i64 a, .int .u64 y] 185 :: L) w3 := ⟨_, rfl, (hB.out.drewN _).drewN _⟩
      rw [hw3]
      replace hB := hid hB3
      clear hw3 hB3 c0 c1 c2 f1 cb
      have c1 := (show w3.cell? ⟨S, 1, none⟩ = some (.int .i64 a) from cell_of_row _ _ 1 _ _ _ hB.out.k0)
      have f1 := frozen_of_row _ _ 1 _ _ hB.out.k0
      go_upto_region 8 with (fail)
      replace hB := hid (show St w0.heap.size w0 (Asn.blk S #[.slice (some g) l.length c, .int .i64 ((a : Int) + 1), .int .u64 y] 185 :: L) _ from hB.out.setBlk hSb 1 (.int .i64 ((a : Int) + 1)))
      generalize w3.setCell _ _ = w4 at *
      have ea : (a : Int) + 1 = ((a + 1 : Nat) : Int) := rfl
      rw [ea] at hB
      clear c1 f1 ew ew1 ewb
      go_wp2
      go_ret
      exact ⟨((z : Int) + b) % n, by first | rfl | (rw [m1]), hr1, .inl hr2, (hB.out.blkSrc (by omega) hy2.out)⟩
    · have da : decide ((a : Int) < (l.length : Int)) = false := decide_eq_false (by omega)
      have hr1 := Int.emod_nonneg (z : Int) (show n ≠ 0 by omega)
      have hr2 := Int.emod_lt_of_pos (z : Int) (show 0 < n by omega)
      have m1 : Int.tmod (z : Int) n = (z : Int) % n := Int.tmod_eq_emod_of_nonneg (Int.natCast_nonneg _)
      go_quiet (fail)
      go_wp2
      go_ret
      exact ⟨(z : Int) % n, by first | rfl | (rw [m1]), hr1, .inl hr2, ((hB.out.drewN _).blkSrc ha hy2)⟩
end Go.Proofs.Ytbmkkaecfogmoaa

/- Numbers drawn from a code: one of some, near a range. -/
namespace Go.Proofs.Ytbmkkaecfogmoaa
open Go.RowKit
set_option linter.unusedVariables false
set_option linter.unusedSimpArgs false
-- @LONG

set_option maxHeartbeats 2000000 in
set_option maxRecDepth 100000 in
theorem l01Pick_any (w0 : World) (L : List Asn) (w : World) (S : Nat) (v : Value) (l : List Nat) (hv : ArgB w0 v l) (hl : l.length ≤ 5000) (hSb : w0.heap.size ≤ S) (b2 : Nat) (v2 : Value) (M : List Int) (hM : 1 ≤ M.length) (hMl : M.length ≤ 1000)
    (hS : St w0.heap.size w0 (Asn.src S v l.length :: Asn.own b2 2 v2 (ints M) :: L) w) :
    Calls Try.prog 133 #[.pointer (some ⟨S, 0, none⟩), v2] w fun e w' => ∃ r : Int, e = .returned (.int .i64 r) ∧ r ∈ M ∧ St w0.heap.size w0 (Asn.src S v l.length :: Asn.own b2 2 v2 (ints M) :: L) w' := by
  obtain ⟨g, c, rfl, _, _⟩ := hS.o1.blk (fun e => by have h := congrArg List.length e; rw [ints_length, List.length_nil] at h; omega)
  rw [ints_length] at hS ⊢
  have hnx := hid (fun W (hW : St w0.heap.size w0 (Asn.src S v l.length :: Asn.own b2 2 (.slice (some ⟨g, 0, none⟩) M.length c) (ints M) :: L) W) => l01Next_any w0 _ W S v l hv hl hSb (M.length : Nat) (by omega) hW)
  have hget := hid (fun (r : Int) (h0 : 0 ≤ r) (h1 : r < (M.length : Nat) ∨ r = 0) => (show ∃ (j : Nat) (x : Int), r = (j : Nat) ∧ j < M.length ∧ M[j]? = some x ∧ x ∈ M from by
    obtain ⟨j, rfl⟩ := Int.eq_ofNat_of_zero_le h0
    have hj : j < M.length := by omega
    exact ⟨j, M[j], rfl, hj, List.getElem?_eq_getElem hj, List.getElem_mem hj⟩))
  replace hS := hid hS
  replace hv := hid hv
  generalize hn : M.length = n at *
  go_enter Try.func133, Try.ntmps133
  go_wp2_with (first
    | (go_at_call 132; (with_reducible refine (hnx.out _ hS.out).mono ?_); rintro e w1 ⟨r, rfl, hr0, hr1, hS'⟩; obtain ⟨j, x, rfl, hj, hx, hxm⟩ := hget.out r hr0 hr1; (have cx := hS'.o1.cellAt j (.int .i64 x) (by simp [ints, hx])); (have j0 : (0 : Int) ≤ (j : Int) := Int.natCast_nonneg _); (have j1 : (j : Int) < (n : Int) := by omega); replace hxm := hid hxm; replace hS := hid hS'; clear hS' hx hr0 hr1))
  go_ret
  exact ⟨x, rfl, hxm.out, hS.out⟩
set_option maxHeartbeats 2000000 in
set_option maxRecDepth 100000 in
theorem l01Near_any (w0 : World) (L : List Asn) (w : World) (S : Nat) (v : Value) (l : List Nat) (hv : ArgB w0 v l) (hl : l.length ≤ 5000) (hSb : w0.heap.size ≤ S) (n : Int) (hn0 : -1 ≤ n) (hn : n ≤ 1000000)
    (hS : St w0.heap.size w0 (Asn.src S v l.length :: L) w) :
    Calls Try.prog 142 #[.pointer (some ⟨S, 0, none⟩), .int .i64 n] w fun e w' => ∃ r : Int, e = .returned (.int .i64 r) ∧ Hid (-4611686018427387904 ≤ r ∧ r ≤ 1099511627776) ∧ St w0.heap.size w0 (Asn.src S v l.length :: L) w' := by
  have hnx := hid (fun W k (hk : k < 9223372036854775808) (hW : St w0.heap.size w0 (Asn.src S v l.length :: L) W) => l01Next_any w0 _ W S v l hv hl hSb k hk hW)
  have hpk := hid (fun W b v2 (hW : St w0.heap.size w0 (Asn.src S v l.length :: Asn.own b 2 v2 (ints [-1, n + 1, 1099511627776, -4611686018427387904]) :: L) W) => l01Pick_any w0 L W S v l hv hl hSb b v2 [-1, n + 1, 1099511627776, -4611686018427387904] (by simp only [List.length_cons, List.length_nil]; omega) (by simp only [List.length_cons, List.length_nil]; omega) hW)
  have hk14 := hid (show (14 : Int) < 9223372036854775808 by omega)
  have hkn := hid (show n + 1 < 9223372036854775808 by omega)
  have ew : wrap64 (n + 1) = n + 1 := w64 (by omega) (by omega)
  have hrg := hid (fun r (hr : r ∈ [-1, n + 1, (1099511627776 : Int), -4611686018427387904]) => (show -4611686018427387904 ≤ r ∧ r ≤ 1099511627776 from by
    simp only [List.mem_cons, List.not_mem_nil, or_false] at hr
    rcases hr with rfl | rfl | rfl | rfl <;> omega))
  have hrn := hid (fun (r : Int) (h0 : 0 ≤ r) (h1 : r < n + 1 ∨ r = 0) => (show -4611686018427387904 ≤ r ∧ r ≤ 1099511627776 from by omega))
  replace hS := hid hS
  replace hv := hid hv
  replace hn := hid hn; replace hn0 := hid hn0
  go_enter Try.func142, Try.ntmps142
  go_wp2_with (first
    | (go_at_call 132; (with_reducible refine (hnx.out _ _ hk14.out hS.out).mono ?_); rintro e w1 ⟨r, rfl, hr0, hr1, hS'⟩; replace hS := hid hS'; clear hS' hr0 hr1 hk14)
    | (go_at_call 132; rw [ew]; (with_reducible refine (hnx.out _ _ hkn.out hS.out).mono ?_); rintro e w2 ⟨q, rfl, hr0, hr1, hS'⟩; (have hq := hid (hrn.out q hr0 hr1)); replace hS := hid hS'; clear hS' hr0 hr1 hkn)
    | (go_at_call 133; rw [ew]; (have hS2 := (hS.out.newOwn [.int .i64 (-1), .int .i64 (n + 1), .int .i64 1099511627776, .int .i64 (-4611686018427387904)] 2 (by simp)).f1); (with_reducible refine (hpk.out _ _ _ hS2).mono ?_); rintro e w2 ⟨q, rfl, hr0, hS'⟩; (have hq := hid (hrg.out q hr0)); replace hS := hid (hS'.f1.drop); clear hS' hS2 hr0))
  all_goals go_ret
  all_goals exact ⟨_, rfl, hq, hS.out⟩
end Go.Proofs.Ytbmkkaecfogmoaa

/- The source of a code. -/
namespace Go.Proofs.Ytbmkkaecfogmoaa
open Go.RowKit
set_option linter.unusedVariables false
set_option linter.unusedSimpArgs false
-- @LONG

theorem built_src (A : Option Addr) (n c : Nat) (x : Int) : Try.prog.built 185 [(0, .slice A n c), (2, .int .u64 x)] = some #[.slice A n c, .int .i64 0, .int .u64 x] := by kernel_rfl
set_option maxHeartbeats 2000000 in
set_option maxRecDepth 100000 in
theorem l01From_any (w : World) (v : Value) (l : List Nat) (hv : ArgB w v l) (hl : l.length ≤ 5000) :
    Calls Try.prog 78 #[v] w fun e w' => e = .returned (.pointer (some ⟨w.heap.size, 0, none⟩)) ∧ St w.heap.size w [Asn.src w.heap.size v l.length] w' := by
  have hv' := hid hv
  obtain ⟨A, c, rfl, hA⟩ := hv
  have hbs := fun (x : Int) => built_src A l.length c x
  obtain ⟨y0, hy0, hy02⟩ := u64_nat (11927 + IntKind.u64.wrap (l.length : Int))
  have hS0 := hid ((St.start w).newBlk #[.slice A l.length c, .int .i64 0, .int .u64 y0] 185)
  have hby := hid (fun i (hi : i < l.length) => (show ∃ (g : Addr) (b : Nat), A = some g ∧ b < 256 ∧ w.cell? (g.add i) = some (.int .u8 (b : Nat)) ∧ (g.add i).block < w.heap.size from by
    rcases hA with ⟨_, h⟩ | ⟨g, h, hh⟩
    · rw [h] at hi; simp at hi
    · obtain ⟨h1, h2, h3⟩ := hh i _ (List.getElem?_eq_getElem hi)
      exact ⟨g, _, h, h1, h2, h3⟩))
  clear hA
  replace hy02 := hid hy02
  generalize hn : l.length = n at *
  go_enter Try.func78, Try.ntmps78
  go_wp2
  have hS1 := (St.start w).newBlk #[.slice A n c, .int .i64 0, .int .u64 (11927 + (n : Int))] 185
  clear hS0
  generalize w.alloc (.cells #[.slice A n c, .int .i64 0, .int .u64 (11927 + (n : Int))] 185) = w1 at *
  have e1 : 11927 + (n : Int) = ((11927 + n : Nat) : Int) := by omega
  rw [e1] at hS1
  replace hS1 := hid ((show St w.heap.size w [Asn.blk w.heap.size #[.slice A n c, .int .i64 ((0 : Nat) : Int), .int .u64 ((11927 + n : Nat) : Int)] 185] w1 from hS1).blkSrc (n := n) (Nat.zero_le _) (by omega))
  go_loopw [4] (fun i wr => ∃ k : Nat, k ≤ n ∧ k ≤ 4096 ∧ i = .int .i64 k ∧ St w.heap.size w [Asn.src w.heap.size (.slice A n c) n] wr) (fun i _ => n - (intOf i).toNat)
  case atStart => exact ⟨0, Nat.zero_le _, by omega, rfl, hS1.out⟩
  case round =>
    obtain ⟨k, hk, hk4, rfl, rS⟩ := hrel
    clear hS1
    by_cases hlt : k < n
    · have dk : decide ((k : Int) < (n : Int)) = true := decide_eq_true (by omega)
      by_cases h4 : k = 4096
      · have dk2 : decide ((k : Int) < 4096) = false := decide_eq_false (by omega)
        replace rS := hid rS
        replace h4 := hid h4
        go_wp2
        go_ret
        exact ⟨rfl, rS.out⟩
      have dk2 : decide ((k : Int) < 4096) = true := decide_eq_true (by omega)
      obtain ⟨a, x, ha, hx, hB⟩ := rS.srcBlk
      obtain ⟨g, b, rfl, hb, hb2, hb3⟩ := hby.out k hlt
      have cb := (hB.bel.cell hb3).trans hb2
      have c2 := (show wr.cell? ⟨w.heap.size, 2, none⟩ = some (.int .u64 x) from cell_of_row _ _ 2 _ _ _ hB.k0)
      have f2 := frozen_of_row _ _ 2 _ _ hB.k0
      have k0 : (0 : Int) ≤ (k : Int) := Int.natCast_nonneg _
      have k1 : (k : Int) < (n : Int) := by omega
      replace hB := hid hB; replace hx := hid hx
      clear rS hb2 hb3
      go_upto_region 5 with (fail)
      go_region
      obtain ⟨y, hy, hy2⟩ := u64_nat (IntKind.u64.wrap (IntKind.u64.wrap ((x : Int) * 1099511628211) + (b : Int)) + 59)
      rw [hy]
      replace hB := hid ((show St w.heap.size w [Asn.blk w.heap.size #[.slice (some g) n c, .int .i64 a, .int .u64 y] 185] _ from hB.out.setBlk (Nat.le_refl _) 2 (.int .u64 y)).drew)
      generalize World.drew _ = w5 at *
      clear hy c2 f2 cb
      replace hy2 := hid hy2
      go_wp2
      go_roundw
      case rel => exact ⟨k + 1, by omega, by omega, by go_num, hB.out.blkSrc ha hy2.out⟩
      case measure => simp [intOf]; omega
    · obtain rfl : k = n := by omega
      have dk : decide ((k : Int) < (k : Int)) = false := decide_eq_false (by omega)
      replace rS := hid rS
      go_wp2
      go_ret
      exact ⟨rfl, rS.out⟩
end Go.Proofs.Ytbmkkaecfogmoaa

/- Draws from a source: states, words, levels. -/
namespace Go.Proofs.Ytbmkkaecfogmoaa
open Go.RowKit
set_option linter.unusedVariables false
set_option linter.unusedSimpArgs false
-- @LONG

/-- The ground of a draw: the world in which the source was made, and its code. -/
structure Dg (w0 : World) (S : Nat) (v : Value) (l : List Nat) : Prop where
  hv : ArgB w0 v l
  hl : l.length ≤ 5000
  hS : w0.heap.size ≤ S
/-- A number drawn near a range. -/
def I64 (r : Int) : Prop := -4611686018427387904 ≤ r ∧ r ≤ 1099511627776
theorem mm_range (x a b : Int) (h : a ≤ b) : a ≤ min (max x a) b ∧ min (max x a) b ≤ b := by omega
section
variable {w0 w : World} {S : Nat} {v : Value} {l : List Nat} {L : List Asn}
theorem Dg.next (D : Dg w0 S v l) (n : Int) (hn : n ≤ 1000000000) (hS : St w0.heap.size w0 (Asn.src S v l.length :: L) w) :
    Calls Try.prog 132 #[.pointer (some ⟨S, 0, none⟩), .int .i64 n] w fun e w' => ∃ r : Nat, e = .returned (.int .i64 r) ∧ ((r : Int) < n ∨ r = 0) ∧ St w0.heap.size w0 (Asn.src S v l.length :: L) w' := by
  refine (l01Next_any w0 L w S v l D.hv D.hl D.hS n (by omega) hS).mono ?_
  rintro e w' ⟨r, rfl, h0, h1, h2⟩
  obtain ⟨r, rfl⟩ := Int.eq_ofNat_of_zero_le h0
  exact ⟨r, rfl, by omega, h2⟩
theorem Dg.pick (D : Dg w0 S v l) {b2 : Nat} {v2 : Value} (M : List Int) (hM : 1 ≤ M.length) (hMl : M.length ≤ 1000) (hS : St w0.heap.size w0 (Asn.src S v l.length :: Asn.own b2 2 v2 (ints M) :: L) w) :
    Calls Try.prog 133 #[.pointer (some ⟨S, 0, none⟩), v2] w fun e w' => ∃ r : Int, e = .returned (.int .i64 r) ∧ r ∈ M ∧ St w0.heap.size w0 (Asn.src S v l.length :: L) w' :=
  (l01Pick_any w0 L w S v l D.hv D.hl D.hS b2 v2 M hM hMl hS).mono fun e w' ⟨r, h1, h2, h3⟩ => ⟨r, h1, h2, h3.f1.drop⟩
theorem Dg.near (D : Dg w0 S v l) (n : Int) (h0 : -1 ≤ n) (h1 : n ≤ 1000000) (hS : St w0.heap.size w0 (Asn.src S v l.length :: L) w) :
    Calls Try.prog 142 #[.pointer (some ⟨S, 0, none⟩), .int .i64 n] w fun e w' => ∃ r : Int, e = .returned (.int .i64 r) ∧ Hid (I64 r) ∧ St w0.heap.size w0 (Asn.src S v l.length :: L) w' :=
  l01Near_any w0 L w S v l D.hv D.hl D.hS n h0 h1 hS
/-- The list of a pick, made behind the source. -/
theorem St.list (h : St w0.heap.size w0 (Asn.src S v l.length :: L) w) (cs : List Value) (hm : cs.length ≤ 1000000) : St w0.heap.size w0 (Asn.src S v l.length :: Asn.own w0.heap.size 2 (.slice (some ⟨w.heap.size, 0, none⟩) cs.length cs.length) cs :: L) (w.alloc (.cells cs.toArray 2)) := (h.newOwn cs 2 hm).f1
set_option maxHeartbeats 2000000 in
set_option maxRecDepth 100000 in
theorem Dg.state (D : Dg w0 S v l) (m : Mach) (hS : St w0.heap.size w0 (Asn.src S v l.length :: L) w) :
    Calls Try.prog 89 #[.pointer (some ⟨S, 0, none⟩), .agg (mcells m)] w fun e w' => ∃ r : Int, e = .returned (.int .i64 r) ∧ Hid (I64 r) ∧ St w0.heap.size w0 (Asn.src S v l.length :: L) w' := by
  have hN := hid (fun W L n (h0 : -1 ≤ n) (h1 : n ≤ 1000000) hW => D.near (w := W) (L := L) n h0 h1 hW)
  replace hS := hid (hS.newMB m 27).f1
  have cS := hS.out.m1.cS
  clear D
  go_enter Try.func89, Try.ntmps89
  go_wp2_with (first
    | (go_at_call 142; (with_reducible refine (hN.out _ _ _ (by (repeat' split) <;> omega) (by (repeat' split) <;> omega) hS.out).mono ?_); rintro e w1 ⟨r, rfl, hr, hS'⟩; clear hS; have hS := hid hS'.f1.drop; clear hS' cS))
  all_goals go_ret
  all_goals exact ⟨_, rfl, hr, hS.out⟩
set_option maxHeartbeats 2000000 in
set_option maxRecDepth 100000 in
theorem Dg.word (D : Dg w0 S v l) (d n : Int) (hn : n ≤ 41) (hS : St w0.heap.size w0 (Asn.src S v l.length :: L) w) :
    Calls Try.prog 136 #[.pointer (some ⟨S, 0, none⟩), .int .i64 d, .int .i64 n] w fun e w' => ∃ u : List Nat, e = .returned (.string (wstr u)) ∧ Hid (u.length ≤ 41 ∧ (∀ x ∈ u, x < 3) ∧ u.length = n.toNat) ∧ St w0.heap.size w0 (Asn.src S v l.length :: L) w' := by
  have hN := hid (fun W L n (h0 : n ≤ 1000000000) hW => D.next (w := W) (L := L) n h0 hW)
  have hS0 := hid ((hS.newOwn [] 5 (by simp)).f1)
  clear hS D
  obtain ⟨N, hN0, hNn⟩ : ∃ N : Nat, N ≤ 41 ∧ N = n.toNat := ⟨n.toNat, by omega, rfl⟩
  go_enter Try.func136, Try.ntmps136
  go_wp2
  go_loopw [2, 7] (fun i o wr => ∃ (u : List Nat) (k : Int), i = .int .i64 k ∧ k ≤ 41 ∧ u.length + k.toNat = N ∧ Hid (∀ x ∈ u, x < 3) ∧ St w0.heap.size w0 (Asn.src S v l.length :: Asn.own w0.heap.size 5 o (wb u) :: L) wr) (fun i _ _ => (intOf i).toNat)
  case atStart => exact ⟨[], n, rfl, hn, by simp; omega, hid (fun x hx => by cases hx), hS0.out⟩
  case round =>
    obtain ⟨u, k, rfl, hk1, hk3, hu, rS⟩ := hrel
    clear hS0
    replace rS := hid rS
    by_cases hlt : 0 < k
    · have dk : decide (0 < k) = true := decide_eq_true hlt
      have hul : u.length ≤ 41 := by omega
      go_wp2_with (first
        | (go_at_call 132; (with_reducible refine (hN.out _ _ _ (by (repeat' split) <;> omega) rS.out).mono ?_); rintro e w1 ⟨x, rfl, hx, hS'⟩; (have hx3 : x < 3 := (by revert hx; (repeat' split) <;> omega)); (have e1 : wrap64 (48 + (x : Int)) = 48 + (x : Int) := w64 (by omega) (by omega)); replace rS := hid hS'.f1; clear hS' hx hN)
        | ((with_reducible refine gate (N := 22) rfl ?_); (refine St.app 22 5 (.int .u8 0) 1 Try.underlying22 info_u8 rfl (by omega) rfl _ _ rfl _ _ rfl rS.out (.int .u8 (48 + (x : Int))) rfl rfl u.length (wb_length u) (by omega) ?_; intro gn cap w2 hO2; replace rS := hid hO2.f1; clear hO2)))
      all_goals go_roundw
      all_goals first
        | (exact ⟨u ++ [x], k - 1, rfl, by omega, by simp; omega, hid (fun y hy => (List.mem_append.1 hy).elim (hu.out y) fun hy => by rw [List.mem_singleton.1 hy]; exact hx3), by rw [wb_snoc]; exact rS.out⟩)
        | (simp only [intOf]; omega)
    · have dk : decide (0 < k) = false := decide_eq_false hlt
      have hconv := rS.out.o1.conv
      have hun : u.length = n.toNat := by omega
      replace rS := hid rS.out.f1.drop
      go_wp2
      go_ret
      exact ⟨u, rfl, hid ⟨by omega, hu.out, hun⟩, rS.out⟩
end
end Go.Proofs.Ytbmkkaecfogmoaa

/- A machine with any states, drawn. -/
namespace Go.Proofs.Ytbmkkaecfogmoaa
open Go.RowKit
set_option linter.unusedVariables false
set_option linter.unusedSimpArgs false
-- @LONG

/-- A machine of bytes with so many letters and states. -/
def MLS (m : Mach) (L S : Int) : Prop := m.Ok ∧ m.L = L ∧ m.S = S
theorem MLS.nx {m : Mach} {L S : Int} (h : MLS m L S) (i v : Nat) (hv : v < 256) : MLS { m with nx := upd m.nx i v } L S := ⟨fun j => ⟨by show upd m.nx i v j < 256; unfold upd; split; exact hv; exact (h.1 j).1, (h.1 j).2⟩, h.2⟩
theorem MLS.ot {m : Mach} {L S : Int} (h : MLS m L S) (i v : Nat) (hv : v < 256) : MLS { m with ot := upd m.ot i v } L S := ⟨fun j => ⟨(h.1 j).1, by show upd m.ot i v j < 256; unfold upd; split; exact hv; exact (h.1 j).2⟩, h.2⟩
theorem u8_of (r : Nat) (h : r < 256) : IntKind.u8.wrap (r : Int) = r := by
  unfold IntKind.wrap
  simp [IntKind.signed, IntKind.bits]; omega
section
variable {w0 w : World} {S : Nat} {v : Value} {l : List Nat} {L : List Asn}
set_option maxHeartbeats 4000000 in
set_option maxRecDepth 100000 in
theorem Dg.any (D : Dg w0 S v l) (d n : Nat) (hd : d = 2 ∨ d = 3) (hn : n ≤ 16) (hS : St w0.heap.size w0 (Asn.src S v l.length :: L) w) :
    Calls Try.prog 161 #[.pointer (some ⟨S, 0, none⟩), .int .i64 d, .int .i64 n] w fun e w' => ∃ m : Mach, e = .returned (.agg (mcells m)) ∧ Hid (MLS m d n) ∧ St w0.heap.size w0 (Asn.src S v l.length :: L) w' := by
  have hN := hid (fun W L n (h0 : n ≤ 1000000000) hW => D.next (w := W) (L := L) n h0 hW)
  have hz := zeroM_run
  have hz2 := hid (fun L W (h : St w0.heap.size w0 (Asn.src S v l.length :: L) W) => (h.newMB zeroM 27).f1)
  have hle := hid hS.le
  have hS := hid (hz2.out _ _ (hz2.out _ _ hS))
  simp only [heap_alloc_size] at hS
  clear D
  have hd2 : 2 ≤ d ∧ d ≤ 3 := by omega
  have hM0 := hid (show MLS ⟨(d : Int), (n : Int), fun _ => 0, fun _ => 0⟩ d n from ⟨fun _ => ⟨by show 0 < 256; omega, by show 0 < 256; omega⟩, rfl, rfl⟩)
  go_enter Try.func161, Try.ntmps161
  go_upto_region 2 with (first
    | ((with_reducible refine gate (N := 18) rfl ?_); refine build_mach rfl _ _ rfl (d : Int) (n : Int) rfl rfl ?_)
    | ((with_reducible refine gateOp (op := .store 27 (.tmp 7) (.tmp 18)) rfl ?_); refine store_mach rfl _ _ rfl (w.heap.size + 1) rfl ⟨(d : Int), (n : Int), fun _ => 0, fun _ => 0⟩ rfl 27 _ hS.out.f1.m0 ?_; intro w2 p3 ho hsz hbl; replace hS := hid (hS.out.f1.setM (Nat.le_succ_of_le hle.out) p3 ho hbl); clear p3 ho hsz hbl))
  replace hS := hid hS.out.f1
  have hb7 := hid (show w0.heap.size ≤ w.heap.size + 1 from Nat.le_succ_of_le hle.out)
  generalize w.heap.size + 1 = b7 at *
  go_upto_region 3 with (first
    | (go_at_call 132; (with_reducible refine (hN.out _ _ _ (by omega) hS.out).mono ?_); rintro e w3 ⟨r0, rfl, _, hS'⟩; replace hS := hid hS'; clear hS'))
  generalize decide (0 < r0) = calm at *
  go_wp2
  go_loopw [9] (fun i wr => ∃ (q : Nat) (m : Mach), q ≤ n ∧ i = .int .i64 q ∧ Hid (MLS m d n) ∧ St w0.heap.size w0 (Asn.src S v l.length :: Asn.mb 27 b7 m :: Asn.mb 27 w.heap.size zeroM :: L) wr) (fun i _ => n - (intOf i).toNat)
  case atStart => exact ⟨0, _, Nat.zero_le _, rfl, hM0, hS.out⟩
  case round =>
    obtain ⟨q, m, hq, rfl, hM, rS⟩ := hrel
    clear hS hM0
    replace rS := hid rS
    by_cases hlt : q < n
    · have dq : decide ((q : Int) < (n : Int)) = true := decide_eq_true (by omega)
      go_wp2
      go_loopw [10] (fun i wr => ∃ (x : Nat) (m : Mach), x ≤ d ∧ i = .int .i64 x ∧ Hid (MLS m d n) ∧ St w0.heap.size w0 (Asn.src S v l.length :: Asn.mb 27 b7 m :: Asn.mb 27 w.heap.size zeroM :: L) wr) (fun i _ => d - (intOf i).toNat)
      case atStart => exact ⟨0, _, Nat.zero_le _, rfl, hM, rS.out⟩
      case round =>
        obtain ⟨x, m, hx, rfl, hM, rS⟩ := hrel
        replace rS := hid rS
        by_cases hlx : x < d
        · have dx : decide ((x : Int) < (d : Int)) = true := decide_eq_true (by omega)
          have q0 : (0 : Int) ≤ (q : Int) := Int.natCast_nonneg _
          have q16 : (q : Int) < 16 := by omega
          have x0 : (0 : Int) ≤ (x : Int) := Int.natCast_nonneg _
          have x3 : (x : Int) < 3 := by omega
          have e1 : (x : Int) % 256 = x := by omega
          obtain ⟨vo, co⟩ : ∃ u, wr.cell? ⟨b7, 50 + q * 3 + x, none⟩ = some u := ⟨_, rS.out.m1.cot q x (by omega) (by omega)⟩
          have fo : wr.frozen? ⟨b7, 50 + q * 3 + x, none⟩ = false := World.rowIs.frozen rS.out.m1 _
          go_upto_region 10 with (fail)
          replace rS := hid (rS.out.f1.setOt hb7.out q x x (by omega) (by omega)).f1
          replace hM := hid (hM.out.ot (q * 3 + x) x (by omega))
          clear co fo e1
          generalize World.setCell wr _ _ = wa at *
          go_region_with (go_at_call 132; (with_reducible refine (hN.out _ _ _ (by omega) rS.out.drew).mono ?_); rintro e w5 ⟨r, rfl, hr, hS'⟩; (have e1 : IntKind.u8.wrap (r : Int) = r := u8_of r (by omega)); (have hr256 : r < 256 := by omega); replace rS := hid hS'; clear hS' hr; (obtain ⟨vn, cn⟩ : ∃ u, w5.cell? ⟨b7, 2 + q * 3 + x, none⟩ = some u := ⟨_, rS.out.m1.cnx q x (by omega) (by omega)⟩); (have fn : w5.frozen? ⟨b7, 2 + q * 3 + x, none⟩ = false := World.rowIs.frozen rS.out.m1 _))
          replace rS := hid (rS.out.f1.setNx hb7.out q x r (by omega) (by omega)).f1
          replace hM := hid (hM.out.nx (q * 3 + x) r hr256)
          clear cn fn e1
          generalize World.setCell w5 _ _ = wb at *
          cases calm
          · go_wp2
            go_roundw
            case rel => exact ⟨x + 1, _, by omega, by go_num, hM, rS.out⟩
            case measure => simp [intOf]; omega
          · go_upto_region 12 with (first
              | (go_at_call 132; (with_reducible refine (hN.out _ _ _ (by omega) rS.out).mono ?_); rintro e w6 ⟨r2, rfl, _, hS'⟩; replace rS := hid hS'; clear hS'))
            · obtain ⟨vn, cn⟩ : ∃ u, w6.cell? ⟨b7, 2 + q * 3 + x, none⟩ = some u := ⟨_, rS.out.m1.cnx q x (by omega) (by omega)⟩
              have fn : w6.frozen? ⟨b7, 2 + q * 3 + x, none⟩ = false := World.rowIs.frozen rS.out.m1 _
              go_wp2
              go_roundw
              case rel => exact ⟨x + 1, _, by omega, by go_num, hid (hM.out.nx (q * 3 + x) 0 (by omega)), (rS.out.f1.setNx hb7.out q x 0 (by omega) (by omega)).f1⟩
              case measure => simp [intOf]; omega
            · go_roundw
              case rel => exact ⟨x + 1, _, by omega, by go_num, hM, rS.out⟩
              case measure => simp [intOf]; omega
        · obtain rfl : x = d := by omega
          by_cases h0 : q = 0
          · have d0 : ((q : Int) == 0) = true := by simp; omega
            replace h0 := hid h0
            cases calm
            · skip
              go_wp2_with (first
                | (go_at_call 132; (with_reducible refine (hN.out _ _ _ (by omega) rS.out).mono ?_); rintro e w6 ⟨r2, rfl, hr2, hS'⟩; replace rS := hid hS'; clear hS'))
              go_loopw [12] (fun i wr => ∃ (k : Nat) (m : Mach), i = .int .i64 k ∧ k ≤ 2 ∧ Hid (MLS m x n) ∧ St w0.heap.size w0 (Asn.src S v l.length :: Asn.mb 27 b7 m :: Asn.mb 27 w.heap.size zeroM :: L) wr) (fun i _ => (intOf i).toNat)
              case atStart => exact ⟨r2, _, rfl, by omega, hM, rS.out⟩
              case round =>
                obtain ⟨k, m, rfl, hk, hM, rS⟩ := hrel
                replace rS := hid rS
                by_cases hk0 : 0 < k
                · have dk : decide ((k : Int) > 0) = true := decide_eq_true (by omega)
                  have mk1 : True := trivial
                  go_upto_region 22 with (first
                    | (go_at_call 132; clear mk1; (with_reducible refine (hN.out _ _ _ (by omega) rS.out).mono ?_); rintro e w7 ⟨y1, rfl, hy1, hS'⟩; replace rS := hid hS'; clear hS')
                    | (go_at_call 132; (with_reducible refine (hN.out _ _ _ (by omega) rS.out).mono ?_); rintro e w8 ⟨y2, rfl, hy2, hS'⟩; replace rS := hid hS'; clear hS'))
                  have q0 : (0 : Int) ≤ (q : Int) := Int.natCast_nonneg _
                  have q16 : (q : Int) < 16 := by omega
                  have x0 : (0 : Int) ≤ (y1 : Int) := Int.natCast_nonneg _
                  have x3 : (y1 : Int) < 3 := by omega
                  have z0 : (0 : Int) ≤ (y2 : Int) := Int.natCast_nonneg _
                  have z3 : (y2 : Int) < 3 := by omega
                  have c1 := rS.out.m1.cot q y1 (by omega) (by omega)
                  have c2 := rS.out.m1.cot q y2 (by omega) (by omega)
                  have ha := (hM.out.1 (q * 3 + y1)).2
                  have hb := (hM.out.1 (q * 3 + y2)).2
                  have f1 : w8.frozen? ⟨b7, 50 + q * 3 + y1, none⟩ = false := World.rowIs.frozen rS.out.m1 _
                  replace rS := hid (rS.out.f1.setOt hb7.out q y1 (m.ot (q * 3 + y2)) (by omega) (by omega)).f1.drew
                  replace hM := hid (hM.out.ot (q * 3 + y1) (m.ot (q * 3 + y2)) hb)
                  generalize m.ot (q * 3 + y1) = a at *
                  generalize m.ot (q * 3 + y2) = b at *
                  go_upto_region 23 with (fail)
                  go_region
                  generalize World.drew _ = w9 at *
                  clear c1 c2 f1
                  obtain ⟨vo, co⟩ : ∃ u, w9.cell? ⟨b7, 50 + q * 3 + y2, none⟩ = some u := ⟨_, rS.out.m1.cot q y2 (by omega) (by omega)⟩
                  have f2 : w9.frozen? ⟨b7, 50 + q * 3 + y2, none⟩ = false := World.rowIs.frozen rS.out.m1 _
                  go_wp2
                  go_roundw
                  case rel => exact ⟨k - 1, _, i64_eq (by omega), by omega, hid (hM.out.ot (q * 3 + y2) a ha), (rS.out.f1.setOt hb7.out q y2 a (by omega) (by omega)).f1⟩
                  case measure => simp [intOf]; omega
                · obtain rfl : k = 0 := by omega
                  go_wp2
                  go_roundw
                  case rel => exact ⟨q + 1, _, by omega, by go_num, hM, rS.out⟩
                  case measure => simp [intOf]; omega
            · go_wp2
              go_loopw [11] (fun i wr => ∃ (y : Nat) (m : Mach), y ≤ x ∧ i = .int .i64 y ∧ Hid (MLS m x n) ∧ St w0.heap.size w0 (Asn.src S v l.length :: Asn.mb 27 b7 m :: Asn.mb 27 w.heap.size zeroM :: L) wr) (fun i _ => x - (intOf i).toNat)
              case atStart => exact ⟨0, _, Nat.zero_le _, rfl, hM, rS.out⟩
              case round =>
                obtain ⟨y, m, hy, rfl, hM, rS⟩ := hrel
                replace rS := hid rS
                by_cases hly : y < x
                · have dy : decide ((y : Int) < (x : Int)) = true := decide_eq_true (by omega)
                  have y0 : (0 : Int) ≤ (y : Int) := Int.natCast_nonneg _
                  have y3 : (y : Int) < 3 := by omega
                  have hst := hid (rS.out.f1.setNx hb7.out 0 y 0 (by omega) (by omega)).f1
                  have hM2 := hid (hM.out.nx (0 * 3 + y) 0 (by omega))
                  obtain ⟨vn, cn⟩ : ∃ u, wr.cell? ⟨b7, 2 + y, none⟩ = some u := ⟨_, rS.out.m1.cnx 0 y (by omega) (by omega)⟩
                  have fn : wr.frozen? ⟨b7, 2 + y, none⟩ = false := World.rowIs.frozen rS.out.m1 _
                  go_wp2
                  go_roundw
                  case rel => exact ⟨y + 1, _, by omega, by go_num, hM2, hst.out⟩
                  case measure => simp [intOf]; omega
                · obtain rfl : y = x := by omega
                  go_wp2
                  go_roundw
                  case rel => exact ⟨q + 1, _, by omega, by go_num, hM, rS.out⟩
                  case measure => simp [intOf]; omega
          · have d0 : ((q : Int) == 0) = false := by simp; omega
            go_wp2_with (first
              | (go_at_call 132; (with_reducible refine (hN.out _ _ _ (by omega) rS.out).mono ?_); rintro e w6 ⟨r2, rfl, hr2, hS'⟩; replace rS := hid hS'; clear hS'))
            go_loopw [12] (fun i wr => ∃ (k : Nat) (m : Mach), i = .int .i64 k ∧ k ≤ 2 ∧ Hid (MLS m x n) ∧ St w0.heap.size w0 (Asn.src S v l.length :: Asn.mb 27 b7 m :: Asn.mb 27 w.heap.size zeroM :: L) wr) (fun i _ => (intOf i).toNat)
            case atStart => exact ⟨r2, _, rfl, by omega, hM, rS.out⟩
            case round =>
              obtain ⟨k, m, rfl, hk, hM, rS⟩ := hrel
              replace rS := hid rS
              by_cases hk0 : 0 < k
              · have dk : decide ((k : Int) > 0) = true := decide_eq_true (by omega)
                have mk1 : True := trivial
                go_upto_region 22 with (first
                  | (go_at_call 132; clear mk1; (with_reducible refine (hN.out _ _ _ (by omega) rS.out).mono ?_); rintro e w7 ⟨y1, rfl, hy1, hS'⟩; replace rS := hid hS'; clear hS')
                  | (go_at_call 132; (with_reducible refine (hN.out _ _ _ (by omega) rS.out).mono ?_); rintro e w8 ⟨y2, rfl, hy2, hS'⟩; replace rS := hid hS'; clear hS'))
                have q0 : (0 : Int) ≤ (q : Int) := Int.natCast_nonneg _
                have q16 : (q : Int) < 16 := by omega
                have x0 : (0 : Int) ≤ (y1 : Int) := Int.natCast_nonneg _
                have x3 : (y1 : Int) < 3 := by omega
                have z0 : (0 : Int) ≤ (y2 : Int) := Int.natCast_nonneg _
                have z3 : (y2 : Int) < 3 := by omega
                have c1 := rS.out.m1.cot q y1 (by omega) (by omega)
                have c2 := rS.out.m1.cot q y2 (by omega) (by omega)
                have ha := (hM.out.1 (q * 3 + y1)).2
                have hb := (hM.out.1 (q * 3 + y2)).2
                have f1 : w8.frozen? ⟨b7, 50 + q * 3 + y1, none⟩ = false := World.rowIs.frozen rS.out.m1 _
                replace rS := hid (rS.out.f1.setOt hb7.out q y1 (m.ot (q * 3 + y2)) (by omega) (by omega)).f1.drew
                replace hM := hid (hM.out.ot (q * 3 + y1) (m.ot (q * 3 + y2)) hb)
                generalize m.ot (q * 3 + y1) = a at *
                generalize m.ot (q * 3 + y2) = b at *
                go_upto_region 23 with (fail)
                go_region
                generalize World.drew _ = w9 at *
                clear c1 c2 f1
                obtain ⟨vo, co⟩ : ∃ u, w9.cell? ⟨b7, 50 + q * 3 + y2, none⟩ = some u := ⟨_, rS.out.m1.cot q y2 (by omega) (by omega)⟩
                have f2 : w9.frozen? ⟨b7, 50 + q * 3 + y2, none⟩ = false := World.rowIs.frozen rS.out.m1 _
                go_wp2
                go_roundw
                case rel => exact ⟨k - 1, _, i64_eq (by omega), by omega, hid (hM.out.ot (q * 3 + y2) a ha), (rS.out.f1.setOt hb7.out q y2 a (by omega) (by omega)).f1⟩
                case measure => simp [intOf]; omega
              · obtain rfl : k = 0 := by omega
                go_wp2
                go_roundw
                case rel => exact ⟨q + 1, _, by omega, by go_num, hM, rS.out⟩
                case measure => simp [intOf]; omega
    · obtain rfl : q = n := by omega
      clear hN
      go_wp2_with (first
        | ((with_reducible refine gate (N := 108) rfl ?_); refine load_mach rfl _ rfl b7 rfl m rS.out.m1 ?_)
        | ((with_reducible refine gateOp (op := .store 27 (.tmp 6) (.tmp 108)) rfl ?_); refine store_mach rfl _ _ rfl w.heap.size rfl m rfl 27 _ rS.out.f2.m0 ?_; intro w9 p3 ho hsz hbl; replace rS := hid (rS.out.f2.setM hle.out p3 ho hbl); clear p3 ho hsz hbl))
      exact ret_mach rfl rfl rS.out.m0 rfl ⟨m, rfl, hM, rS.out.drop.f1.drop⟩
end
end Go.Proofs.Ytbmkkaecfogmoaa

/- What the great laws ask first. -/
namespace Go.Proofs.Ytbmkkaecfogmoaa
open Go.RowKit
set_option linter.unusedVariables false
set_option linter.unusedSimpArgs false

theorem big_any (w : World) (v : Value) (l : List Nat) (hv : ArgB w v l) :
    Calls Try.prog 8 #[v] w fun e w' => e = .returned (.bool (decide (4096 < l.length))) ∧ w = w' := by
  obtain ⟨A, c, rfl, _⟩ := hv
  have e : decide ((4096 : Int) < (l.length : Int)) = decide (4096 < l.length) := decide_eq_decide.2 (by omega)
  generalize l.length = n at *
  go_enter Try.func8, Try.ntmps8
  go_wp2
  go_ret
  exact ⟨by first | rfl | (rw [e]), rfl⟩
end Go.Proofs.Ytbmkkaecfogmoaa
