/- What the proof of FnStates leans on, part 14 of 29. -/
import Derived.Test.YthmcdfjijkecfaaGreatZFnStatesM
import Derived.BigQuiet
import Derived.Laws.Strings
/- Texts joined, in a region that only reads. -/
namespace Go.Proofs.YthmcdfjijkecfaaGreat
open Go.RowKit
set_option linter.unusedVariables false
set_option linter.unusedSimpArgs false

section
variable {ops : Array Oper} {C : World → Prop} {Q : Act → Prop} {a : Act} {o : Oper} {rest : List Oper}
/-- Two texts joined, in a region that only reads. -/
theorem quiet_add (hw : Region.wanted o (yielded ops a.tmps) = true) (x y : Operand) (t t2 : TypeId) (ho : o.op = .binOp .add t x y t2) (s1 s2 : ByteArray) (hx : a.eval x = .string s1) (hy : a.eval y = .string s2) (hs : s1.size + s2.size ≤ 9223372036854775807)
    (h : wpQuiet Tryz.prog ops C Q rest (a.put o.dst (.string (s1 ++ s2)))) : wpQuiet Tryz.prog ops C Q (o :: rest) a :=
  BigFrame.wpQuiet_want hw fun K hK => ⟨.string (s1 ++ s2), fun w _ => by
    have e : (execOp a.eval o).run Tryz.prog w = .ok (.value (.string (s1 ++ s2))) w := by
      unfold execOp
      simp only [ho, hx, hy]
      have e2 : (Op.stringOp .add s1 s2).run Tryz.prog w = .ok (.string (s1 ++ s2)) w := by apply run_string_add_sum; exact hs
      simp [go_sem, e2]
    unfold Oper.quietAt
    rw [e]
    exact ⟨rfl, rfl⟩, hK _ h⟩
end
end Go.Proofs.YthmcdfjijkecfaaGreat

/- The reference's machines with any number of states. -/
namespace Go.Proofs.YthmcdfjijkecfaaGreat
open Go.RowKit
set_option linter.unusedVariables false
set_option linter.unusedSimpArgs false

/-- An element of several cells appended, at a step of a region that draws: it lies in a box. -/
theorem St.stepN {ops : Array Oper} {o : Oper} {act : Act} {W w0 : World} {K : Act → World → Prop} {Q : Exit → Act → World → Prop} {E : Prop} {L : List Asn} {base : Nat} (t e tb : TypeId) (z : Value) (sz bytes : Nat)
    (ht : Tryz.prog.underlying t = some (.slice e)) (hinfo : (Tryz.prog.info? e).map (fun i => (i.zero, i.size, i.bytes)) = some (some z, sz, bytes)) (hz : z.cells.size = sz) (hsz : 0 < sz) (hb : bytes ≤ 64)
    (hgd : o.guard = none) (s x : Operand) (ho : o.op = .call { callee := .builtin .append, args := #[s, x], argTypes := #[t, t] })
    (v : Value) (n : Nat) (cs : List Value) (hs : act.eval s = v) {B : Nat} {news : List Value} (hS : St base w0 (Asn.ownN base e sz v n cs :: Asn.blk B news.toArray tb :: L) W) (hnl : news.length = sz) (hc1 : ∀ u ∈ news, u.oneCell' = true)
    (hx : act.eval x = .slice (some ⟨B, 0, none⟩) 1 1) (hlen : n ≤ 1000000)
    (h : ∀ g cap w', St base w0 (Asn.ownN base e sz (.slice (some ⟨g, 0, none⟩) (n + 1) cap) (n + 1) (cs ++ news) :: Asn.blk B news.toArray tb :: L) w' → K (act.put o.dst (.slice (some ⟨g, 0, none⟩) (n + 1) cap)) w') :
    if Region.wanted o (yielded ops act.tmps) = true then Oper.wp Tryz.prog o act W K Q else E := by
  obtain ⟨i, hi, hz0, hz1, hz2⟩ := info_parts hinfo
  have hw : Region.wanted o (yielded ops act.tmps) = true := by simp [Region.wanted, hgd]
  rw [if_pos hw]
  have hown : OwnN W base e sz v n cs := hS.star.1
  refine wp_append_lies W s x t ho base e i z sz bytes ht hi hz0 hz1 hz2 hz hsz v n cs hs hown ⟨B, 0, none⟩ 1 1 news hx (by rw [hnl, Nat.one_mul])
    (fun j u hu => ?_) hc1 (by omega) (by simp only [maxLen]; omega) (Nat.le_trans (Nat.mul_le_mul_left _ hb) (by omega)) hS.le _ rfl ?_
  · rw [Addr.add_mid, Nat.zero_add, cell_of_row W B j _ _ _ hS.star.2.2.1]
    simpa using hu
  · intro g cap w' h1 h2 h3 h4
    have hold : ∀ k, k < W.heap.size → v.ownBlock ≠ some k → w'.heap[k]? = W.heap[k]? := fun k hk hne => h2.block k hk (fun e => hne e.symm)
    exact h g cap w' (hS.appdN h1 ⟨h2.os, h2.tape, h2.output, h2.size, fun k hk => hold k (by have := hS.le; omega) (fun e => by have := (hown.lt k e).1; omega)⟩ hold (h3.imp id (fun e => Nat.le_of_eq e.symm)))

theorem OwnN.oneCell {w : World} {b e sz n : Nat} {v : Value} {cs : List Value} (h : OwnN w b e sz v n cs) : v.oneCell' = true := by
  rcases h.2 with ⟨rfl, _⟩ | ⟨g, cap, cur, rfl, _⟩ <;> rfl
/-- A struct or an array in a block of its own is handed back. -/
theorem ret_blk {P : Program} {fn : Func} {R : Ending → World → Prop} {a : Act} {w : World} {p ty : Nat} (h : fn.results = #[.cell p ty]) {g t : Nat} {cs : Array Value} {d : TypeDesc}
    (hp : a.tmps.getD p undef = .pointer (some ⟨g, 0, none⟩)) (hb : w.heap[g]? = some (.cells cs t (0, 0))) (hu : P.underlying ty = some d) (hd : (match d with | .struct _ | .array _ _ => true | _ => false) = true)
    (hi : (P.info? ty).map (·.size) = some cs.size) (hdf : a.defers = []) (hR : R (.returned (.agg cs)) w) : bodyPost P fn R .ret a w :=
  bodyPost_ret (results_cell_row h a.tmps w g t _ _ d hp hb hu hd hi) hdf hR

/-- The rows of a function as cells, three a row. -/
def rcs (k : IntKind) (f : Nat → Nat → Nat) (L n : Nat) : List Value := (List.range (n * 3)).map fun p => .int k ((if p % 3 < L then f (p / 3) (p % 3) else 0 : Nat) : Int)
def rc1 (k : IntKind) (f : Nat → Nat → Nat) (L q : Nat) : List Value := (List.range 3).map fun x => .int k ((if x < L then f q x else 0 : Nat) : Int)
theorem rcs_length (k : IntKind) (f : Nat → Nat → Nat) (L n : Nat) : (rcs k f L n).length = n * 3 := by simp [rcs]
theorem rc1_one (k : IntKind) (f : Nat → Nat → Nat) (L q : Nat) : ∀ u ∈ rc1 k f L q, u.oneCell' = true := by
  intro u hu
  obtain ⟨x, _, rfl⟩ := List.mem_map.1 hu
  rfl
theorem rc1_lit (k : IntKind) (f : Nat → Nat → Nat) (L q : Nat) : ∃ a b c : Nat, rc1 k f L q = [.int k (a : Int), .int k (b : Int), .int k (c : Int)] := ⟨_, _, _, rfl⟩
theorem rc1_get (k : IntKind) (f : Nat → Nat → Nat) (L q x : Nat) (hx : x < 3) : (rc1 k f L q)[x]? = some (.int k ((if x < L then f q x else 0 : Nat) : Int)) := by simp [rc1, hx]
theorem rcs_snoc (k : IntKind) (f : Nat → Nat → Nat) (L n : Nat) : rcs k f L (n + 1) = rcs k f L n ++ rc1 k f L n := by
  unfold rcs rc1
  rw [show (n + 1) * 3 = n * 3 + 3 by omega, List.range_add, List.map_append, List.map_map]
  congr 1
  apply List.map_congr_left
  intro x hx
  have hx3 := List.mem_range.1 hx
  simp only [Function.comp]
  rw [show (n * 3 + x) % 3 = x by omega, show (n * 3 + x) / 3 = n by omega]
theorem rcs_get (k : IntKind) (f : Nat → Nat → Nat) (L n q x : Nat) (hq : q < n) (hx : x < 3) : (rcs k f L n)[q * 3 + x]? = some (.int k ((if x < L then f q x else 0 : Nat) : Int)) := by
  unfold rcs
  rw [List.getElem?_map, List.getElem?_range (by omega), Option.map_some, show (q * 3 + x) % 3 = x by omega, show (q * 3 + x) / 3 = q by omega]
theorem rcs_row (k : IntKind) (f : Nat → Nat → Nat) (L n q : Nat) (hq : q < n) : ∀ j, j < (rc1 k f L q).length → (rcs k f L n)[q * 3 + j]? = (rc1 k f L q)[j]? := fun j hj => by
  have hj3 : j < 3 := by simpa [rc1] using hj
  rw [rcs_get k f L n q j hq hj3, rc1_get k f L q j hj3]
theorem rcs_in (k : IntKind) (f : Nat → Nat → Nat) (L n q x : Nat) (hq : q < n) (hx : x < L) (hL : L ≤ 3) : (rcs k f L n)[q * 3 + x]? = some (.int k (f q x : Nat)) := by
  rw [rcs_get k f L n q x hq (by omega), if_pos hx]

theorem info_r3 : (Tryz.prog.info? 185).map (fun i => (i.zero, i.size, i.bytes)) = some (some (.agg #[.int .i64 0, .int .i64 0, .int .i64 0]), 3, 24) := by kernel_rfl
theorem info_b3 : (Tryz.prog.info? 24).map (fun i => (i.zero, i.size, i.bytes)) = some (some (.agg #[.int .u8 0, .int .u8 0, .int .u8 0]), 3, 3) := by kernel_rfl
theorem sz_r3 : (Tryz.prog.info? 185).map (·.size) = some 3 := by kernel_rfl
theorem sz_large : (Tryz.prog.info? 184).map (·.size) = some 3 := by kernel_rfl

/-- A large machine as a value: what it holds. -/
def LG (w : World) (base : Nat) (vN vO : Value) (T : Tab) : Prop :=
  OwnN w base 185 3 vN T.n (rcs .i64 T.nx T.L T.n) ∧ OwnN w base 24 3 vO T.n (rcs .u8 T.ot T.L T.n)
theorem LG.below {w w' : World} {base : Nat} {vN vO : Value} {T : Tab} (h : LG w base vN vO T) (hb : Below w.heap.size w w') : LG w' base vN vO T :=
  ⟨h.1.keep fun k hk => hb.block k (h.1.lt k hk).2, h.2.keep fun k hk => hb.block k (h.2.lt k hk).2⟩

/-- A row that is filled. -/
def fil3 (f : Nat → Nat → Nat) (q x : Nat) : Array Value := #[.int .i64 ((if 0 < x then f q 0 else 0 : Nat) : Int), .int .i64 ((if 1 < x then f q 1 else 0 : Nat) : Int), .int .i64 ((if 2 < x then f q 2 else 0 : Nat) : Int)]
theorem fil3_set (f : Nat → Nat → Nat) (q x : Nat) (hx : x < 3) : (fil3 f q x).setIfInBounds x (.int .i64 (f q x : Nat)) = fil3 f q (x + 1) := by
  have : x = 0 ∨ x = 1 ∨ x = 2 := by omega
  rcases this with rfl | rfl | rfl <;> simp [fil3, Array.setIfInBounds]
theorem fil3_all (f : Nat → Nat → Nat) (q L : Nat) : fil3 f q L = (rc1 .i64 f L q).toArray := rfl
theorem fil3_get (f : Nat → Nat → Nat) (q x j : Nat) (hj : j < 3) : ∃ u, (fil3 f q x)[j]? = some u := ⟨_, Array.getElem?_eq_getElem (by simpa [fil3] using hj)⟩

theorem mf_row {m : Mach} {l s : Nat} (g : Good m l s) (q : Nat) (hq : q < s) : ∀ j, j < 3 → mf m (50 + q * 3 + j) = .int .u8 ((if j < l then (tabOf m l s).ot q j else 0 : Nat) : Int) := fun j hj => by
  rw [mf_ot]
  by_cases h : j < l
  · rw [if_pos h]; rfl
  · rw [if_neg h, (g.z q j (by have := g.s16; omega) hj (fun hh => h hh.2)).2]

end Go.Proofs.YthmcdfjijkecfaaGreat

/- Cycles: divisors, multiples, and what the program and the reference make of a permutation. -/
namespace Go.Proofs.YthmcdfjijkecfaaGreat
open Go.RowKit
set_option linter.unusedVariables false
set_option linter.unusedSimpArgs false
-- @LONG

theorem gcd_step (x y : Nat) : Nat.gcd y (x % y) = Nat.gcd x y := by
  rw [Nat.gcd_comm y (x % y), ← Nat.gcd_rec y x, Nat.gcd_comm]
theorem lcm_step (a b : Nat) : a / Nat.gcd a b * b = Nat.lcm a b := by
  have h := Nat.gcd_mul_lcm a b
  rcases Nat.eq_zero_or_pos (Nat.gcd a b) with h0 | h0
  · have ha := Nat.eq_zero_of_gcd_eq_zero_left h0
    subst ha; simp
  · obtain ⟨c, hc⟩ := Nat.gcd_dvd_left a b
    have h1 : a / Nat.gcd a b = c := by
      conv => lhs; lhs; rw [hc]
      exact Nat.mul_div_cancel_left c h0
    rw [h1]
    have h2 : Nat.gcd a b * Nat.lcm a b = Nat.gcd a b * (c * b) := by
      rw [h, ← Nat.mul_assoc, ← hc]
    exact (Nat.eq_of_mul_eq_mul_left h0 h2).symm
set_option maxHeartbeats 1000000 in
theorem common_any (a b : Nat) (ha : a < 9223372036854775807) (hb : b < 9223372036854775807) (w : World) :
    Calls Tryz.prog 234 #[.int .i64 a, .int .i64 b] w fun e w' => e = .returned (.int .i64 (Nat.gcd a b : Nat)) ∧ ∃ m, w' = w.drewN m := by
  have hst := hid gcd_step
  have hz := hid (fun x => Nat.gcd_zero_right x)
  have hS := hid (show ∃ m, w = w.drewN m from ⟨0, rfl⟩)
  generalize hG : Nat.gcd a b = G at *
  replace hG := hid hG
  go_enter Tryz.func234, Tryz.ntmps234
  go_wp2
  go_loopw [0, 1] (fun x y wr => ∃ i j : Nat, x = .int .i64 i ∧ y = .int .i64 j ∧ i < 9223372036854775807 ∧ j < 9223372036854775807 ∧ Hid (Nat.gcd i j = G) ∧ Hid (∃ m, wr = w.drewN m)) (fun _ y _ => (intOf y).toNat)
  case atStart => exact ⟨a, b, rfl, rfl, ha, hb, hG, hS⟩
  case round =>
    obtain ⟨i, j, rfl, rfl, hi, hj, hg, rS⟩ := hrel
    clear hS hG
    by_cases h0 : j = 0
    · subst h0
      have e := hid (hg.out.symm.trans (hz.out i))
      have d0 : decide (((0 : Nat) : Int) > 0) = false := by decide
      go_wp2
      go_ret
      exact ⟨retI (by rw [e.out]), rS.out⟩
    · have d0 : ((j : Int) != 0) = true := by simp; omega
      have d1 : decide (0 < (j : Int)) = true := decide_eq_true (by omega)
      have dz : ¬ (j : Int) = 0 := by omega
      have m1 : Int.tmod (i : Int) (j : Int) = ((i % j : Nat) : Int) := by rw [Int.tmod_eq_emod_of_nonneg (by omega)]; omega
      have hml := Nat.mod_lt i (show 0 < j by omega)
      have hg2 := hid ((hst.out i j).trans hg.out)
      generalize hr : i % j = r at *
      have m2 : (i : Int) % (j : Int) = (r : Int) := by omega
      replace hr := hid hr
      go_upto_region 2 with (fail)
      go_quiet (fail)
      go_wp2
      go_roundw
      case rel => exact ⟨j, r, rfl, rfl, hj, by omega, hg2, hid (by obtain ⟨m, h⟩ := rS.out; exact ⟨m + nq, by rw [h, drewN_add]⟩)⟩
      case measure => simp [intOf]; omega
set_option maxHeartbeats 1000000 in
theorem l03Divisor_any (a b : Nat) (ha : a < 9223372036854775807) (hb : b < 9223372036854775807) (w : World) :
    Calls Tryz.prog 157 #[.int .i64 a, .int .i64 b] w fun e w' => e = .returned (.int .i64 (Nat.gcd a b : Nat)) ∧ ∃ m, w' = w.drewN m := by
  have hst := hid gcd_step
  have hz := hid (fun x => Nat.gcd_zero_right x)
  have hS := hid (show ∃ m, w = w.drewN m from ⟨0, rfl⟩)
  generalize hG : Nat.gcd a b = G at *
  replace hG := hid hG
  go_enter Tryz.func157, Tryz.ntmps157
  go_wp2
  go_loopw [0, 1] (fun x y wr => ∃ i j : Nat, x = .int .i64 i ∧ y = .int .i64 j ∧ i < 9223372036854775807 ∧ j < 9223372036854775807 ∧ Hid (Nat.gcd i j = G) ∧ Hid (∃ m, wr = w.drewN m)) (fun _ y _ => (intOf y).toNat)
  case atStart => exact ⟨a, b, rfl, rfl, ha, hb, hG, hS⟩
  case round =>
    obtain ⟨i, j, rfl, rfl, hi, hj, hg, rS⟩ := hrel
    clear hS hG
    by_cases h0 : j = 0
    · subst h0
      have e := hid (hg.out.symm.trans (hz.out i))
      have d0 : decide (((0 : Nat) : Int) > 0) = false := by decide
      go_wp2
      go_ret
      exact ⟨retI (by rw [e.out]), rS.out⟩
    · have d0 : ((j : Int) != 0) = true := by simp; omega
      have d1 : decide (0 < (j : Int)) = true := decide_eq_true (by omega)
      have dz : ¬ (j : Int) = 0 := by omega
      have m1 : Int.tmod (i : Int) (j : Int) = ((i % j : Nat) : Int) := by rw [Int.tmod_eq_emod_of_nonneg (by omega)]; omega
      have hml := Nat.mod_lt i (show 0 < j by omega)
      have hg2 := hid ((hst.out i j).trans hg.out)
      generalize hr : i % j = r at *
      have m2 : (i : Int) % (j : Int) = (r : Int) := by omega
      replace hr := hid hr
      go_wp2
      go_roundw
      case rel => exact ⟨j, r, rfl, rfl, hj, by omega, hg2, rS⟩
      case measure => simp [intOf]; omega
set_option maxHeartbeats 1000000 in
theorem l06Divisor_any (a b : Nat) (ha : a < 9223372036854775807) (hb : b < 9223372036854775807) (w : World) :
    Calls Tryz.prog 126 #[.int .i64 a, .int .i64 b] w fun e w' => e = .returned (.int .i64 (Nat.gcd a b : Nat)) ∧ ∃ m, w' = w.drewN m := by
  have hst := hid gcd_step
  have hz := hid (fun x => Nat.gcd_zero_right x)
  have hS := hid (show ∃ m, w = w.drewN m from ⟨0, rfl⟩)
  generalize hG : Nat.gcd a b = G at *
  replace hG := hid hG
  go_enter Tryz.func126, Tryz.ntmps126
  go_wp2
  go_loopw [0, 1] (fun x y wr => ∃ i j : Nat, x = .int .i64 i ∧ y = .int .i64 j ∧ i < 9223372036854775807 ∧ j < 9223372036854775807 ∧ Hid (Nat.gcd i j = G) ∧ Hid (∃ m, wr = w.drewN m)) (fun _ y _ => (intOf y).toNat)
  case atStart => exact ⟨a, b, rfl, rfl, ha, hb, hG, hS⟩
  case round =>
    obtain ⟨i, j, rfl, rfl, hi, hj, hg, rS⟩ := hrel
    clear hS hG
    by_cases h0 : j = 0
    · subst h0
      have e := hid (hg.out.symm.trans (hz.out i))
      have d0 : decide (((0 : Nat) : Int) > 0) = false := by decide
      go_wp2
      go_ret
      exact ⟨retI (by rw [e.out]), rS.out⟩
    · have d0 : ((j : Int) != 0) = true := by simp; omega
      have d1 : decide (0 < (j : Int)) = true := decide_eq_true (by omega)
      have dz : ¬ (j : Int) = 0 := by omega
      have m1 : Int.tmod (i : Int) (j : Int) = ((i % j : Nat) : Int) := by rw [Int.tmod_eq_emod_of_nonneg (by omega)]; omega
      have hml := Nat.mod_lt i (show 0 < j by omega)
      have hg2 := hid ((hst.out i j).trans hg.out)
      generalize hr : i % j = r at *
      have m2 : (i : Int) % (j : Int) = (r : Int) := by omega
      replace hr := hid hr
      go_wp2
      go_roundw
      case rel => exact ⟨j, r, rfl, rfl, hj, by omega, hg2, rS⟩
      case measure => simp [intOf]; omega
set_option maxHeartbeats 1000000 in
theorem multiple_any (a b : Nat) (ha : 0 < a) (hb : 0 < b) (hl : Nat.lcm a b < 1000000000) (w : World) :
    Calls Tryz.prog 196 #[.int .i64 a, .int .i64 b] w fun e w' => e = .returned (.int .i64 (Nat.lcm a b : Nat)) ∧ Below w.heap.size w w' := by
  have h1 := Nat.le_of_dvd (by have := Nat.lcm_pos ha hb; exact this) (Nat.dvd_lcm_left a b)
  have h2 := Nat.le_of_dvd (by have := Nat.lcm_pos ha hb; exact this) (Nat.dvd_lcm_right a b)
  have hc := hid (fun W => common_any a b (by omega) (by omega) W)
  have hg := Nat.gcd_pos_of_pos_left b ha
  have hs := hid (lcm_step a b)
  have hq := Nat.div_le_self a (Nat.gcd a b)
  generalize hG : Nat.gcd a b = G at *
  generalize hL : Nat.lcm a b = L at *
  have dz : ¬ (G : Int) = 0 := by omega
  have m1 : Int.tdiv (a : Int) (G : Int) = ((a / G : Nat) : Int) := by rw [Int.tdiv_eq_ediv_of_nonneg (by omega)]; omega
  have m2 : (a : Int) / (G : Int) = ((a / G : Nat) : Int) := by omega
  generalize a / G = q at *
  have e3 : (q : Int) * (b : Int) = (L : Int) := by rw [← hs.out]; simp
  have ew : IntKind.i64.wrap (q : Int) = q := IntWalk.i64_in _ (by omega)
  have ew2 : IntKind.i64.wrap (L : Int) = L := IntWalk.i64_in _ (by omega)
  have ew3 : wrap64 (L : Int) = L := w64 (by omega) (by omega)
  clear hG hL
  go_enter Tryz.func196, Tryz.ntmps196
  go_wp2_with (first
    | (go_at_call 234; (with_reducible refine (hc.out _).mono ?_); rintro e w1 ⟨rfl, d, rfl⟩; have hB := hid (below_drewN (Below.refl w.heap.size w) d)))
  go_ret
  exact ⟨rfl, hB.out⟩
set_option maxHeartbeats 4000000 in
set_option maxRecDepth 100000 in
theorem l03Cycles_any (w : World) (b0 : Nat) (v : Value) (p : List Nat) (h : Own w b0 2 v (nats p)) (hn : p.length ≤ 1000) (hlt : ∀ x, x < p.length → p.getD x 0 < p.length) :
    Calls Tryz.prog 155 #[v] w fun e w' => ∃ v', e = .returned v' ∧ Own w' w.heap.size 2 v' (nats (cyc p)) ∧ Below w.heap.size w w' := by
  have hil := nats_length p
  obtain ⟨A, cp, rfl, _, hA⟩ := h.form
  rw [hil] at h ⊢
  have hpg := hid (fun (x : Nat) (hx : x < p.length) => (show (nats p)[x]? = some (.int .i64 ((p.getD x 0 : Nat) : Int)) from by simp [nats, List.getD_eq_getElem?_getD, List.getElem?_eq_getElem hx]))
  have hplt := hid (fun (x : Nat) (hx : x < p.length) => hlt x hx)
  have hA2 := hid (fun (hx : 0 < p.length) => (show ∃ gp, A = some ⟨gp, 0, none⟩ from by
    rcases hA with ⟨_, h1, _⟩ | ⟨g, h1, _⟩
    · have : p.length = 0 := by rw [← hil, h1]; rfl
      omega
    · exact ⟨g, h1⟩))
  have hmk := fun W : World => run_make_row' (P := Tryz.prog) 53 4 (.bool false) 1 Tryz.underlying53 info_bool rfl .i64 .i64 p.length (by omega) (by omega) W
  have hmc := hid (toList_madeCells_one (.bool false) p.length)
  generalize madeCells #[.bool false] p.length = mc at *
  have hmcs := hid (show mc.size = p.length by rw [← Array.length_toList, hmc.out, List.length_replicate])
  have hS := (St.arg w h).newArr mc p.length hmcs.out 4 (by omega)
  rw [hmc.out] at hS
  have hrep : List.replicate p.length (Value.bool false) = bls (cyst p 0).1 := by simp [bls, cyst]
  rw [hrep] at hS
  replace hS := hid hS
  have hcl := hid (cyst_len p)
  have hco := hid (cyst_out p)
  have hcs := hid (fun k => (show cyst p (k + 1) = ((crun p (cyst p k).1 k).1, if 0 < (crun p (cyst p k).1 k).2 then (cyst p k).2 ++ [(crun p (cyst p k).1 k).2] else (cyst p k).2) from rfl))
  have hcb := hid (fun k => (show (crun p (cyst p k).1 k).2 ≤ p.length from by have h := crun_le p (cyst p k).1 k; rw [cyst_len] at h; exact h))
  have hseen := hid (fun s a (h : s[a]? = some true) => crun_seen (p := p) h)
  have hnew := hid (fun s a (h : s[a]? = some false) => crun_new (p := p) h)
  have hresult := hid (show (cyst p p.length).2 = cyc p from rfl)
  clear hA hil hlt hrep hmc h
  generalize hN : p.length = N at *
  replace hN := hid hN
  have hS2 := hS.out.newOwn [] 2 (by simp)
  simp only [List.length_nil, heap_alloc_size] at hS2
  replace hS := hid hS2.f1
  clear hS2
  have hs0 := hid (show nats (cyst p 0).2 = [] from rfl)
  go_enter Tryz.func155, Tryz.ntmps155
  go_wp2
  go_loopw [4, 5] (fun o i wr => ∃ (k : Nat) (vo : Value), k ≤ N ∧ i = .int .i64 k ∧ vo = o ∧ St w.heap.size w [Asn.own w.heap.size 4 (.slice (some ⟨w.heap.size, 0, none⟩) N N) (bls (cyst p k).1), Asn.own w.heap.size 2 vo (nats (cyst p k).2), Asn.own 0 2 (.slice A N cp) (nats p)] wr) (fun _ i _ => N - (intOf i).toNat)
  case atStart => exact ⟨0, _, Nat.zero_le _, rfl, rfl, by rw [hs0.out]; exact hS.out⟩
  case round =>
    obtain ⟨k, vo, hk, rfl, rfl, rS⟩ := hrel
    clear hS
    replace rS := hid rS
    by_cases hlk : k < N
    · have dk : decide ((k : Int) < (N : Int)) = true := decide_eq_true (by omega)
      obtain ⟨gp, rfl⟩ := hA2.out (by omega)
      go_wp2
      go_loopw [6, 7] (fun c a wr => ∃ (x C : Nat) (s : List Bool), c = .int .i64 C ∧ a = .int .i64 x ∧ x < N ∧ s.length = N ∧ Hid ((crun p s x).1 = (crun p (cyst p k).1 k).1 ∧ C + (crun p s x).2 = (crun p (cyst p k).1 k).2) ∧ St w.heap.size w [Asn.own w.heap.size 4 (.slice (some ⟨w.heap.size, 0, none⟩) N N) (bls s), Asn.own w.heap.size 2 vo (nats (cyst p k).2), Asn.own 0 2 (.slice (some ⟨gp, 0, none⟩) N cp) (nats p)] wr) (fun c _ _ => (crun p (cyst p k).1 k).2 - (intOf c).toNat)
      case atStart => exact ⟨k, 0, (cyst p k).1, rfl, rfl, hlk, hcl.out k, hid ⟨rfl, Nat.zero_add _⟩, rS.out⟩
      case round =>
        obtain ⟨x, C, s, rfl, rfl, hx, hsl, hr, rS⟩ := hrel
        have x0 : (0 : Int) ≤ (x : Int) := Int.natCast_nonneg _
        have x1 : (x : Int) < (N : Int) := by omega
        have hblen := hid (show (bls s).length = N by rw [bls_length]; exact hsl)
        by_cases hb : s[x]? = some true
        · have cs := rS.o0.cellAt x _ (bls_get hb)
          have hr2 := hr.out
          rw [hseen.out s x hb] at hr2
          obtain ⟨e1, e2⟩ := hr2
          dsimp only at e1 e2
          rw [Nat.add_zero] at e2
          replace e1 := hid e1; replace e2 := hid e2
          clear hb hr
          rw [e1.out] at rS
          replace rS := hid rS
          by_cases hz : 0 < (crun p (cyst p k).1 k).2
          · have hk1 := hid (hcs.out k)
            rw [if_pos hz] at hk1
            have hcb2 := hcb.out k
            have hol := hid (hco.out k)
            have hol2 := hid (nats_length (cyst p k).2)
            have hol3 := hol.out
            generalize hcr : crun p (cyst p k).1 k = R at *
            replace hcr := hid hcr
            have dz : decide (0 < (C : Int)) = true := decide_eq_true (by have := e2.out; omega)
            have dn : decide (0 < C) = true := decide_eq_true (by have := e2.out; omega)
            generalize hq : (cyst p k) = Q at *
            replace hq := hid hq
            go_wp2_with (first
              | ((with_reducible refine gate (N := 38) rfl ?_); refine St.app 32 2 (.int .i64 0) 8 Tryz.underlying32 info_i64 rfl (by omega) rfl _ _ rfl _ _ rfl rS.out.f1 _ rfl rfl Q.2.length hol2.out (by omega) ?_; intro gn cn w5 rS'; replace rS := hid rS'.f1; clear rS'))
            go_roundw
            case rel => exact ⟨k + 1, _, by omega, by go_num, rfl, by rw [hk1.out]; dsimp only; rw [nats_snoc, ← e2.out]; exact rS.out⟩
            case measure => simp [intOf]; omega
          · have hk1 := hid (hcs.out k)
            rw [if_neg hz] at hk1
            generalize hcr : crun p (cyst p k).1 k = R at *
            replace hcr := hid hcr
            have dz : decide (0 < (C : Int)) = false := decide_eq_false (by have := e2.out; omega)
            have dn : decide (0 < C) = false := decide_eq_false (by have := e2.out; omega)
            generalize hq : (cyst p k) = Q at *
            replace hq := hid hq
            go_wp2
            go_roundw
            case rel => exact ⟨k + 1, _, by omega, by go_num, rfl, by rw [hk1.out]; exact rS.out⟩
            case measure => simp [intOf]; omega
        · have hb2 := get_bool (by omega) hb
          have cs := rS.o0.cellAt x _ (bls_get hb2)
          have fs := Own.frozenAt rS.o0 hblen.out x
          have hr2 := hr.out
          rw [hnew.out s x hb2] at hr2
          have hbnd := hcb.out k
          have hpx := hplt.out x hx
          have hcp := hid (hpg.out x hx)
          have hset := hid (bls_set s x true)
          have hsl2 := hid (show (s.set x true).length = N by rw [List.length_set]; exact hsl)
          generalize hS1 : (crun p (cyst p k).1 k).1 = S1 at *
          generalize hC1 : (crun p (cyst p k).1 k).2 = C1 at *
          replace hS1 := hid hS1; replace hC1 := hid hC1
          generalize p.getD x 0 = px at *
          generalize s.set x true = s2 at *
          obtain ⟨e1, e2⟩ := hr2
          dsimp only at e1 e2
          generalize hcr : crun p s2 px = R at *
          replace hcr := hid hcr; replace e1 := hid e1
          clear hb hb2 hr
          replace rS := hid rS
          have mk : True := trivial
          go_wp2_with (first
            | ((with_reducible refine gate (N := 27) rfl ?_); clear mk; replace rS := hid (rS.out.setOwn hblen.out x (.bool true) hx); rw [hset.out] at rS; (have ck := rS.out.o2.cellAt x _ hcp.out); generalize wr.setCell _ _ = wx at *))
          go_roundw
          case rel => exact ⟨px, C + 1, s2, by go_num, rfl, hpx, hsl2.out, hid ⟨by rw [hcr.out]; exact e1.out, by rw [hcr.out]; omega⟩, rS.out⟩
          case measure => simp [intOf]; omega
    · obtain rfl : k = N := by omega
      have dk : decide ((k : Int) < (k : Int)) = false := decide_eq_false (by omega)
      go_wp2
      go_ret
      exact ⟨_, rfl, by rw [← hresult.out]; exact rS.out.o1, rS.out.bel⟩
end Go.Proofs.YthmcdfjijkecfaaGreat
