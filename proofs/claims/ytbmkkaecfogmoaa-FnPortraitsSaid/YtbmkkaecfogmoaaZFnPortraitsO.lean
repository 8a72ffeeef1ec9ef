/- What the proof of FnPortraits leans on, part 15 of 26. -/
import Derived.Test.YtbmkkaecfogmoaaZFnPortraitsN
import Derived.Laws.CopyOwn
/- A block's row anew. -/
namespace Go.Proofs.Ytbmkkaecfogmoaa
open Go.RowKit
set_option linter.unusedVariables false
set_option linter.unusedSimpArgs false

/-- A part that is one block, its row anew. -/
theorem St.setRow {base bn : Nat} {w0 w : World} {L : List Asn} {cs : Array Value} {t : Nat} (h : St base w0 (Asn.blk bn cs t :: L) w) (hb : base ≤ bn) (cs' : Array Value) : St base w0 (Asn.blk bn cs' t :: L) (w.setRow bn cs') :=
  h.turn (a' := Asn.blk bn cs' t) (setRow_heap w bn _ _ t _ h.star.1) (fun k hk => .inl hk) (fun k hk => (show k = bn from hk) ▸ hb) (below_setRow (Below.refl _ _) hb _)
    fun k _ hk => setRow_other w bn k _ hk
end Go.Proofs.Ytbmkkaecfogmoaa

/- Cycles: divisors, multiples, and what the program and the reference make of a permutation. -/
namespace Go.Proofs.Ytbmkkaecfogmoaa
open Go.RowKit
set_option linter.unusedVariables false
set_option linter.unusedSimpArgs false
-- @LONG

theorem gcd_step (x y : Nat) : Nat.gcd y (x % y) = Nat.gcd x y := by
  rw [Nat.gcd_comm y (x % y), ← Nat.gcd_rec y x, Nat.gcd_comm]
theorem lcm_step (a b : Nat) : a / Nat.gcd a b * b = Nat.lcm a b := by
  have h := Nat.gcd_mul_lcm a b
  rcases Nat.eq_zero_or_pos (Nat.gcd a b) with h0 | h0
  · have ha := Nat.eq_zero_of_gcd_eq_zero_left h0
    subst ha; simp
  · obtain ⟨c, hc⟩ := Nat.gcd_dvd_left a b
    have h1 : a / Nat.gcd a b = c := by
      conv => lhs; lhs; rw [hc]
      exact Nat.mul_div_cancel_left c h0
    rw [h1]
    have h2 : Nat.gcd a b * Nat.lcm a b = Nat.gcd a b * (c * b) := by
      rw [h, ← Nat.mul_assoc, ← hc]
    exact (Nat.eq_of_mul_eq_mul_left h0 h2).symm
end Go.Proofs.Ytbmkkaecfogmoaa

/- The reference's machines with any number of states. -/
namespace Go.Proofs.Ytbmkkaecfogmoaa
open Go.RowKit
set_option linter.unusedVariables false
set_option linter.unusedSimpArgs false

/-- An element of several cells appended, at a step of a region that draws: it lies in a box. -/
theorem St.stepN {ops : Array Oper} {o : Oper} {act : Act} {W w0 : World} {K : Act → World → Prop} {Q : Exit → Act → World → Prop} {E : Prop} {L : List Asn} {base : Nat} (t e tb : TypeId) (z : Value) (sz bytes : Nat)
    (ht : Try.prog.underlying t = some (.slice e)) (hinfo : (Try.prog.info? e).map (fun i => (i.zero, i.size, i.bytes)) = some (some z, sz, bytes)) (hz : z.cells.size = sz) (hsz : 0 < sz) (hb : bytes ≤ 64)
    (hgd : o.guard = none) (s x : Operand) (ho : o.op = .call { callee := .builtin .append, args := #[s, x], argTypes := #[t, t] })
    (v : Value) (n : Nat) (cs : List Value) (hs : act.eval s = v) {B : Nat} {news : List Value} (hS : St base w0 (Asn.ownN base e sz v n cs :: Asn.blk B news.toArray tb :: L) W) (hnl : news.length = sz) (hc1 : ∀ u ∈ news, u.oneCell' = true)
    (hx : act.eval x = .slice (some ⟨B, 0, none⟩) 1 1) (hlen : n ≤ 1000000)
    (h : ∀ g cap w', St base w0 (Asn.ownN base e sz (.slice (some ⟨g, 0, none⟩) (n + 1) cap) (n + 1) (cs ++ news) :: Asn.blk B news.toArray tb :: L) w' → K (act.put o.dst (.slice (some ⟨g, 0, none⟩) (n + 1) cap)) w') :
    if Region.wanted o (yielded ops act.tmps) = true then Oper.wp Try.prog o act W K Q else E := by
  obtain ⟨i, hi, hz0, hz1, hz2⟩ := info_parts hinfo
  have hw : Region.wanted o (yielded ops act.tmps) = true := by simp [Region.wanted, hgd]
  rw [if_pos hw]
  have hown : OwnN W base e sz v n cs := hS.star.1
  refine wp_append_lies W s x t ho base e i z sz bytes ht hi hz0 hz1 hz2 hz hsz v n cs hs hown ⟨B, 0, none⟩ 1 1 news hx (by rw [hnl, Nat.one_mul])
    (fun j u hu => ?_) hc1 (by omega) (by simp only [maxLen]; omega) (Nat.le_trans (Nat.mul_le_mul_left _ hb) (by omega)) hS.le _ rfl ?_
  · rw [Addr.add_mid, Nat.zero_add, cell_of_row W B j _ _ _ hS.star.2.2.1]
    simpa using hu
  · intro g cap w' h1 h2 h3 h4
    have hold : ∀ k, k < W.heap.size → v.ownBlock ≠ some k → w'.heap[k]? = W.heap[k]? := fun k hk hne => h2.block k hk (fun e => hne e.symm)
    exact h g cap w' (hS.appdN h1 ⟨h2.os, h2.tape, h2.output, h2.size, fun k hk => hold k (by have := hS.le; omega) (fun e => by have := (hown.lt k e).1; omega)⟩ hold (h3.imp id (fun e => Nat.le_of_eq e.symm)))

theorem OwnN.oneCell {w : World} {b e sz n : Nat} {v : Value} {cs : List Value} (h : OwnN w b e sz v n cs) : v.oneCell' = true := by
  rcases h.2 with ⟨rfl, _⟩ | ⟨g, cap, cur, rfl, _⟩ <;> rfl
/-- A struct or an array in a block of its own is handed back. -/
theorem ret_blk {P : Program} {fn : Func} {R : Ending → World → Prop} {a : Act} {w : World} {p ty : Nat} (h : fn.results = #[.cell p ty]) {g t : Nat} {cs : Array Value} {d : TypeDesc}
    (hp : a.tmps.getD p undef = .pointer (some ⟨g, 0, none⟩)) (hb : w.heap[g]? = some (.cells cs t (0, 0))) (hu : P.underlying ty = some d) (hd : (match d with | .struct _ | .array _ _ => true | _ => false) = true)
    (hi : (P.info? ty).map (·.size) = some cs.size) (hdf : a.defers = []) (hR : R (.returned (.agg cs)) w) : bodyPost P fn R .ret a w :=
  bodyPost_ret (results_cell_row h a.tmps w g t _ _ d hp hb hu hd hi) hdf hR

/-- The rows of a function as cells, three a row. -/
def rcs (k : IntKind) (f : Nat → Nat → Nat) (L n : Nat) : List Value := (List.range (n * 3)).map fun p => .int k ((if p % 3 < L then f (p / 3) (p % 3) else 0 : Nat) : Int)
def rc1 (k : IntKind) (f : Nat → Nat → Nat) (L q : Nat) : List Value := (List.range 3).map fun x => .int k ((if x < L then f q x else 0 : Nat) : Int)
theorem rcs_length (k : IntKind) (f : Nat → Nat → Nat) (L n : Nat) : (rcs k f L n).length = n * 3 := by simp [rcs]
theorem rc1_one (k : IntKind) (f : Nat → Nat → Nat) (L q : Nat) : ∀ u ∈ rc1 k f L q, u.oneCell' = true := by
  intro u hu
  obtain ⟨x, _, rfl⟩ := List.mem_map.1 hu
  rfl
theorem rc1_lit (k : IntKind) (f : Nat → Nat → Nat) (L q : Nat) : ∃ a b c : Nat, rc1 k f L q = [.int k (a : Int), .int k (b : Int), .int k (c : Int)] := ⟨_, _, _, rfl⟩
theorem rc1_get (k : IntKind) (f : Nat → Nat → Nat) (L q x : Nat) (hx : x < 3) : (rc1 k f L q)[x]? = some (.int k ((if x < L then f q x else 0 : Nat) : Int)) := by simp [rc1, hx]
theorem rcs_snoc (k : IntKind) (f : Nat → Nat → Nat) (L n : Nat) : rcs k f L (n + 1) = rcs k f L n ++ rc1 k f L n := by
  unfold rcs rc1
  rw [show (n + 1) * 3 = n * 3 + 3 by omega, List.range_add, List.map_append, List.map_map]
  congr 1
  apply List.map_congr_left
  intro x hx
  have hx3 := List.mem_range.1 hx
  simp only [Function.comp]
  rw [show (n * 3 + x) % 3 = x by omega, show (n * 3 + x) / 3 = n by omega]
theorem rcs_get (k : IntKind) (f : Nat → Nat → Nat) (L n q x : Nat) (hq : q < n) (hx : x < 3) : (rcs k f L n)[q * 3 + x]? = some (.int k ((if x < L then f q x else 0 : Nat) : Int)) := by
  unfold rcs
  rw [List.getElem?_map, List.getElem?_range (by omega), Option.map_some, show (q * 3 + x) % 3 = x by omega, show (q * 3 + x) / 3 = q by omega]
theorem rcs_row (k : IntKind) (f : Nat → Nat → Nat) (L n q : Nat) (hq : q < n) : ∀ j, j < (rc1 k f L q).length → (rcs k f L n)[q * 3 + j]? = (rc1 k f L q)[j]? := fun j hj => by
  have hj3 : j < 3 := by simpa [rc1] using hj
  rw [rcs_get k f L n q j hq hj3, rc1_get k f L q j hj3]
theorem rcs_in (k : IntKind) (f : Nat → Nat → Nat) (L n q x : Nat) (hq : q < n) (hx : x < L) (hL : L ≤ 3) : (rcs k f L n)[q * 3 + x]? = some (.int k (f q x : Nat)) := by
  rw [rcs_get k f L n q x hq (by omega), if_pos hx]

theorem info_r3 : (Try.prog.info? 233).map (fun i => (i.zero, i.size, i.bytes)) = some (some (.agg #[.int .i64 0, .int .i64 0, .int .i64 0]), 3, 24) := by kernel_rfl
theorem info_b3 : (Try.prog.info? 24).map (fun i => (i.zero, i.size, i.bytes)) = some (some (.agg #[.int .u8 0, .int .u8 0, .int .u8 0]), 3, 3) := by kernel_rfl
theorem sz_r3 : (Try.prog.info? 233).map (·.size) = some 3 := by kernel_rfl
theorem sz_large : (Try.prog.info? 232).map (·.size) = some 3 := by kernel_rfl

/-- A large machine as a value: what it holds. -/
def LG (w : World) (base : Nat) (vN vO : Value) (T : Tab) : Prop :=
  OwnN w base 233 3 vN T.n (rcs .i64 T.nx T.L T.n) ∧ OwnN w base 24 3 vO T.n (rcs .u8 T.ot T.L T.n)
theorem LG.below {w w' : World} {base : Nat} {vN vO : Value} {T : Tab} (h : LG w base vN vO T) (hb : Below w.heap.size w w') : LG w' base vN vO T :=
  ⟨h.1.keep fun k hk => hb.block k (h.1.lt k hk).2, h.2.keep fun k hk => hb.block k (h.2.lt k hk).2⟩

/-- A row that is filled. -/
def fil3 (f : Nat → Nat → Nat) (q x : Nat) : Array Value := #[.int .i64 ((if 0 < x then f q 0 else 0 : Nat) : Int), .int .i64 ((if 1 < x then f q 1 else 0 : Nat) : Int), .int .i64 ((if 2 < x then f q 2 else 0 : Nat) : Int)]
theorem fil3_set (f : Nat → Nat → Nat) (q x : Nat) (hx : x < 3) : (fil3 f q x).setIfInBounds x (.int .i64 (f q x : Nat)) = fil3 f q (x + 1) := by
  have : x = 0 ∨ x = 1 ∨ x = 2 := by omega
  rcases this with rfl | rfl | rfl <;> simp [fil3, Array.setIfInBounds]
theorem fil3_all (f : Nat → Nat → Nat) (q L : Nat) : fil3 f q L = (rc1 .i64 f L q).toArray := rfl
theorem fil3_get (f : Nat → Nat → Nat) (q x j : Nat) (hj : j < 3) : ∃ u, (fil3 f q x)[j]? = some u := ⟨_, Array.getElem?_eq_getElem (by simpa [fil3] using hj)⟩

theorem mf_row {m : Mach} {l s : Nat} (g : Good m l s) (q : Nat) (hq : q < s) : ∀ j, j < 3 → mf m (50 + q * 3 + j) = .int .u8 ((if j < l then (tabOf m l s).ot q j else 0 : Nat) : Int) := fun j hj => by
  rw [mf_ot]
  by_cases h : j < l
  · rw [if_pos h]; rfl
  · rw [if_neg h, (g.z q j (by have := g.s16; omega) hj (fun hh => h hh.2)).2]

end Go.Proofs.Ytbmkkaecfogmoaa
