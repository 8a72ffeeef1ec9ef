/- What the proof of FnLevels leans on, part 27 of 28. -/
import Derived.Test.YthmcdfjijkecfaaGreatZFnLevelsZ
import Derived.RangeFuncBox
import Derived.RangeFuncNested
import Derived.RangeFuncBound
import Derived.RangeFuncCalls
import Derived.RangeFuncLeaves
import Derived.Shelf.Abstract
import Derived.Shelf.RegionOpen
import Derived.WalkKit
import Derived.OwnWalkIn
import Derived.TacticsInMore
import Derived.LoopNIn
import Derived.LoopIn
import Derived.Maps.AppendAt
/- slices.Sorted(slices.Values(..)) over []int64. -/
namespace Go.Proofs.YthmcdfjijkecfaaGreat
open Go.RowKit Go.Shelf
set_option linter.unusedVariables false
set_option linter.unusedSimpArgs false

attribute [local go_sem] Oper.semAt_some

/-- What has come when k rounds are over. -/
def upI (zs : List Int) (k : Nat) : List Int := (List.range k).map fun j => zs[j]?.getD 0
theorem upI_succ (zs : List Int) (k : Nat) : upI zs (k + 1) = upI zs k ++ [zs[k]?.getD 0] := by simp [upI, List.range_succ]
theorem upI_length (zs : List Int) (k : Nat) : (upI zs k).length = k := by simp [upI]
theorem upI_take (zs : List Int) {k : Nat} (hk : k ≤ zs.length) : upI zs k = zs.take k := by
  apply List.ext_getElem
  · simp [upI, hk]
  · intro i h1 h2
    have : i < zs.length := by simp [upI] at h1; omega
    simp [upI, this]
/-- A slice value holds numbers, in a block below n₀; or it is nil. -/
def HasI (n₀ : Nat) (W : World) (sv : Value) (zs : List Int) : Prop :=
  (sv = .slice none 0 0 ∧ zs = []) ∨ ∃ b cap, sv = .slice (some ⟨b, 0, none⟩) zs.length cap ∧ b < n₀ ∧ ∀ j, j < zs.length → W.cell? ⟨b, j, none⟩ = some (.int .i64 (zs[j]?.getD 0))
theorem HasI.below {n₀ : Nat} {A B : World} (h : Below n₀ A B) {sv : Value} {zs : List Int} : HasI n₀ A sv zs → HasI n₀ B sv zs
  | .inl e => .inl e
  | .inr ⟨b, cap, e, hb, hc⟩ => .inr ⟨b, cap, e, hb, fun j hj => (h.cell (p := ⟨b, j, none⟩) hb).trans (hc j hj)⟩
set_option maxRecDepth 100000 in
set_option maxHeartbeats 2000000 in
theorem vals1_in (F : Fence) (n : Nat) (hf : F.fn 240) (hro : F.round = none) (hn : 1 ≤ n) (l Bs n₀ b len cap : Nat) (zs : List Int) (hreach : len ≤ 1000000) (hb : b < n₀) (J Jx : List Int → World → Prop)
    (hY : ∀ pre x W, J pre W → pre.length < len → YieldAt F (n - 1) Tryz.prog l #[.int .i64 x] W fun e W' =>
      (e = .returned (.bool true) ∧ J (pre ++ [x]) W' ∧ Below n₀ W W') ∨ (e = .returned (.bool false) ∧ Jx (pre ++ [x]) W'))
    (W : World) (hBs : W.cell? ⟨Bs, 0, none⟩ = some (.slice (some ⟨b, 0, none⟩) len cap)) (hc : ∀ j, j < len → W.cell? ⟨b, j, none⟩ = some (.int .i64 (zs[j]?.getD 0))) (h0 : J [] W) :
    CallsIn F n Tryz.prog 240 #[.func (.yield l) #[] #[], .pointer (some ⟨Bs, 0, none⟩)] W fun e W' => (∃ v, e = .returned v) ∧
      ((∃ ys, ys = upI zs len ∧ J ys W') ∨ (∃ pre, (∃ k, k ≤ len ∧ pre = upI zs k) ∧ Jx pre W')) := by
  refine callsIn_of_wp Tryz.func240 rfl hf ?_ hro
  simp only [Tryz.ntmps240, List.size_toArray, List.length_cons, List.length_nil, Nat.reduceAdd, Nat.reduceSub, Array.replicate_succ, Array.replicate_zero, List.push_toArray, List.append_toArray, List.nil_append, List.cons_append]
  gi_wp2
  gi_loopw [7] (fun i wr => ∃ k : Nat, k ≤ len ∧ i = .int .i64 k ∧ J (upI zs k) wr ∧ Below n₀ W wr)
    (fun i _ => len - (intOf i).toNat)
  case atStart => exact ⟨0, Nat.zero_le _, rfl, h0, Below.refl _ _⟩
  case round =>
    obtain ⟨k, hk, rfl, hJs, hnx⟩ := hrel
    have hcx : k < len → wr.cell? ⟨b, k, none⟩ = some (.int .i64 (zs[k]?.getD 0)) := fun h => (hnx.cell (p := ⟨b, k, none⟩) hb).trans (hc k h)
    by_cases hlt : k < len
    · obtain ⟨fn, tmps, assign, body, hy, hR⟩ := hY _ (zs[k]?.getD 0) wr hJs (by rw [upI_length]; exact hlt)
      have hcx' := hcx hlt
      gi_wp2
      refine hR.mono ?_
      rintro e W3 (⟨rfl, hJ3, hk3⟩ | ⟨rfl, hJx3⟩)
      · gi_wp2
        go_roundw
        case rel => exact ⟨k + 1, by omega, by simp, by rw [upI_succ]; exact hJ3, hnx.trans hk3⟩
        case measure => simp [intOf]; omega
      · gi_wp2
        refine bodyPost_ret (results_none rfl _ _ _) rfl ?_
        exact ⟨⟨_, rfl⟩, .inr ⟨_, ⟨k + 1, by omega, (upI_succ _ _).symm⟩, hJx3⟩⟩
    · obtain rfl : k = len := by omega
      gi_wp2
      go_end0
      exact ⟨⟨_, rfl⟩, .inl ⟨_, rfl, hJs⟩⟩
set_option maxRecDepth 100000 in
set_option maxHeartbeats 1000000 in
theorem vals1_nil_in (F : Fence) (n : Nat) (hf : F.fn 240) (hro : F.round = none) (l Bs : Nat) (J : List Int → World → Prop) (W : World) (hBs : W.cell? ⟨Bs, 0, none⟩ = some (.slice none 0 0)) (h0 : J [] W) :
    CallsIn F n Tryz.prog 240 #[.func (.yield l) #[] #[], .pointer (some ⟨Bs, 0, none⟩)] W fun e W' => (∃ v, e = .returned v) ∧ J [] W' := by
  refine callsIn_of_wp Tryz.func240 rfl hf ?_ hro
  simp only [Tryz.ntmps240, List.size_toArray, List.length_cons, List.length_nil, Nat.reduceAdd, Nat.reduceSub, Array.replicate_succ, Array.replicate_zero, List.push_toArray, List.append_toArray, List.nil_append, List.cons_append]
  gi_wp2
  gi_loopw [7] (fun i wr => i = .int .i64 0 ∧ J [] wr) (fun _ _ => 0)
  case atStart => exact ⟨rfl, h0⟩
  case round =>
    obtain ⟨rfl, hJs⟩ := hrel
    gi_wp2
    go_end0
    exact ⟨⟨_, rfl⟩, hJs⟩
theorem vals_stops (F : Fence) (n : Nat) (hf : F.fn 240) (hro : F.round = none) (hn : 1 ≤ n) (Bs n₀ : Nat) (sv : Value) (zs : List Int) (hreach : zs.length ≤ 1000000) (w : World) (hBs : Bs < w.heap.size) (hn₀ : n₀ ≤ w.heap.size)
    (hc : w.cell? ⟨Bs, 0, none⟩ = some sv) (hI : HasI n₀ w sv zs) :
    SeqStopsK F n Tryz.prog 240 #[.pointer (some ⟨Bs, 0, none⟩)] (fun x : Int => #[Value.int .i64 x]) (Below n₀) (fun ys => ys = zs) (fun pre => pre <+: zs) zs.length w := fun l J Jx W hW _ _ hY h0 => by
  have hc' := (hW.cell (p := ⟨Bs, 0, none⟩) hBs).trans hc
  rcases hI.below (hW.mono hn₀) with ⟨rfl, rfl⟩ | ⟨b, cap, rfl, hb, hcs⟩
  · exact (vals1_nil_in F n hf hro l Bs J W hc' h0).mono fun e W' ⟨he, hj⟩ => ⟨he, .inl ⟨_, rfl, hj⟩⟩
  · refine (vals1_in F n hf hro hn l Bs n₀ b zs.length cap zs hreach hb J Jx hY W hc' hcs h0).mono ?_
    rintro e W' ⟨he, ⟨ys, rfl, hj⟩ | ⟨pre, ⟨k, hk, rfl⟩, hj⟩⟩
    · exact ⟨he, .inl ⟨_, by rw [upI_take zs (Nat.le_refl _), List.take_length], hj⟩⟩
    · exact ⟨he, .inr ⟨_, by rw [upI_take zs hk]; exact List.take_prefix _ _, hj⟩⟩
set_option maxHeartbeats 1000000 in
theorem vals_any (sv : Value) (w : World) (hsv : ∃ a len cap, sv = .slice a len cap) :
    Calls Tryz.prog 206 #[sv] w fun e w' => e = .returned (.func (.func 240) #[] #[.pointer (some ⟨w.heap.size, 0, none⟩)]) ∧ w' = w.alloc (.cells #[sv] 32) := by
  obtain ⟨a, len, cap, rfl⟩ := hsv
  have hmf : ∀ (fn : Fn) (first cap : Array Value) (w : World), (Instr.makeFunc fn first cap).run Tryz.prog w = .ok (.func fn first cap) w := fun _ _ _ _ => rfl
  go_enter Tryz.func206, Tryz.ntmps206
  go_wp2
  go_ret
  exact ⟨rfl, rfl⟩
theorem infoI : (Tryz.prog.info? 2).map (fun i => (i.zero, i.size, i.bytes)) = some (some (.int .i64 0), 1, 8) := by kernel_rfl
set_option maxRecDepth 100000 in
set_option maxHeartbeats 2000000 in
theorem apSeq_in (F : Fence) (n : Nat) (hf : F.fn 265) (hfv : F.fn 240) (hro : F.round = none) (hn : 3 ≤ n) (Bs : Nat) (sv : Value) (zs : List Int) (hlen : zs.length ≤ 1000000) (w : World) (hBs : Bs < w.heap.size) (hc : w.cell? ⟨Bs, 0, none⟩ = some sv) (hI : HasI w.heap.size w sv zs) :
    CallsIn F n Tryz.prog 265 #[.slice none 0 0, .func (.func 240) #[] #[.pointer (some ⟨Bs, 0, none⟩)]] w fun e W' => ∃ v, e = .returned v ∧ W'.ownsRow w.heap.size 2 1 v zs.length (zs.map (Value.int .i64)) ∧ Below w.heap.size w W' := by
  have h1 : 1 ≤ n := by omega
  have hmaxl : 1000001 ≤ maxLen := by simp only [maxLen]; omega
  obtain ⟨i0, hi, hz0, hz1, hz2⟩ := info_parts infoI
  refine callsIn_of_wp_marks Tryz.func265 rfl hf ?_ hro
  simp only [Tryz.ntmps265, List.size_toArray, List.length_cons, List.length_nil, Nat.reduceAdd, Nat.reduceSub, Array.replicate_succ, Array.replicate_zero, List.push_toArray, List.append_toArray, List.nil_append, List.cons_append]
  gi_wp2
  have bO := Boxed.new w 32 (.slice none 0 0)
  have hB0 : Below w.heap.size w (w.alloc (.cells #[.slice none 0 0] 32)) := (Below.refl _ w).alloc (Nat.le_refl _) _
  refine wpIn_rangeFunc_ownG hro h1 (gf := 240) (lb := #[.pointer (some ⟨Bs, 0, none⟩)]) rfl hfv (enters_of Tryz.func240 (by kernel_rfl) rfl)
    (vals_stops F (n - 1) hfv hro (by omega) Bs w.heap.size sv zs hlen _ (by simp; omega) (by simp) ((hB0.cell (p := ⟨Bs, 0, none⟩) hBs).trans hc) (hI.below hB0)) belowK_t (belowK_b (by simp)) (Below.refl _ _) (fun _ => rfl)
    (fun pre W => (∃ v, Boxed W w.heap.size 32 v ∧ W.ownsRow w.heap.size 2 1 v pre.length (pre.map (Value.int .i64)) ∧ True) ∧ Below w.heap.size w W)
    (fun _ _ _ => False)
    (OwnFrom.and (Own.from (holdsRow_own w.heap.size w.heap.size 32 2 1 (fun pre : List Int => pre.length) (fun pre : List Int => pre.map (Value.int .i64)) (fun _ _ => True)) _) (ownFrom_below (Nat.le_refl _) (by simp)))
    (fun _ _ _ _ _ hs _ _ => hs)
    ⟨⟨_, bO, World.ownsRow_nil _ _ _ _, trivial⟩, hB0⟩
    (fun x => { tmps := #[.slice none 0 0, .func (.func 240) #[] #[.pointer (some ⟨Bs, 0, none⟩)], .pointer (some ⟨w.heap.size, 0, none⟩), undef, .slice none 0 0, .int .i64 x, .func (.func 240) #[] #[.pointer (some ⟨Bs, 0, none⟩)], .int .i64 x, undef, undef, undef, undef, undef], defers := [] }) ?assign ?body ?done ?stop
  case assign =>
    intro l x W K hK
    gi_wp2
    exact hK
  case body =>
    rintro l pre x W ⟨⟨v, hv, hrow, _⟩, hB⟩ hlt
    have hc := hv.cell
    gi_wp2_with (gi_at_builtin; refine wpListIn_append_own _ rfl _ _ 32 rfl w.heap.size 2 i0 (.int .i64 0) 1 8 Tryz.underlying32 hi hz0 hz1 hz2 rfl (by decide) _ _ _ rfl (hrow.alloc _) ⟨W.heap.size, 0, none⟩ 1 1 [.int .i64 x] rfl rfl (cell_one_new _ _ _) (by simp [Value.oneCell']) (by omega) (by omega) (by have := hB.size; simp; omega) ?_; intro v' w1 hown' hgrow _; obtain ⟨g', cap', rfl⟩ := ownsRow_succ hown'; obtain ⟨hv1, hv2, hr2, hk2, hb2⟩ := hv.appended (by decide) hrow hB.size (Nat.le_refl _) hown' hgrow; have hc1 := hv1.cell; have hf1 := hv1.frozen)
    exact ⟨hk2.from _, hb2, ⟨_, hv2, by simpa using hr2, trivial⟩, hB.trans hb2⟩
  case done =>
    rintro D ys W hD rfl ⟨⟨v, hv, hrow, _⟩, hB⟩ hK
    have hc := hv.cell
    gi_wp2
    refine ⟨by simp, .inl ⟨_, _, rfl, run_takeDeferred hK, ?_⟩⟩
    exact ⟨_, results_tmp rfl _ _ _, v, rfl, ownsRow_putObj hrow _ hK rfl, hB.trans (belowK_b (w := w) (Nat.le_refl _) W D _ _ (by simp at hD; omega) hK rfl rfl)⟩
  case stop =>
    rintro D c pre W _ _ h _
    exact h.elim
theorem apSeq_any (Bs : Nat) (sv : Value) (zs : List Int) (hlen : zs.length ≤ 1000000) (w : World) (hBs : Bs < w.heap.size) (hc : w.cell? ⟨Bs, 0, none⟩ = some sv) (hI : HasI w.heap.size w sv zs) :
    Calls Tryz.prog 265 #[.slice none 0 0, .func (.func 240) #[] #[.pointer (some ⟨Bs, 0, none⟩)]] w fun e w' => ∃ v, e = .returned v ∧ Own w' w.heap.size 2 v (ints zs) ∧ Below w.heap.size w w' :=
  ((callsIn_wide (n := 3)).1 (apSeq_in Fence.wide 3 trivial trivial rfl (by omega) Bs sv zs hlen w hBs hc hI)).mono fun e w' ⟨v, h1, h2, h3⟩ => ⟨v, h1, by
    unfold Own
    rw [ints_length]
    exact h2, h3⟩
set_option maxHeartbeats 1000000 in
theorem collect_any (Bs : Nat) (sv : Value) (zs : List Int) (hlen : zs.length ≤ 1000000) (w : World) (hBs : Bs < w.heap.size) (hc : w.cell? ⟨Bs, 0, none⟩ = some sv) (hI : HasI w.heap.size w sv zs) :
    Calls Tryz.prog 239 #[.func (.func 240) #[] #[.pointer (some ⟨Bs, 0, none⟩)]] w fun e w' => ∃ v, e = .returned v ∧ Own w' w.heap.size 2 v (ints zs) ∧ Below w.heap.size w w' := by
  have ha := hid (apSeq_any Bs sv zs hlen w hBs hc hI)
  replace hI := hid hI
  go_enter Tryz.func239, Tryz.ntmps239
  go_wp2_with (first
    | (go_at_call 265; (with_reducible refine (ha.out).mono ?_); rintro e w1 ⟨v, rfl, hO, hb⟩; replace hO := hid hO; replace hb := hid hb))
  go_ret
  exact ⟨v, rfl, hO.out, hb.out⟩
set_option maxHeartbeats 1000000 in
theorem sorted_any (Bs : Nat) (sv : Value) (zs : List Int) (hlen : zs.length < 1000000) (w : World) (hBs : Bs < w.heap.size) (hc : w.cell? ⟨Bs, 0, none⟩ = some sv) (hI : HasI w.heap.size w sv zs) :
    Calls Tryz.prog 205 #[.func (.func 240) #[] #[.pointer (some ⟨Bs, 0, none⟩)]] w fun e w' => ∃ v, e = .returned v ∧ Own w' w.heap.size 2 v (ints (srt zs)) ∧ Below w.heap.size w w' := by
  have ha := hid (collect_any Bs sv zs (by omega) w hBs hc hI)
  replace hI := hid hI
  have hS := hid (St.start w)
  have hsrt := hid (fun W (vo : Value) (L : List Asn) (hS : St w.heap.size w (Asn.own w.heap.size 2 vo (ints zs) :: L) W) => slSort_st hS hlen)
  go_enter Tryz.func205, Tryz.ntmps205
  go_wp2_with (first
    | (go_at_call 239; (with_reducible refine (ha.out).mono ?_); rintro e w1 ⟨v, rfl, hO, hb⟩; replace hS := hid (hS.out.callOwn hb hO); clear hO hb)
    | (go_at_call 197; (with_reducible refine (hsrt.out _ _ _ hS.out).mono ?_); rintro e w2 ⟨rfl, rS'⟩; replace hS := hid rS'; clear rS' hsrt))
  go_ret
  exact ⟨v, rfl, hS.out.o0, hS.out.bel⟩
end Go.Proofs.YthmcdfjijkecfaaGreat

/- Orbits of a level: the program. -/
namespace Go.Proofs.YthmcdfjijkecfaaGreat
open Go.RowKit
set_option linter.unusedVariables false
set_option linter.unusedSimpArgs false
-- @LONG

def mkAll (s : List Bool) (o : List Nat) : List Bool := o.foldl (fun s x => s.set x true) s
theorem mkAll_len (o : List Nat) : ∀ s, (mkAll s o).length = s.length := by
  induction o with
  | nil => intro s; rfl
  | cons x o ih => intro s; show (mkAll (s.set x true) o).length = _; rw [ih, List.length_set]
theorem mkAll_snoc (s : List Bool) (o : List Nat) (x : Nat) : mkAll s (o ++ [x]) = (mkAll s o).set x true := by simp [mkAll]
theorem mkAll_take {s : List Bool} {o : List Nat} {j x : Nat} (h : o[j]? = some x) : mkAll s (o.take (j + 1)) = (mkAll s (o.take j)).set x true := by
  rw [List.take_add_one, h]; exact mkAll_snoc _ _ _
/-- The words that a tree reaches. -/
def orbT (far : List Int) (n : Nat) : List Nat := (List.range n).filter fun i => decide (0 ≤ far.getD i 0)
def natI (l : List Nat) : List Int := l.map Int.ofNat
theorem natI_length (l : List Nat) : (natI l).length = l.length := by simp [natI]
/-- What is met, and the orbits, before k. -/
def orbS (f : Nat → List Nat) (n : Nat) : Nat → List Bool × List (List Int)
  | 0 => (List.replicate n false, [])
  | k + 1 => if (orbS f n k).1.getD k false = true then orbS f n k else (mkAll (orbS f n k).1 (f k), (orbS f n k).2 ++ [natI (f k)])
theorem orbS_len (f : Nat → List Nat) (n : Nat) : ∀ k, (orbS f n k).1.length = n
  | 0 => by simp [orbS]
  | k + 1 => by
    rw [orbS]
    split
    · exact orbS_len f n k
    · show (mkAll _ _).length = n; rw [mkAll_len]; exact orbS_len f n k
theorem orbS_out (f : Nat → List Nat) (n : Nat) : ∀ k, (orbS f n k).2.length ≤ k
  | 0 => by simp [orbS]
  | k + 1 => by
    have := orbS_out f n k
    rw [orbS]
    split
    · omega
    · simp; omega
theorem orbS_rows {f : Nat → List Nat} {n b : Nat} (h : ∀ k, k < n → (f k).length ≤ b) : ∀ k, k ≤ n → ∀ r ∈ (orbS f n k).2, r.length ≤ b
  | 0, _, r, hr => by simp [orbS] at hr
  | k + 1, hk, r, hr => by
    rw [orbS] at hr
    split at hr
    · exact orbS_rows h k (by omega) r hr
    · rcases List.mem_append.1 hr with hr | hr
      · exact orbS_rows h k (by omega) r hr
      · rw [List.mem_singleton.1 hr, natI_length]; exact h k (by omega)
theorem orbS_met {f : Nat → List Nat} {n k : Nat} (h : (orbS f n k).1[k]? = some true) : orbS f n (k + 1) = orbS f n k := by
  rw [orbS, if_pos (by rw [List.getD_eq_getElem?_getD, h]; rfl)]
theorem orbS_new {f : Nat → List Nat} {n k : Nat} (h : (orbS f n k).1[k]? = some false) : orbS f n (k + 1) = (mkAll (orbS f n k).1 (f k), (orbS f n k).2 ++ [natI (f k)]) := by
  rw [orbS, if_neg (by rw [List.getD_eq_getElem?_getD, h]; exact Bool.false_ne_true)]
theorem orbT_lt {far : List Int} {n : Nat} : ∀ x ∈ orbT far n, x < n := fun x hx => List.mem_range.1 (List.mem_filter.1 hx).1
theorem orbT_len (far : List Int) (n : Nat) : (orbT far n).length ≤ n := Nat.le_trans (List.length_filter_le _ _) (by simp)
theorem orbT_srt {n : Nat} {t : Tr} (h : TrOk n t) : srt (natI t.q) = natI (orbT t.far n) := by
  have hmem : ∀ x, x ∈ orbT t.far n ↔ x ∈ t.q := fun x => by
    unfold orbT
    rw [List.mem_filter, List.mem_range]
    constructor
    · rintro ⟨hx, hd⟩
      have hg : t.far[x]? = some (t.far.getD x 0) := by rw [List.getD_eq_getElem?_getD, List.getElem?_eq_getElem (by rw [h.fl]; exact hx)]; rfl
      have hd' : 0 ≤ t.far.getD x 0 := of_decide_eq_true hd
      rcases h.fb x _ hg with ⟨h1, _⟩ | ⟨h1, _⟩
      · omega
      · exact h1
    · intro hx
      have hb := h.qb x hx
      have hg : t.far[x]? = some (t.far.getD x 0) := by rw [List.getD_eq_getElem?_getD, List.getElem?_eq_getElem (by rw [h.fl]; exact hb)]; rfl
      refine ⟨hb, decide_eq_true ?_⟩
      rcases h.fb x _ hg with ⟨_, h1⟩ | ⟨_, h1, _⟩
      · exact absurd hx h1
      · exact h1
  have hnd : (orbT t.far n).Nodup := List.Nodup.sublist List.filter_sublist List.nodup_range
  have hp : (orbT t.far n).Perm t.q := (List.perm_ext_iff_of_nodup hnd h.nd).2 hmem
  have hs : (natI (orbT t.far n)).Pairwise (· ≤ ·) := by
    unfold natI
    rw [List.pairwise_map]
    have h1 : (List.range n).Pairwise fun a b => Int.ofNat a ≤ Int.ofNat b := List.pairwise_lt_range.imp fun h => by simp only [Int.ofNat_eq_natCast]; omega
    exact h1.filter _
  exact (srt_eq (hp.map _) hs).symm
theorem hasI_of_own {w : World} {b0 : Nat} {v : Value} {l : List Int} (h : Own w b0 2 v (ints l)) : HasI w.heap.size w v l := by
  obtain ⟨A, c, rfl, _, hA⟩ := h.form
  rw [ints_length] at *
  rcases hA with ⟨rfl, he, rfl⟩ | ⟨g, rfl, _, hlt, hc⟩
  · have e : l = [] := by cases l with
      | nil => rfl
      | cons a t => simp [ints] at he
    subst e
    exact .inl ⟨rfl, rfl⟩
  · refine .inr ⟨g, c, rfl, hlt, fun j hj => ?_⟩
    have hx : l[j]? = some l[j] := List.getElem?_eq_getElem hj
    rw [hx]
    exact hc j _ (by simp [ints, hx])
theorem St.nilMat {base : Nat} {w0 w : World} {L : List Asn} (h : St base w0 L w) : St base w0 (Asn.mat base (.slice none 0 0) [] [] :: L) w :=
  h.push (a := Asn.mat base (.slice none 0 0) [] []) ⟨Own.nil _ _ _, rfl, fun i r l hr => by simp at hr⟩ fun k hk => by
    rcases hk with hk | ⟨r, hr, _⟩
    · simp [Value.ownBlock] at hk
    · cases hr
theorem sortedVals (W : World) (b0 : Nat) (vq : Value) (zs : List Int) (hO : Own W b0 2 vq (ints zs)) (hl : zs.length < 1000000) :
    Calls Tryz.prog 205 #[.func (.func 240) #[] #[.pointer (some ⟨W.heap.size, 0, none⟩)]] (W.alloc (.cells #[vq] 32)) fun e w' => ∃ v, e = .returned v ∧ Own w' (W.alloc (.cells #[vq] 32)).heap.size 2 v (ints (srt zs)) ∧ Below (W.alloc (.cells #[vq] 32)).heap.size (W.alloc (.cells #[vq] 32)) w' := by
  have hc : (W.alloc (.cells #[vq] 32)).cell? ⟨W.heap.size, 0, none⟩ = some vq := cell_of_row _ _ 0 _ _ _ (World.alloc_heap_new W _)
  have hlt : W.heap.size < (W.alloc (.cells #[vq] 32)).heap.size := by rw [heap_alloc_size]; omega
  have hB : Below W.heap.size W (W.alloc (.cells #[vq] 32)) := below_alloc (Below.refl _ _) (Nat.le_refl _) _
  exact sorted_any W.heap.size vq zs hl _ hlt hc (hasI_of_own (hO.below hB))
/-- No two rows share a block. -/
def Dj (rows : List Value) : Prop := rows.Pairwise fun r r' => ∀ k, r.ownBlock = some k → r'.ownBlock ≠ some k
theorem St.djSnoc {base t : Nat} {w0 w : World} {L : List Asn} {v r : Value} {rows : List Value} {M : List (List Int)} {cs : List Value} (h : St base w0 (Asn.mat base v rows M :: Asn.own base t r cs :: L) w) (hd : Dj rows) : Dj (rows ++ [r]) := by
  unfold Dj
  rw [List.pairwise_append]
  refine ⟨hd, List.pairwise_singleton _ _, fun a ha b hb k hk hk' => ?_⟩
  rw [List.mem_singleton.1 hb] at hk'
  exact h.star.2.1 k (.inr ⟨a, ha, hk⟩) (.inl hk')
/-- A slice of slices, its rows apart. -/
def MatD (w : World) (base : Nat) (v : Value) (M : List (List Int)) : Prop := ∃ rows, (Asn.mat base v rows M).holds w ∧ Dj rows
theorem MatD.mat {w : World} {base : Nat} {v : Value} {M : List (List Int)} (h : MatD w base v M) : Mat w base v M := h.elim fun _ h => Asn.toMat h.1
theorem MatD.mono {w : World} {base b' : Nat} {v : Value} {M : List (List Int)} (h : MatD w base v M) (hb : b' ≤ base) : MatD w b' v M := by
  obtain ⟨rows, ⟨h1, h2, h3⟩, hd⟩ := h
  exact ⟨rows, ⟨h1.mono hb, h2, fun i r l hr hl => (h3 i r l hr hl).mono hb⟩, hd⟩
set_option maxHeartbeats 4000000 in
set_option maxRecDepth 100000 in
theorem orbits_any (w : World) (G n s : Nat) (vA vB : Value) (A B : List (List Int)) (hG : GB w G n vA vB A B) (hf : Few n) (hA : A.length = s) (hB : B.length = s) (h1 : 1 ≤ s) (h16 : s ≤ 16) (T : Nat → Nat → Nat)
    (hTA : ∀ p, p < s → ∃ row, A[p]? = some row ∧ row.length = n ∧ ∀ i, i < n → row[i]? = some ((T p i : Nat) : Int)) (hTB : ∀ p, p < s → ∃ row, B[p]? = some row ∧ row.length = n ∧ ∀ i, i < n → row[i]? = some ((T (s + p) i : Nat) : Int))
    (hT : ∀ j fr, j < 2 * s → fr < n → T j fr < n) (hn : n ≤ 243) :
    Calls Tryz.prog 115 #[.pointer (some ⟨G, 0, none⟩)] w fun e w' => ∃ v, e = .returned v ∧ MatD w' w.heap.size v (orbS (fun k => orbT (treeT T s n k).far n) n n).2 ∧ Below w.heap.size w w' := by
  have htr := hid (fun k (hk : k < n) W (hW : Below w.heap.size w W) => tree_any W G n s k vA vB A B (hG.below hW) hf hk hA hB h1 h16 T hTA hTB hT)
  have hok := hid (fun k (hk : k < n) => (show TrOk n (treeT T s n k) from growT_ok hk hT _))
  have hsq := hid (fun k (hk : k < n) => orbT_srt (hok.out k hk))
  have hql := hid (fun k (hk : k < n) => (hok.out k hk).ql)
  have hmk := fun W : World => run_make_row' (P := Tryz.prog) 53 4 (.bool false) 1 Tryz.underlying53 info_bool rfl .i64 .i64 n (by omega) (by omega) W
  have hmc := hid (toList_madeCells_one (.bool false) n)
  generalize madeCells #[.bool false] n = mc at *
  have hmcs := hid (show mc.size = n by rw [← Array.length_toList, hmc.out, List.length_replicate])
  have hS := (St.start w).newArr mc n hmcs.out 4 (by omega)
  rw [hmc.out] at hS
  obtain ⟨f, hfd⟩ : ∃ f : Nat → List Nat, f = fun k => orbT (treeT T s n k).far n := ⟨_, rfl⟩
  have hfe := hid (fun k => (show orbT (treeT T s n k).far n = f k by rw [hfd]))
  have hflt := hid (fun k x (hx : x ∈ f k) => (show x < n from by rw [← hfe.out k] at hx; exact orbT_lt x hx))
  have hfl := hid (fun k => (show (f k).length ≤ n from by rw [← hfe.out k]; exact orbT_len _ _))
  simp only [hfe.out] at hsq ⊢
  rw [show (fun k => f k) = f from rfl]
  clear hfd hfe
  have hrep : List.replicate n (Value.bool false) = bls (orbS f n 0).1 := by simp [bls, orbS]
  rw [hrep] at hS
  have hS0 := hid (show Asn.mat w.heap.size (.slice none 0 0) [] [] = Asn.mat w.heap.size (.slice none 0 0) [] (orbS f n 0).2 from rfl)
  replace hS := hid hS.nilMat
  rw [hS0.out] at hS
  have hsl := hid (orbS_len f n)
  have hso := hid (orbS_out f n)
  have hmet := hid (fun k (h : (orbS f n k).1[k]? = some true) => orbS_met h)
  have hnew := hid (fun k (h : (orbS f n k).1[k]? = some false) => orbS_new h)
  have c0 := hid (fun W (hW : Below w.heap.size w W) => (hG.below hW).c0)
  have cG := hG.c0
  have cG2 := ((hG.below ((Below.refl _ w).alloc (Nat.le_refl _) (.cells mc 4))).c0)
  clear hrep hmc hG hTA hTB hT hS0
  go_enter Tryz.func115, Tryz.ntmps115
  go_wp2
  go_loopw [4, 18] (fun o i wr => ∃ (k : Nat) (vo : Value) (rows : List Value), k ≤ n ∧ i = .int .i64 k ∧ vo = o ∧ Hid (Dj rows) ∧ St w.heap.size w [Asn.mat w.heap.size vo rows (orbS f n k).2, Asn.own w.heap.size 4 (.slice (some ⟨w.heap.size, 0, none⟩) n n) (bls (orbS f n k).1)] wr) (fun _ i _ => n - (intOf i).toNat)
  case atStart => exact ⟨0, _, _, Nat.zero_le _, rfl, rfl, hid List.Pairwise.nil, hS.out⟩
  case round =>
    obtain ⟨k, vo, rows, hk, rfl, rfl, hDj, rS⟩ := hrel
    clear hS cG cG2
    have hob := hid rS.bel
    replace rS := hid rS
    by_cases hlk : k < n
    · have dk : decide ((k : Int) < (n : Int)) = true := decide_eq_true (by omega)
      have k0 : (0 : Int) ≤ (k : Int) := Int.natCast_nonneg _
      have k1 : (k : Int) < (n : Int) := by omega
      by_cases hm : (orbS f n k).1[k]? = some true
      · have ck := rS.out.o1.cellAt k _ (bls_get hm)
        have hs2 := hid (hmet.out k hm)
        clear hm
        go_wp2
        go_roundw
        case rel => exact ⟨k + 1, _, _, by omega, by go_num, rfl, hDj, by rw [hs2.out]; exact rS.out⟩
        case measure => simp [intOf]; omega
      · have hm2 := get_bool (by rw [hsl.out]; omega) hm
        have ck := rS.out.o1.cellAt k _ (bls_get hm2)
        have hs2 := hid (hnew.out k hm2)
        have htk := hid (htr.out k hlk _ hob.out)
        have hsqk := hid (hsq.out k hlk)
        have hqk := hid (hql.out k hlk)
        have hok2 := hso.out k
        have hnl := hid (natI_length (f k))
        have hfn := hfl.out k
        have hrlt := hid (hflt.out k)
        clear hm hm2
        generalize treeT T s n k = t at *
        generalize hst : (orbS f n k).1 = sn at *
        generalize hos : (orbS f n k).2 = os at *
        have hsl2 := hid (show sn.length = n from by rw [← hst]; exact hsl.out k)
        replace hst := hid hst; replace hos := hid hos
        generalize f k = O at *
        go_upto_region 8 with (first
          | (go_at_call 111; (with_reducible refine (htk.out).mono ?_); rintro e w4 ⟨bt, gf, gw, vq, rws, rfl, hT⟩; (have q1 := (show w4.cell? ⟨bt, 0, none⟩ = some vq from cell_of_row _ _ 0 _ _ _ hT.k0)); (have hO := hT.o1); rw [nats_ints] at hO; (have hvq := hid (fun W => vals_any vq W (by obtain ⟨A, c, e, _⟩ := hO.form; exact ⟨_, _, _, e⟩))); (have hso2 := hid (sortedVals w4 _ vq (natI t.q) hO (by rw [natI_length]; have := hqk.out; omega))); rw [hsqk.out] at hso2; clear hO; replace rS := hid (rS.out.outer hT); clear hT)
          | (go_at_call 206; (with_reducible refine (hvq.out _).mono ?_); rintro e w5 ⟨rfl, rfl⟩; replace rS := hid (rS.out.alloc (.cells #[vq] 32)))
          | (go_at_call 205; (with_reducible refine (hso2.out).mono ?_); rintro e w6 ⟨v6, rfl, hO6, hb⟩; replace rS := hid (rS.out.callOwn hb hO6); clear hO6 hb hso2 hvq q1))
        obtain ⟨A6, c6, rfl, _, hA6⟩ := rS.out.o0.form
        rw [ints_length, hnl.out] at rS ⊢
        replace rS := hid (show St w.heap.size w [Asn.own w.heap.size 4 (.slice (some ⟨w.heap.size, 0, none⟩) n n) (bls (mkAll sn (O.take 0))), Asn.own w.heap.size 2 (.slice A6 O.length c6) (ints (natI O)), Asn.mat w.heap.size vo rows os] w6 from rS.out.f2)
        replace hA6 := hid hA6
        generalize hOl : O.length = no at *
        go_wp2
        go_loopw [35] (fun i wi => ∃ j : Nat, j ≤ no ∧ i = .int .i64 j ∧ St w.heap.size w [Asn.own w.heap.size 4 (.slice (some ⟨w.heap.size, 0, none⟩) n n) (bls (mkAll sn (O.take j))), Asn.own w.heap.size 2 (.slice A6 no c6) (ints (natI O)), Asn.mat w.heap.size vo rows os] wi) (fun i _ => no - (intOf i).toNat)
        case atStart => exact ⟨0, Nat.zero_le _, rfl, rS.out⟩
        case round =>
          obtain ⟨j, hj, rfl, zS⟩ := hrel
          clear rS
          replace zS := hid zS
          by_cases hlj : j < no
          · have dj : decide ((j : Int) < (no : Int)) = true := decide_eq_true (by omega)
            obtain ⟨g6, rfl⟩ : ∃ g, A6 = some ⟨g, 0, none⟩ := by
              rcases hA6.out with ⟨_, h1, _⟩ | ⟨g, h1, _⟩
              · have : (ints (natI O)).length = 0 := by rw [h1]; rfl
                rw [ints_length, natI_length] at this
                omega
              · exact ⟨g, h1⟩
            obtain ⟨x, hx⟩ : ∃ x, O[j]? = some x := ⟨_, List.getElem?_eq_getElem (by rw [hOl]; exact hlj)⟩
            have cx := zS.out.o1.cellAt j (.int .i64 ((x : Nat) : Int)) (by simp [ints, natI, hx])
            have hxn := hrlt.out x (List.mem_of_getElem? hx)
            have hstp := hid (mkAll_take (s := sn) hx)
            have x0 : (0 : Int) ≤ (x : Int) := Int.natCast_nonneg _
            have x1 : (x : Int) < (n : Int) := by omega
            have hbl := hid (show (bls (mkAll sn (O.take j))).length = n by rw [bls_length, mkAll_len]; exact hsl2.out)
            have fs := Own.frozenAt zS.out.o0 hbl.out x
            obtain ⟨bb, hbb⟩ : ∃ b, (mkAll sn (O.take j))[x]? = some b := ⟨_, List.getElem?_eq_getElem (by rw [mkAll_len, hsl2.out]; exact hxn)⟩
            have cbb := zS.out.o0.cellAt x _ (bls_get hbb)
            clear hbb
            have hset := hid (bls_set (mkAll sn (O.take j)) x true)
            clear hx
            go_wp2
            replace zS := hid (zS.out.setOwn hbl.out x (.bool true) hxn)
            rw [hset.out, ← hstp.out] at zS
            go_roundw
            case rel => exact ⟨j + 1, by omega, by go_num, zS.out⟩
            case measure => simp [intOf]; omega
          · obtain rfl : no = j := by omega
            have dj : decide ((no : Int) < (no : Int)) = false := decide_eq_false (by omega)
            have htk2 := hid (show O.take no = O from by rw [← hOl]; exact List.take_length)
            rw [htk2.out] at zS
            have hDj2 := hid (zS.out.b2.f1.djSnoc hDj.out)
            go_wp2_with (first
              | ((with_reducible refine gate (N := 46) rfl ?_); refine St.appM rfl _ _ rfl _ _ rows os (natI O) rfl zS.out.b2.f1 rfl _ rfl (by omega) ?_; intro gn cn w7 zS'; replace zS := hid zS'; clear zS'))
            go_roundw
            case rel => exact ⟨k + 1, _, _, by omega, by go_num, rfl, hDj2, by rw [hs2.out]; exact zS.out⟩
            case measure => simp [intOf]; omega
    · obtain rfl : k = n := by omega
      have dk : decide ((k : Int) < (k : Int)) = false := decide_eq_false (by omega)
      go_wp2
      go_ret
      exact ⟨_, rfl, ⟨_, rS.out.g0, hDj.out⟩, rS.out.bel⟩
end Go.Proofs.YthmcdfjijkecfaaGreat

/- Orbits of a level: the reference. -/
namespace Go.Proofs.YthmcdfjijkecfaaGreat
open Go.RowKit
set_option linter.unusedVariables false
set_option linter.unusedSimpArgs false
-- @LONG

theorem orbT_take {far : List Int} {j : Nat} : orbT far (j + 1) = if 0 ≤ far.getD j 0 then orbT far j ++ [j] else orbT far j := by
  unfold orbT
  rw [List.range_succ, List.filter_append]
  split
  · rename_i h; simp only [List.filter_cons, List.filter_nil, decide_eq_true h, if_true]
  · rename_i h; simp only [List.filter_cons, List.filter_nil, decide_eq_false h]; simp
theorem natI_snoc (l : List Nat) (x : Nat) : natI (l ++ [x]) = natI l ++ [(x : Int)] := by simp [natI]
set_option maxHeartbeats 8000000 in
set_option maxRecDepth 100000 in
theorem l05Orbits_any (w : World) (m : Mach) (l s : Nat) (gd : Good m l s) (b0 : Nat) (v : Value) (M : List (List Int)) (hM : Mat w b0 v M) (hMl : M.length = 2 * s) (n : Nat) (hn : n ≤ 243) (T : Nat → Nat → Nat)
    (hTM : ∀ p, p < 2 * s → ∃ row, M[p]? = some row ∧ row.length = n ∧ ∀ i, i < n → row[i]? = some ((T p i : Nat) : Int)) (hT : ∀ j fr, j < 2 * s → fr < n → T j fr < n) :
    Calls Tryz.prog 121 #[.agg (mcells m), v] w fun e w' => ∃ v', e = .returned v' ∧ Mat w' w.heap.size v' (orbS (fun k => orbT (treeT T s n k).far n) n n).2 ∧ Below w.heap.size w w' := by
  have s1 := gd.s1
  have hgr := hid (fun k (hk : k < n) W (hW : Below w.heap.size w W) => grow_any W m l s gd b0 v M (hM.below hW) hMl n k hn hk T hTM hT)
  obtain ⟨row0, hr0, hr0l, _⟩ := hTM 0 (by omega)
  obtain ⟨gM, cM, rfl, _, _⟩ := hM.blk (fun e => by rw [e] at hMl; simp at hMl; omega)
  rw [hMl] at hM hgr ⊢
  obtain ⟨r0, hrc, hrO⟩ := hM.row 0 row0 hr0
  obtain ⟨A0, cp0, rfl, _, _⟩ := hrO.form
  rw [ints_length, hr0l] at hrc
  have hok := hid (fun k (hk : k < n) => (show TrOk n (treeT T s n k) from growT_ok hk hT _))
  have hfl0 := hid (fun k (hk : k < n) => (hok.out k hk).fl)
  have hmk := fun W : World => run_make_row' (P := Tryz.prog) 53 4 (.bool false) 1 Tryz.underlying53 info_bool rfl .i64 .i64 n (by omega) (by omega) W
  have hmc := hid (toList_madeCells_one (.bool false) n)
  generalize madeCells #[.bool false] n = mc at *
  have hmcs := hid (show mc.size = n by rw [← Array.length_toList, hmc.out, List.length_replicate])
  have hS := (((St.start w).newMB m 27).newMat #[] 0 rfl (by omega)).newArr mc n hmcs.out 4 (by omega)
  have hcr := ((Below.refl w.heap.size w).alloc (Nat.le_refl _) (.cells (mcells m) 27)).cell (p := ⟨gM, 0, none⟩) (hM.lt gM rfl).2
  rw [hrc] at hcr
  rw [hmc.out] at hS
  simp only [heap_alloc_size] at hS
  obtain ⟨f, hfd⟩ : ∃ f : Nat → List Nat, f = fun k => orbT (treeT T s n k).far n := ⟨_, rfl⟩
  have hfe := hid (fun k => (show orbT (treeT T s n k).far n = f k by rw [hfd]))
  simp only [hfe.out] at ⊢
  rw [show (fun k => f k) = f from rfl]
  clear hfd
  have hrep : List.replicate n (Value.bool false) = bls (orbS f n 0).1 := by simp [bls, orbS]
  rw [hrep] at hS
  have hS0 := hid (show Asn.mat w.heap.size (.slice (some ⟨w.heap.size + 1, 0, none⟩) 0 0) (List.replicate 0 (.slice none 0 0)) (List.replicate 0 []) = Asn.mat w.heap.size (.slice (some ⟨w.heap.size + 1, 0, none⟩) 0 0) [] (orbS f n 0).2 from rfl)
  rw [hS0.out] at hS
  replace hS := hid hS
  have hsl := hid (orbS_len f n)
  have hso := hid (orbS_out f n)
  have hmet := hid (fun k (h : (orbS f n k).1[k]? = some true) => orbS_met h)
  have hnew := hid (fun k (h : (orbS f n k).1[k]? = some false) => orbS_new h)
  replace gd := hid gd
  clear hrep hmc hM hTM hT hS0 hr0 hrO hrc
  go_enter Tryz.func121, Tryz.ntmps121
  go_wp2
  go_loopw [6, 8] (fun o i wr => ∃ (k : Nat) (vo : Value) (rows : List Value), k ≤ n ∧ i = .int .i64 k ∧ vo = o ∧ St w.heap.size w [Asn.mat w.heap.size vo rows (orbS f n k).2, Asn.own w.heap.size 4 (.slice (some ⟨w.heap.size + 1 + 1, 0, none⟩) n n) (bls (orbS f n k).1), Asn.mb 27 w.heap.size m] wr) (fun _ i _ => n - (intOf i).toNat)
  case atStart => exact ⟨0, _, _, Nat.zero_le _, rfl, rfl, hS.out.f1⟩
  case round =>
    obtain ⟨k, vo, rows, hk, rfl, rfl, rS⟩ := hrel
    clear hS hcr
    have hob := hid rS.bel
    have hbsz := hid (show w.heap.size ≤ wr.heap.size from rS.le)
    replace rS := hid rS
    by_cases hlk : k < n
    · have dk : decide ((k : Int) < (n : Int)) = true := decide_eq_true (by omega)
      have k0 : (0 : Int) ≤ (k : Int) := Int.natCast_nonneg _
      have k1 : (k : Int) < (n : Int) := by omega
      by_cases hm : (orbS f n k).1[k]? = some true
      · have ck := rS.out.o1.cellAt k _ (bls_get hm)
        have hs2 := hid (hmet.out k hm)
        clear hm
        go_wp2
        go_roundw
        case rel => exact ⟨k + 1, _, _, by omega, by go_num, rfl, by rw [hs2.out]; exact rS.out⟩
        case measure => simp [intOf]; omega
      · have hm2 := get_bool (by rw [hsl.out]; omega) hm
        have ck := rS.out.o1.cellAt k _ (bls_get hm2)
        have hs2 := hid (hnew.out k hm2)
        have hgk := hid (hgr.out k hlk wr hob.out)
        have hok2 := hso.out k
        have hfk := hid (hfe.out k)
        have hffl := hid (hfl0.out k hlk)
        clear hm hm2
        generalize treeT T s n k = t at *
        generalize hst : (orbS f n k).1 = sn at *
        generalize hos : (orbS f n k).2 = os at *
        have hsl2 := hid (show sn.length = n from by rw [← hst]; exact hsl.out k)
        replace hst := hid hst; replace hos := hid hos
        go_upto_region 8 with (first
          | ((with_reducible refine gate (N := 28) rfl ?_); refine load_mach rfl _ rfl w.heap.size rfl m rS.out.m2 ?_)
          | (go_at_call 113; (with_reducible refine (hgk.out).mono ?_); rintro e w4 ⟨g1, c1, g2, g3, g4, X, rfl, hlk, hT⟩; (have rS2 := ((rS.out.callOwn hT.bel hT.o3).newOwn [] 2 (by simp)).newBlk #[.slice (some ⟨g1, 0, none⟩) t.q.length c1, .slice (some ⟨g2, 0, none⟩) n n, .slice (some ⟨g3, 0, none⟩) n n, .slice (some ⟨g4, 0, none⟩) n n] 134); simp only [heap_alloc_size] at rS2; (have hsz4 := hid (show w.heap.size ≤ w4.heap.size + 1 from by have := (rS.out.callOwn hT.bel hT.o3).le; omega)); replace rS := hid rS2; clear hT hlk hgk rS2))
        replace rS := hid (show St w.heap.size w [Asn.own w.heap.size 2 (.slice (some ⟨w4.heap.size, 0, none⟩) 0 0) (ints (natI (orbT t.far 0))), Asn.own w.heap.size 4 (.slice (some ⟨w.heap.size + 1 + 1, 0, none⟩) n n) (bls (mkAll sn (orbT t.far 0))), Asn.blk (w4.heap.size + 1) #[.slice (some ⟨g1, 0, none⟩) t.q.length c1, .slice (some ⟨g2, 0, none⟩) n n, .slice (some ⟨g3, 0, none⟩) n n, .slice (some ⟨g4, 0, none⟩) n n] 134, Asn.own w.heap.size 2 (.slice (some ⟨g4, 0, none⟩) n n) (ints t.far), Asn.mat w.heap.size vo rows os, Asn.mb 27 w.heap.size m] _ from (rS.out.f4).f2)
        generalize (w4.alloc (Obj.cells #[] 2)).alloc _ = w5 at *
        generalize w4.heap.size = b4 at *
        generalize t.q.length = ql at *
        generalize t.far = fr at *
        go_wp2
        go_loopw [10, 11] (fun o i wi => ∃ (j : Nat) (vp : Value), j ≤ n ∧ i = .int .i64 j ∧ vp = o ∧ St w.heap.size w [Asn.own w.heap.size 2 vp (ints (natI (orbT fr j))), Asn.own w.heap.size 4 (.slice (some ⟨w.heap.size + 1 + 1, 0, none⟩) n n) (bls (mkAll sn (orbT fr j))), Asn.blk (b4 + 1) #[.slice (some ⟨g1, 0, none⟩) ql c1, .slice (some ⟨g2, 0, none⟩) n n, .slice (some ⟨g3, 0, none⟩) n n, .slice (some ⟨g4, 0, none⟩) n n] 134, Asn.own w.heap.size 2 (.slice (some ⟨g4, 0, none⟩) n n) (ints fr), Asn.mat w.heap.size vo rows os, Asn.mb 27 w.heap.size m] wi) (fun _ i _ => n - (intOf i).toNat)
        case atStart => exact ⟨0, _, Nat.zero_le _, rfl, rfl, rS.out⟩
        case round =>
          obtain ⟨j, vp, hj, rfl, rfl, zS⟩ := hrel
          clear rS
          have q3 := (show _ = some (Value.slice (some ⟨g4, 0, none⟩) n n) from cell_of_row _ _ 3 _ _ _ zS.k2)
          replace zS := hid zS
          by_cases hlj : j < n
          · have dj : decide ((j : Int) < (n : Int)) = true := decide_eq_true (by omega)
            obtain ⟨y, hy⟩ : ∃ y, fr[j]? = some y := ⟨_, List.getElem?_eq_getElem (by rw [hffl.out]; exact hlj)⟩
            have cy := zS.out.o3.cellAt j (.int .i64 y) (by simp [ints, hy])
            have hgy : fr.getD j 0 = y := by rw [List.getD_eq_getElem?_getD, hy]; rfl
            have hot := hid (orbT_take (far := fr) (j := j))
            have j0 : (0 : Int) ≤ (j : Int) := Int.natCast_nonneg _
            have j1 : (j : Int) < (n : Int) := by omega
            have hbl := hid (show (bls (mkAll sn (orbT fr j))).length = n by rw [bls_length, mkAll_len]; exact hsl2.out)
            rw [hgy] at hot
            by_cases hp : 0 ≤ y
            · have hot2 := hot.out
              rw [if_pos hp] at hot2
              replace hot2 := hid hot2
              have dp : decide (0 ≤ y) = true := decide_eq_true hp
              have fs := Own.frozenAt zS.out.o1 hbl.out j
              obtain ⟨bb, hbb⟩ : ∃ b, (mkAll sn (orbT fr j))[j]? = some b := ⟨_, List.getElem?_eq_getElem (by rw [mkAll_len, hsl2.out]; exact hlj)⟩
              have cbb := zS.out.o1.cellAt j _ (bls_get hbb)
              have hset := hid (bls_set (mkAll sn (orbT fr j)) j true)
              have hol := hid (show (ints (natI (orbT fr j))).length = (orbT fr j).length by rw [ints_length, natI_length])
              have hol2 := orbT_len fr j
              clear hbb hy hot hgy
              go_upto_region 13 with (fail)
              replace zS := hid ((zS.out.f1).setOwn hbl.out j (.bool true) hlj)
              rw [hset.out, ← mkAll_snoc, ← hot2.out] at zS
              clear q3 cbb fs
              generalize wr.setCell _ _ = wx at *
              generalize hoj : orbT fr (j + 1) = oj1 at *
              replace hoj := hid hoj
              go_wp2_with (first
                | ((with_reducible refine gate (N := 50) rfl ?_); refine St.app 32 2 (.int .i64 0) 8 Tryz.underlying32 info_i64 rfl (by omega) rfl _ _ rfl _ _ rfl zS.out.f1 _ rfl rfl (orbT fr j).length hol.out (by omega) ?_; intro gn cn w6 zS'; replace zS := hid zS'; clear zS'))
              rw [← ints_snoc, ← natI_snoc, ← hot2.out] at zS
              go_roundw
              case rel => exact ⟨j + 1, _, by omega, by go_num, rfl, by rw [hoj.out]; exact zS.out⟩
              case measure => simp [intOf]; omega
            · have hot2 := hot.out
              rw [if_neg hp] at hot2
              replace hot2 := hid hot2
              have dp : decide (0 ≤ y) = false := decide_eq_false hp
              clear hy hot hgy
              go_wp2
              go_roundw
              case rel => exact ⟨j + 1, _, by omega, by go_num, rfl, by rw [hot2.out]; exact zS.out⟩
              case measure => simp [intOf]; omega
          · obtain rfl : n = j := by omega
            have dj : decide ((n : Int) < (n : Int)) = false := decide_eq_false (by omega)
            rw [hfk.out] at zS
            clear q3
            obtain ⟨Ap, cpp, rfl, _, _⟩ := zS.out.o0.form
            generalize (ints (natI (f k))).length = lk at *
            go_wp2_with (first
              | ((with_reducible refine gate (N := 54) rfl ?_); refine St.appM rfl _ _ rfl _ _ rows os (natI (f k)) rfl zS.out.f4 rfl _ rfl (by omega) ?_; intro gn cn w7 zS'; replace zS := hid zS'; clear zS'))
            go_roundw
            case rel => exact ⟨k + 1, _, _, by omega, by go_num, rfl, by rw [hs2.out]; exact zS.out.f2.drop.f2.drop⟩
            case measure => simp [intOf]; omega
    · obtain rfl : k = n := by omega
      have dk : decide ((k : Int) < (k : Int)) = false := decide_eq_false (by omega)
      go_wp2
      go_ret
      exact ⟨_, rfl, ⟨_, rS.out.g0⟩, rS.out.bel⟩
end Go.Proofs.YthmcdfjijkecfaaGreat

/- LevelOrbits and IsTransitiveLevel: what the program and the reference answer. -/
namespace Go.Proofs.YthmcdfjijkecfaaGreat
open Go.RowKit
set_option linter.unusedVariables false
set_option linter.unusedSimpArgs false
-- @LONG

/-- The orbits of a level. -/
def orbL (m : Mach) (d s n : Nat) : List (List Int) := (orbS (fun k => orbT (treeT (lvT m d s n) s (pw d n) k).far (pw d n)) (pw d n) (pw d n)).2
open Classical in
/-- What LevelOrbits answers. -/
noncomputable def lvoAns (m : Mach) (n : Int) : List (List Int) × Int := if levelI m n = 0 then (orbL m m.L.toNat m.S.toNat n.toNat, 0) else ([], levelI m n)
theorem lvoAns_c {m : Mach} {n : Int} (h : levelI m n ≠ 0) : lvoAns m n = ([], levelI m n) := by unfold lvoAns; rw [if_neg h]
theorem lvoAns_0 {m : Mach} {d s n : Nat} (g : Good m d s) (h : levelI m n = 0) : lvoAns m n = (orbL m d s n, 0) := by unfold lvoAns; rw [if_pos h, g.L, g.S]; rfl
theorem lvoAns_len (m : Mach) (n : Int) : (lvoAns m n).1.length ≤ 243 ∧ ∀ r ∈ (lvoAns m n).1, r.length ≤ 243 := by
  by_cases h : levelI m n = 0
  · obtain ⟨d, s, n', gd, rfl, hn5, hnl, hpw⟩ := levelI_good h
    rw [lvoAns_0 gd h]
    exact ⟨Nat.le_trans (orbS_out _ _ _) hpw, fun r hr => orbS_rows (fun k _ => Nat.le_trans (orbT_len _ _) hpw) _ (Nat.le_refl _) r hr⟩
  · rw [lvoAns_c h]; exact ⟨Nat.zero_le _, fun r hr => by cases hr⟩
set_option maxHeartbeats 4000000 in
set_option maxRecDepth 100000 in
theorem implLvo_any (w : World) (m : Mach) (hk : m.Ok) (n : Int) :
    Calls Tryz.prog 22 #[.agg (mcells m), .int .i64 n] w fun e w' => ∃ v', e = .returned (.tuple #[v', .int .i64 (lvoAns m n).2]) ∧ MatD w' w.heap.size v' (lvoAns m n).1 ∧ Below w.heap.size w w' := by
  have hS := hid ((St.start w).newMB m 27)
  have hcode := hid (fun W => levelCode_any W m hk n)
  by_cases h0 : levelI m n = 0
  · obtain ⟨d, s, n, gd, rfl, hn5, hnl, hpw⟩ := levelI_good h0
    rw [h0] at hcode
    have hgr := hid (fun W hW => graph_any w.heap.size W m hW d s gd n (by omega) (by omega))
    have hor := hid (fun W G vA vB (hG : GB W G (pw d n) vA vB (tabA m d n s) (tabA (inv m d s) d n s)) => orbits_any W G (pw d n) s vA vB _ _ hG (pw_few gd.l2 gd.l3 hnl) (tabA_length _ _ _ _) (tabA_length _ _ _ _) gd.s1 gd.s16 (lvT m d s n) (fun p hp => lvT_A p hp) (fun p hp => lvT_B p hp) (fun j fr hj hf => lvT_lt gd j fr hj hf) hpw)
    rw [lvoAns_0 gd h0]
    have hoe := hid (show (orbS (fun k => orbT (treeT (lvT m d s n) s (pw d n) k).far (pw d n)) (pw d n) (pw d n)).2 = orbL m d s n from rfl)
    rw [hoe.out] at hor
    replace hk := hid hk; replace gd := hid gd
    clear h0 hoe
    generalize orbL m d s n = R at *
    generalize hM : pw d n = M at *
    replace hM := hid hM
    go_enter Tryz.func22, Tryz.ntmps22
    go_wp2_with (first
      | ((with_reducible refine gate (N := 7) rfl ?_); refine load_mach rfl _ rfl w.heap.size rfl m hS.out.m0 ?_)
      | (go_at_call 108; (with_reducible refine (hcode.out _).mono ?_); rintro e w1 ⟨rfl, hb⟩; replace hS := hid (hS.out.call hb); clear hb hcode)
      | (go_at_call 109; (with_reducible refine (hgr.out _ hS.out.m0).mono ?_); rintro e w2 ⟨vA, vB, rfl, hG, hb⟩; replace hS := hid (hS.out.call hb); have hor2 := hid (hor.out _ _ _ _ hG); clear hb hgr hor hG)
      | (go_at_call 115; (with_reducible refine (hor2.out).mono ?_); rintro e w3 ⟨v3, rfl, hMt, hb⟩; have hMt2 := hid (hMt.mono hS.out.le); replace hS := hid (hS.out.call hb); clear hb hor2 hMt))
    go_ret2
    exact ⟨_, rfl, hMt2.out, hS.out.bel⟩
  · rw [lvoAns_c h0]
    have dn : ((levelI m n) != 0) = true := by simpa using h0
    generalize levelI m n = cd at *
    replace hk := hid hk
    clear h0
    go_enter Tryz.func22, Tryz.ntmps22
    go_wp2_with (first
      | ((with_reducible refine gate (N := 7) rfl ?_); refine load_mach rfl _ rfl w.heap.size rfl m hS.out.m0 ?_)
      | (go_at_call 108; (with_reducible refine (hcode.out _).mono ?_); rintro e w1 ⟨rfl, hb⟩; replace hS := hid (hS.out.call hb); clear hb hcode))
    go_ret2
    exact ⟨_, rfl, ⟨[], ⟨Own.nil _ _ _, rfl, fun i r l hr => by simp at hr⟩, List.Pairwise.nil⟩, hS.out.bel⟩
set_option maxHeartbeats 2000000 in
set_option maxRecDepth 100000 in
theorem implTra_any (w : World) (m : Mach) (hk : m.Ok) (n : Int) :
    Calls Tryz.prog 23 #[.agg (mcells m), .int .i64 n] w fun e w' => e = .returned (.tuple #[.bool ((((lvoAns m n).1.length : Nat) : Int) == 1), .int .i64 (lvoAns m n).2]) ∧ Below w.heap.size w w' := by
  have hS := hid ((St.start w).newMB m 27)
  have hlv := hid (fun W => implLvo_any W m hk n)
  generalize (lvoAns m n).1 = M at *
  generalize (lvoAns m n).2 = cd at *
  replace hk := hid hk
  go_enter Tryz.func23, Tryz.ntmps23
  go_wp2_with (first
    | ((with_reducible refine gate (N := 9) rfl ?_); refine load_mach rfl _ rfl w.heap.size rfl m hS.out.m0 ?_)
    | (go_at_call 22; (with_reducible refine (hlv.out _).mono ?_); rintro e w3 ⟨v3, rfl, hMt, hb⟩; obtain ⟨A, cp, rfl⟩ := hMt.mat.form; replace hS := hid (hS.out.call hb); clear hb hlv hMt))
  go_ret2
  exact ⟨rfl, hS.out.bel⟩
set_option maxHeartbeats 4000000 in
set_option maxRecDepth 100000 in
theorem specLvo_any (w : World) (m : Mach) (hk : m.Ok) (n : Int) :
    Calls Tryz.prog 33 #[.agg (mcells m), .int .i64 n] w fun e w' => ∃ v', e = .returned (.tuple #[v', .int .i64 (lvoAns m n).2]) ∧ Mat w' w.heap.size v' (lvoAns m n).1 ∧ Below w.heap.size w w' := by
  have hS := hid ((St.start w).newMB m 27)
  have hcode := hid (fun W => l05Code_any W m hk n)
  by_cases h0 : levelI m n = 0
  · obtain ⟨d, s, n, gd, rfl, hn5, hnl, hpw⟩ := levelI_good h0
    rw [h0] at hcode
    have htb := hid (fun W => l05Tables_any W m d s gd hk n (by omega) (by omega))
    have hor := hid (fun W b v (hM : Mat W b v (tabA m d n s ++ tabA (inv m d s) d n s)) => l05Orbits_any W m d s gd b v _ hM (by rw [List.length_append, tabA_length, tabA_length]; omega) (pw d n) hpw (lvT m d s n) (fun p hp => lvT_M p hp) (fun j fr hj hf => lvT_lt gd j fr hj hf))
    rw [lvoAns_0 gd h0]
    have hoe := hid (show (orbS (fun k => orbT (treeT (lvT m d s n) s (pw d n) k).far (pw d n)) (pw d n) (pw d n)).2 = orbL m d s n from rfl)
    rw [hoe.out] at hor
    replace hk := hid hk; replace gd := hid gd
    clear h0 hoe
    generalize orbL m d s n = R at *
    generalize tabA m d n s ++ tabA (inv m d s) d n s = TM at *
    generalize hM : pw d n = M at *
    replace hM := hid hM
    go_enter Tryz.func33, Tryz.ntmps33
    go_upto_region 4 with (first
      | ((with_reducible refine gate (N := 7) rfl ?_); refine load_mach rfl _ rfl w.heap.size rfl m hS.out.m0 ?_)
      | (go_at_call 119; (with_reducible refine (hcode.out _).mono ?_); rintro e w1 ⟨rfl, hb⟩; replace hS := hid (hS.out.call hb); clear hb hcode))
    replace hS := hid hS.out.drew
    refine wp_region_heldL (L := [(4, (fun w' : World => MB w' 27 w.heap.size m))]) (by kernel_rfl) (HeldL.cons (fun _ => hS.out.m0) HeldL.nil) (fun hHeld => ?_)
    generalize w1.drew = wa at *
    refine wpAnyL_takeP (i := 0) 4 [] (v := (.agg (mcells m))) (fun w' : World => MB w' 27 w.heap.size m) rfl (by kernel_rfl) (by kernel_rfl) (by kernel_rfl) (by rfl) (by kernel_rfl) (by simp) (fun _ _ _ h => h) (Or.inl ⟨by rfl, ?_⟩) (by assumption) ?_
    · (intro W hW; exact exec_load _ rfl rfl (load_run hW))
    intro hHeld'
    clear hHeld; have hHeld := hHeld'; clear hHeld'
    try simp only [Act.put, List.getElem_toArray, List.getElem_cons_succ, List.getElem_cons_zero, List.setIfInBounds_toArray, List.set_cons_zero, List.set_cons_succ]
    refine wpAnyL_takeP (i := 1) 4 [3] (v := (.agg (mcells m))) (fun w' : World => MB w' 27 w.heap.size m) rfl (by kernel_rfl) (by kernel_rfl) (by kernel_rfl) (by rfl) (by kernel_rfl) (by simp) (fun _ _ _ h => h) (Or.inl ⟨by rfl, ?_⟩) (by assumption) ?_
    · (intro W hW; exact exec_load _ rfl rfl (load_run hW))
    intro hHeld'
    clear hHeld; have hHeld := hHeld'; clear hHeld'
    try simp only [Act.put, List.getElem_toArray, List.getElem_cons_succ, List.getElem_cons_zero, List.setIfInBounds_toArray, List.set_cons_zero, List.set_cons_succ]
    refine wpAnyL_take0 (i := 2) (v := ?_) rfl (by kernel_rfl) (by kernel_rfl) (by kernel_rfl) (by rfl) (fun _ _ _ h => h) (Or.inl ⟨by rfl, ?_⟩) (by assumption) ?_
    rotate_left
    · (intro W _; go_simp; (with_reducible rfl))
    intro hHeld'
    clear hHeld; have hHeld := hHeld'; clear hHeld'
    try simp only [Act.put, List.getElem_toArray, List.getElem_cons_succ, List.getElem_cons_zero, List.setIfInBounds_toArray, List.set_cons_zero, List.set_cons_succ]
    refine wpAnyL_ready (rs := [3]) (by kernel_rfl) (by simp) ?_
    refine AllReadyL.cons rfl (fun K hK => ?_) AllReadyL.nil
    go_simp
    (with_reducible refine (htb.out _).mono ?_)
    rintro e w3 ⟨v, rfl, hTM, hb⟩
    replace hS := hid (hS.out.call hb)
    clear hb
    go_simp
    refine hK.out _ _ (HeldL.cons (fun _ => hS.out.m0) HeldL.nil) (fun hHeld' => ?_)
    clear hK K hHeld; have hHeld := hHeld'; clear hHeld'
    try simp only [Act.put, List.getElem_toArray, List.getElem_cons_succ, List.getElem_cons_zero, List.setIfInBounds_toArray, List.set_cons_zero, List.set_cons_succ]
    refine wpAnyL_ready (rs := [4]) (by kernel_rfl) (by simp) ?_
    refine AllReadyL.cons rfl (fun K hK => ?_) AllReadyL.nil
    go_simp
    (with_reducible refine (hor.out _ _ _ hTM).mono ?_)
    rintro e w4 ⟨v4, rfl, hMt, hb⟩
    have hMt2 := hid (hMt.mono hS.out.le)
    replace hS := hid (hS.out.call hb)
    clear hb hTM hor
    skip
    go_simp
    refine hK.out _ _ (HeldL.cons (fun h => absurd h (by decide +kernel)) HeldL.nil) (fun hHeld' => ?_)
    clear hK K hHeld; have hHeld := hHeld'; clear hHeld'
    try simp only [Act.put, List.getElem_toArray, List.getElem_cons_succ, List.getElem_cons_zero, List.setIfInBounds_toArray, List.set_cons_zero, List.set_cons_succ]
    refine wpAnyL_take0 (i := 5) (v := ?_) rfl (by kernel_rfl) (by kernel_rfl) (by kernel_rfl) (by rfl) (fun _ _ _ h => h) (Or.inl ⟨by rfl, ?_⟩) (by assumption) ?_
    rotate_left
    · (intro W _; go_simp; (with_reducible rfl))
    intro hHeld'
    clear hHeld; have hHeld := hHeld'; clear hHeld'
    try simp only [Act.put, List.getElem_toArray, List.getElem_cons_succ, List.getElem_cons_zero, List.setIfInBounds_toArray, List.set_cons_zero, List.set_cons_succ]
    refine wpAnyL_take0 (i := 6) (v := ?_) rfl (by kernel_rfl) (by kernel_rfl) (by kernel_rfl) (by rfl) (fun _ _ _ h => h) (Or.inl ⟨by rfl, ?_⟩) (by assumption) ?_
    rotate_left
    · (intro W _; go_simp; (with_reducible rfl))
    intro hHeld'
    clear hHeld; have hHeld := hHeld'; clear hHeld'
    try simp only [Act.put, List.getElem_toArray, List.getElem_cons_succ, List.getElem_cons_zero, List.setIfInBounds_toArray, List.set_cons_zero, List.set_cons_succ]
    skip
    skip
    refine wpAnyL_done (by kernel_rfl) ?_ _
    go_wp2
    go_ret2
    exact ⟨_, rfl, hMt2.out, hS.out.bel⟩
  · rw [lvoAns_c h0]
    have dn : ((levelI m n) != 0) = true := by simpa using h0
    generalize levelI m n = cd at *
    replace hk := hid hk
    clear h0
    go_enter Tryz.func33, Tryz.ntmps33
    go_wp2_with (first
      | ((with_reducible refine gate (N := 7) rfl ?_); refine load_mach rfl _ rfl w.heap.size rfl m hS.out.m0 ?_)
      | (go_at_call 119; (with_reducible refine (hcode.out _).mono ?_); rintro e w1 ⟨rfl, hb⟩; replace hS := hid (hS.out.call hb); clear hb hcode))
    go_ret2
    exact ⟨_, rfl, Mat.nil _ _, hS.out.bel⟩
end Go.Proofs.YthmcdfjijkecfaaGreat

/- Levels: orbits part them, distances are the same both ways, and levels with one orbit have a diameter. -/
namespace Go.Proofs.YthmcdfjijkecfaaGreat
set_option linter.unusedVariables false
set_option linter.unusedSimpArgs false

theorem lvT_bak {m : Mach} {l s n : Nat} (g : Good m l s) : Bak (lvT m l s n) s (pw l n) := fun j i hj hi => by
  unfold lvT both
  rw [if_neg (by omega), if_pos hj, show s + j - s = j by omega]
  exact ⟨pf_inv g j n i hj hi, inv_pf g j n i hj hi⟩
theorem mkAll_getD {n : Nat} (o : List Nat) (hb : ∀ x ∈ o, x < n) (s : List Bool) (hs : s.length = n) (x : Nat) : (mkAll s o).getD x false = (s.getD x false || decide (x ∈ o)) := by
  induction o generalizing s with
  | nil => simp [mkAll]
  | cons y o ih =>
    show (mkAll (s.set y true) o).getD x false = _
    rw [ih (fun z hz => hb z (by simp [hz])) _ (by rw [List.length_set]; exact hs)]
    have hy := hb y (by simp)
    by_cases e : x = y
    · subst e; simp [List.getD_eq_getElem?_getD, List.getElem?_set, hs, hy]
    · simp [List.getD_eq_getElem?_getD, List.getElem?_set, Ne.symm e, e]
section
variable {T : Nat → Nat → Nat} {s n : Nat}
theorem orbT_mem {t : Tr} (h : TrOk n t) (x : Nat) : x ∈ orbT t.far n ↔ x ∈ t.q := by
  unfold orbT
  rw [List.mem_filter, List.mem_range]
  constructor
  · rintro ⟨hx, hd⟩
    rcases h.F_cases hx with h1 | h1
    · have := of_decide_eq_true hd; have := h1.1; unfold Tr.F at this; omega
    · exact h1.1
  · intro hx
    have hb := h.qb x hx
    rcases h.F_cases hb with h1 | h1
    · exact absurd hx h1.2
    · exact ⟨hb, decide_eq_true h1.2⟩
/-- What holds of the orbits before k: each word below, once. -/
structure OrbP (f : Nat → List Nat) (n k : Nat) (S : List Bool × List (List Int)) : Prop where
  seen : ∀ x, x < n → (S.1.getD x false = true ↔ ∃ k', k' < k ∧ x ∈ f k')
  nd : S.2.flatten.Nodup
  mem : ∀ z, z ∈ S.2.flatten ↔ ∃ (x : Nat) (k' : Nat), z = (x : Int) ∧ k' < k ∧ x ∈ f k'
theorem natI_mem {l : List Nat} {z : Int} : z ∈ natI l ↔ ∃ x : Nat, z = (x : Int) ∧ x ∈ l := by
  unfold natI
  rw [List.mem_map]
  exact ⟨fun ⟨x, h1, h2⟩ => ⟨x, h2.symm, h1⟩, fun ⟨x, h1, h2⟩ => ⟨x, h2, h1.symm⟩⟩
theorem natI_nd {l : List Nat} (h : l.Nodup) : (natI l).Nodup := by
  unfold natI
  exact List.Pairwise.map _ (fun a b hab e => hab (Int.ofNat.inj e)) h
theorem orbS_P {f : Nat → List Nat} (hr : ∀ k, k < n → k ∈ f k) (hlt : ∀ k, k < n → ∀ x ∈ f k, x < n) (hn : ∀ k, k < n → (f k).Nodup) (htr : ∀ a b x, a < n → b < n → b ∈ f a → (x ∈ f b ↔ x ∈ f a)) :
    ∀ k, k ≤ n → OrbP f n k (orbS f n k)
  | 0, _ => ⟨fun x hx => by simp [orbS, List.getD_eq_getElem?_getD, List.getElem?_replicate, hx], by simp [orbS], fun z => by simp [orbS]⟩
  | k + 1, hk => by
    have ih := orbS_P hr hlt hn htr k (by omega)
    have hsl := orbS_len f n k
    by_cases h : (orbS f n k).1.getD k false = true
    · rw [orbS, if_pos h]
      obtain ⟨k', hk', hm⟩ := (ih.seen k (by omega)).1 h
      have key : ∀ x, (∃ j, j < k + 1 ∧ x ∈ f j) ↔ ∃ j, j < k ∧ x ∈ f j := fun x => by
        constructor
        · rintro ⟨j, hj, hx⟩
          by_cases e : j = k
          · subst e; exact ⟨k', hk', (htr k' j x (by omega) (by omega) hm).1 hx⟩
          · exact ⟨j, by omega, hx⟩
        · rintro ⟨j, hj, hx⟩; exact ⟨j, by omega, hx⟩
      refine ⟨fun x hx => (ih.seen x hx).trans (key x).symm, ih.nd, fun z => (ih.mem z).trans ?_⟩
      constructor
      · rintro ⟨x, j, e, hj, hx⟩; exact ⟨x, j, e, by omega, hx⟩
      · rintro ⟨x, j, e, hj, hx⟩
        obtain ⟨j', hj', hx'⟩ := (key x).1 ⟨j, hj, hx⟩
        exact ⟨x, j', e, hj', hx'⟩
    · rw [orbS, if_neg h]
      refine ⟨fun x hx => ?_, ?_, fun z => ?_⟩
      · show (mkAll (orbS f n k).1 (f k)).getD x false = true ↔ _
        rw [mkAll_getD (f k) (hlt k (by omega)) _ hsl]
        rw [Bool.or_eq_true, decide_eq_true_eq, ih.seen x hx]
        constructor
        · rintro (⟨j, hj, hx⟩ | hx)
          · exact ⟨j, by omega, hx⟩
          · exact ⟨k, by omega, hx⟩
        · rintro ⟨j, hj, hx⟩
          by_cases e : j = k
          · subst e; exact .inr hx
          · exact .inl ⟨j, by omega, hx⟩
      · show ((orbS f n k).2 ++ [natI (f k)]).flatten.Nodup
        rw [List.flatten_append]
        simp only [List.flatten_cons, List.flatten_nil, List.append_nil]
        refine List.nodup_append.2 ⟨ih.nd, natI_nd (hn k (by omega)), fun a ha b hb e => ?_⟩
        subst e
        obtain ⟨x, j, rfl, hj, hx⟩ := (ih.mem a).1 ha
        obtain ⟨y, e, hy⟩ := natI_mem.1 hb
        obtain rfl : x = y := by omega
        refine h ((ih.seen k (by omega)).2 ⟨j, hj, ?_⟩)
        have h1 := (htr k x k (by omega) (hlt k (by omega) x hy) hy).2 (hr k (by omega))
        exact (htr j x k (by omega) (hlt k (by omega) x hy) hx).1 h1
      · show z ∈ ((orbS f n k).2 ++ [natI (f k)]).flatten ↔ _
        rw [List.flatten_append, List.mem_append, ih.mem z]
        simp only [List.flatten_cons, List.flatten_nil, List.append_nil]
        rw [natI_mem]
        constructor
        · rintro (⟨x, j, e, hj, hx⟩ | ⟨x, e, hx⟩)
          · exact ⟨x, j, e, by omega, hx⟩
          · exact ⟨x, k, e, by omega, hx⟩
        · rintro ⟨x, j, e, hj, hx⟩
          by_cases e' : j = k
          · subst e'; exact .inr ⟨x, e, hx⟩
          · exact .inl ⟨x, j, e, by omega, hx⟩
end
/-- Numbers below n, each once. -/
structure Parts (M : List (List Int)) (n : Nat) : Prop where
  nd : M.flatten.Nodup
  lt : ∀ z ∈ M.flatten, ∃ x : Nat, z = (x : Int) ∧ x < n
  len : M.flatten.length = n
theorem flat_get {α : Type} : ∀ (M : List (List α)) (i j : Nat) (r : List α) (x : α), M[i]? = some r → r[j]? = some x → M.flatten[(M.take i).flatten.length + j]? = some x
  | [], i, j, r, x, h, _ => by simp at h
  | a :: M, 0, j, r, x, h, h2 => by
    simp only [List.getElem?_cons_zero] at h
    injection h with h
    subst h
    have hj := (List.getElem?_eq_some_iff.1 h2).1
    simp only [List.take_zero, List.flatten_nil, List.length_nil, Nat.zero_add, List.flatten_cons]
    rw [List.getElem?_append_left hj]; exact h2
  | a :: M, i + 1, j, r, x, h, h2 => by
    have ih := flat_get M i j r x (by simpa using h) h2
    simp only [List.take_succ_cons, List.flatten_cons, List.length_append]
    rw [Nat.add_assoc, List.getElem?_append_right (by omega), show a.length + ((M.take i).flatten.length + j) - a.length = (M.take i).flatten.length + j by omega]
    exact ih
theorem flat_next {α : Type} : ∀ (M : List (List α)) (i : Nat) (r : List α), M[i]? = some r → (M.take (i + 1)).flatten.length = (M.take i).flatten.length + r.length
  | [], i, r, h => by simp at h
  | a :: M, 0, r, h => by
    simp only [List.getElem?_cons_zero] at h
    injection h with h
    subst h; simp
  | a :: M, i + 1, r, h => by
    have ih := flat_next M i r (by simpa using h)
    simp only [List.take_succ_cons, List.flatten_cons, List.length_append] at ih ⊢
    rw [ih]; omega
theorem nd_len {n : Nat} {l : List Int} (h1 : l.Nodup) (h2 : ∀ z, z ∈ l ↔ ∃ x : Nat, z = (x : Int) ∧ x < n) : l.length = n := by
  have hp : l.Perm (natI (List.range n)) := (List.perm_ext_iff_of_nodup h1 (natI_nd List.nodup_range)).2 fun z => by
    rw [h2, natI_mem]
    simp only [List.mem_range]
  rw [hp.length_eq, natI_length, List.length_range]
/-- The numbers of all parts, one behind the other. -/
def fl (M : List (List Int)) : List Nat := M.flatten.map Int.toNat
theorem Parts.get {M : List (List Int)} {n p : Nat} {z : Int} (h : Parts M n) (hz : M.flatten[p]? = some z) :
    ∃ x : Nat, z = (x : Int) ∧ x < n ∧ (mkAll (List.replicate n false) ((fl M).take p))[x]? = some false ∧ mkAll (List.replicate n false) ((fl M).take (p + 1)) = (mkAll (List.replicate n false) ((fl M).take p)).set x true := by
  obtain ⟨x, rfl, hx⟩ := h.lt z (List.mem_of_getElem? hz)
  have ho : (fl M)[p]? = some x := by unfold fl; rw [List.getElem?_map, hz]; rfl
  have hb : ∀ y ∈ (fl M).take p, y < n := fun y hy => by
    have hy' := List.mem_of_mem_take hy
    unfold fl at hy'
    obtain ⟨z, hz, rfl⟩ := List.mem_map.1 hy'
    obtain ⟨x', rfl, hx'⟩ := h.lt z hz
    exact hx'
  have hnd : (fl M).Nodup := by
    unfold fl
    refine List.pairwise_map.2 ((List.Pairwise.and_mem.1 h.nd).imp fun {a b} hab e => ?_)
    obtain ⟨ha, hb, hne⟩ := hab
    obtain ⟨x1, rfl, _⟩ := h.lt a ha
    obtain ⟨x2, rfl, _⟩ := h.lt b hb
    simp at e; omega
  have hni : x ∉ (fl M).take p := fun hm => by
    obtain ⟨i, hi, e⟩ := List.getElem_of_mem hm
    rw [List.length_take] at hi
    obtain ⟨hp, e2⟩ := List.getElem?_eq_some_iff.1 ho
    rw [List.getElem_take] at e
    exact (List.pairwise_iff_getElem.1 hnd i p (by omega) hp (by omega)) (e.trans e2.symm)
  have hg := mkAll_getD ((fl M).take p) hb (List.replicate n false) (by simp) x
  have hl : (mkAll (List.replicate n false) ((fl M).take p)).length = n := by rw [mkAll_len]; simp
  refine ⟨x, rfl, hx, ?_, mkAll_take ho⟩
  rw [List.getElem?_eq_getElem (by omega)]
  rw [List.getD_eq_getElem?_getD, List.getElem?_eq_getElem (by omega)] at hg
  simp only [Option.getD_some] at hg
  rw [hg]
  simp [hni, hx]
section
variable {m : Mach} {d s n : Nat}
theorem far_far (m : Mach) (d s n k : Nat) : farL m d s n k = (treeT (lvT m d s n) s (pw d n) k).far := rfl
theorem orbL_P (g : Good m d s) (k : Nat) (hk : k ≤ pw d n) : OrbP (fun k => orbT (treeT (lvT m d s n) s (pw d n) k).far (pw d n)) (pw d n) k (orbS (fun k => orbT (treeT (lvT m d s n) s (pw d n) k).far (pw d n)) (pw d n) k) := by
  have hT : ∀ j fr, j < 2 * s → fr < pw d n → lvT m d s n j fr < pw d n := fun j fr hj hf => lvT_lt g j fr hj hf
  have D := fun k (hk : k < pw d n) => treeT_D hk hT
  refine orbS_P (fun k hk => ?_) (fun k hk x hx => orbT_lt x hx) (fun k hk => List.Nodup.sublist List.filter_sublist List.nodup_range) (fun a b x ha hb hab => ?_) k hk
  · exact (orbT_mem (D k hk).ok k).2 (D k hk).kq
  · rw [orbT_mem (D a ha).ok] at hab
    rw [orbT_mem (D b hb).ok, orbT_mem (D a ha).ok, (D b hb).mem_iff, (D a ha).mem_iff]
    obtain ⟨e, he⟩ := ((D a ha).mem_iff b).1 hab
    have he' := Wlk.rev (lvT_bak g) ha hT e b he
    exact ⟨fun ⟨c, hc⟩ => ⟨e + c, Wlk.trans e he c x hc⟩, fun ⟨c, hc⟩ => ⟨e + c, Wlk.trans e he' c x hc⟩⟩
theorem orbL_parts (g : Good m d s) : Parts (orbL m d s n) (pw d n) := by
  have hT : ∀ j fr, j < 2 * s → fr < pw d n → lvT m d s n j fr < pw d n := fun j fr hj hf => lvT_lt g j fr hj hf
  have h := orbL_P (n := n) g (pw d n) (Nat.le_refl _)
  have hm : ∀ z, z ∈ (orbL m d s n).flatten ↔ ∃ x : Nat, z = (x : Int) ∧ x < pw d n := fun z => by
    refine (h.mem z).trans ⟨?_, ?_⟩
    · rintro ⟨x, k, e, hk, hx⟩; exact ⟨x, e, orbT_lt x hx⟩
    · rintro ⟨x, e, hx⟩
      have D := treeT_D hx hT
      exact ⟨x, x, e, hx, (orbT_mem D.ok x).2 D.kq⟩
  exact ⟨h.nd, fun z hz => (hm z).1 hz, nd_len h.nd hm⟩
/-- One orbit: all words are reached. -/
def AllR (m : Mach) (d s n : Nat) : Prop := ∀ k x, k < pw d n → x < pw d n → x ∈ (treeT (lvT m d s n) s (pw d n) k).q
theorem orbS_one {f : Nat → List Nat} {n : Nat} : ∀ k, 1 ≤ k → (orbS f n k).2.length ≥ 1 ∨ (orbS f n 0).1.getD 0 false = true
  | 0, h => by omega
  | 1, _ => by
    by_cases h : (orbS f n 0).1.getD 0 false = true
    · exact .inr h
    · left; unfold orbS; rw [if_neg h]; simp
  | k + 2, _ => by
    rcases orbS_one (f := f) (n := n) (k + 1) (by omega) with h | h
    · left
      rw [orbS]
      split
      · exact h
      · simp
    · exact .inr h
theorem orbL_pos (hp : 0 < pw d n) : 1 ≤ (orbL m d s n).length := by
  rcases orbS_one (f := fun k => orbT (treeT (lvT m d s n) s (pw d n) k).far (pw d n)) (n := pw d n) (pw d n) hp with h | h
  · exact h
  · simp [orbS, List.getD_eq_getElem?_getD, List.getElem?_replicate, hp] at h
theorem orbS_mono {f : Nat → List Nat} {n k : Nat} : ∀ j, (orbS f n k).2.length ≤ (orbS f n (k + j)).2.length
  | 0 => Nat.le_refl _
  | j + 1 => by
    have ih := orbS_mono (f := f) (n := n) (k := k) j
    show _ ≤ (orbS f n (k + j + 1)).2.length
    rw [orbS]
    split
    · exact ih
    · simp; omega
theorem orbS_first {f : Nat → List Nat} {n : Nat} (hn : 0 < n) : orbS f n 1 = (mkAll (List.replicate n false) (f 0), [natI (f 0)]) := by
  rw [orbS, if_neg (by simp [orbS, List.getD_eq_getElem?_getD, List.getElem?_replicate, hn])]
  rfl
theorem orbL_all (g : Good m d s) (hp : 0 < pw d n) : (orbL m d s n).length = 1 ↔ AllR m d s n := by
  have hT : ∀ j fr, j < 2 * s → fr < pw d n → lvT m d s n j fr < pw d n := fun j fr hj hf => lvT_lt g j fr hj hf
  have D := fun k (hk : k < pw d n) => treeT_D hk hT
  constructor
  · intro h1 a x ha hx
    -- all are in the first orbit
    have hfirst : orbL m d s n = [natI (orbT (treeT (lvT m d s n) s (pw d n) 0).far (pw d n))] := by
      have hgo : ∀ j, (orbS (fun k => orbT (treeT (lvT m d s n) s (pw d n) k).far (pw d n)) (pw d n) (1 + j)).2.length ≤ 1 → (orbS (fun k => orbT (treeT (lvT m d s n) s (pw d n) k).far (pw d n)) (pw d n) (1 + j)).2 = [natI (orbT (treeT (lvT m d s n) s (pw d n) 0).far (pw d n))] := by
        intro j
        induction j with
        | zero => intro _; rw [Nat.add_zero, orbS_first hp]
        | succ j ih =>
          intro hl
          rw [show 1 + (j + 1) = (1 + j) + 1 by omega] at hl ⊢
          have h2 := orbS_mono (f := fun k => orbT (treeT (lvT m d s n) s (pw d n) k).far (pw d n)) (n := pw d n) (k := 1 + j) 1
          have ih' := ih (by omega)
          rw [orbS] at hl ⊢
          split
          · exact ih'
          · rename_i hne
            rw [if_neg hne] at hl
            rw [List.length_append, ih'] at hl
            simp at hl
      have := hgo (pw d n - 1)
      rw [show 1 + (pw d n - 1) = pw d n by omega] at this
      exact this (by unfold orbL at h1; omega)
    have hin : ∀ y, y < pw d n → y ∈ (treeT (lvT m d s n) s (pw d n) 0).q := fun y hy => by
      have hP := orbL_parts (n := n) g
      have hmem : ((y : Nat) : Int) ∈ (orbL m d s n).flatten := by
        have h := orbL_P (n := n) g (pw d n) (Nat.le_refl _)
        exact (h.mem _).2 ⟨y, y, rfl, hy, (orbT_mem (D y hy).ok y).2 (D y hy).kq⟩
      rw [hfirst] at hmem
      simp only [List.flatten_cons, List.flatten_nil, List.append_nil] at hmem
      obtain ⟨y', e, hy'⟩ := natI_mem.1 hmem
      obtain rfl : y = y' := by omega
      exact (orbT_mem (D 0 hp).ok y).1 hy'
    obtain ⟨e, he⟩ := ((D 0 hp).mem_iff a).1 (hin a ha)
    obtain ⟨c, hc⟩ := ((D 0 hp).mem_iff x).1 (hin x hx)
    exact ((D a ha).mem_iff x).2 ⟨e + c, Wlk.trans e (Wlk.rev (lvT_bak g) hp hT e a he) c x hc⟩
  · intro h
    have hgo : ∀ j, 1 + j ≤ pw d n → (orbS (fun k => orbT (treeT (lvT m d s n) s (pw d n) k).far (pw d n)) (pw d n) (1 + j)).2.length = 1 := by
      intro j
      induction j with
      | zero => intro _; rw [Nat.add_zero, orbS_first hp]; rfl
      | succ j ih =>
        intro hj
        have ih' := ih (by omega)
        have hP := orbL_P (n := n) g (1 + j) (by omega)
        rw [show 1 + (j + 1) = (1 + j) + 1 by omega, orbS, if_pos ((hP.seen (1 + j) (by omega)).2 ⟨0, by omega, (orbT_mem (D 0 hp).ok (1 + j)).2 (h 0 (1 + j) hp (by omega))⟩)]
        exact ih'
    have := hgo (pw d n - 1) (by omega)
    rw [show 1 + (pw d n - 1) = pw d n by omega] at this
    exact this
theorem far_mem {t : Tr} {N : Nat} (h : TrOk N t) : -1 ∈ t.far ↔ ∃ x, x < N ∧ x ∉ t.q := by
  constructor
  · intro hm
    obtain ⟨x, hx, e⟩ := List.getElem_of_mem hm
    have hx' : x < N := by rw [← h.fl]; exact hx
    refine ⟨x, hx', ?_⟩
    rcases h.F_cases hx' with h1 | h1
    · exact h1.2
    · have h2 := h1.2; unfold Tr.F at h2; rw [List.getD_eq_getElem?_getD, List.getElem?_eq_getElem hx, e] at h2; simp at h2
  · rintro ⟨x, hx, hn⟩
    rcases h.F_cases hx with h1 | h1
    · have h2 := h1.1; unfold Tr.F at h2
      rw [List.getD_eq_getElem?_getD, List.getElem?_eq_getElem (by rw [h.fl]; exact hx)] at h2
      exact List.mem_of_getElem (by simpa using h2)
    · exact absurd h1.1 hn
theorem diaL_some {f : Nat → List Int} : ∀ k, (∀ j, j < k → -1 ∉ f j) → ∃ o, diaL f k = some o ∧ ∀ j, j < k → ∀ x ∈ f j, x ≤ o
  | 0, _ => ⟨0, rfl, fun j hj => by omega⟩
  | k + 1, h => by
    obtain ⟨o, ho, hx⟩ := diaL_some k (fun j hj => h j (by omega))
    refine ⟨(f k).foldl max o, diaL_step ho (h k (by omega)), fun j hj x hxm => ?_⟩
    have hmax : ∀ (l : List Int) (a x : Int), x ∈ l → x ≤ l.foldl max a := by
      intro l
      induction l with
      | nil => intro a x hx; cases hx
      | cons y l ih =>
        intro a x hx
        rcases List.mem_cons.1 hx with rfl | hx
        · exact Int.le_trans (Int.le_max_right a x) (foldl_max_ge l _)
        · exact ih _ x hx
    by_cases e : j = k
    · subst e; exact hmax _ _ _ hxm
    · exact Int.le_trans (hx j (by omega) x hxm) (foldl_max_ge _ _)
theorem dia_all (g : Good m d s) : (AllR m d s n ↔ (diaR (diaL (farL m d s n) (pw d n))).2 = 0) ∧ (AllR m d s n → ∀ k, k < pw d n → ∀ x ∈ farL m d s n k, 0 ≤ x ∧ x ≤ (diaR (diaL (farL m d s n) (pw d n))).1) := by
  have ok := fun k (hk : k < pw d n) => farL_ok (n := n) g hk
  have hno : AllR m d s n → ∀ j, j < pw d n → -1 ∉ farL m d s n j := fun h j hj hm => by
    obtain ⟨x, hx, hq⟩ := (far_mem (ok j hj)).1 hm
    exact hq (h j x hj hx)
  refine ⟨⟨fun h => ?_, fun h k x hk hx => ?_⟩, fun h k hk x hx => ?_⟩
  · obtain ⟨o, ho, _⟩ := diaL_some (f := farL m d s n) (pw d n) (hno h)
    rw [ho]; rfl
  · apply Classical.byContradiction
    intro hn
    have hb : -1 ∈ farL m d s n k := (far_mem (ok k hk)).2 ⟨x, hx, hn⟩
    rw [diaL_bad hk hb] at h
    cases h
  · obtain ⟨o, ho, hle⟩ := diaL_some (f := farL m d s n) (pw d n) (hno h)
    rw [ho]
    refine ⟨?_, hle k hk x hx⟩
    rcases (ok k hk).far_cases hx with h1 | h1
    · subst h1; exact absurd hx (hno h k hk)
    · exact h1.1
end
/-- What a level tells, all at once. -/
theorem lev_law {m : Mach} {n k : Int} (h : (disAns m n k).2 = 0) : ∃ (N K : Nat) (D : Nat → List Int), 0 < N ∧ N ≤ 243 ∧ k = (K : Int) ∧ K < N ∧ (∀ x : Nat, x < N → disAns m n (x : Int) = (D x, 0) ∧ (D x).length = N) ∧
    (lvoAns m n).2 = 0 ∧ Parts (lvoAns m n).1 N ∧ ((diaAns m n).2 = 0 ↔ (lvoAns m n).1.length = 1) ∧ (D K).getD K 0 = 0 ∧ (∀ x : Nat, x < N → (D x).getD K 0 = (D K).getD x 0) ∧
    ((lvoAns m n).1.length = 1 → ∀ i : Nat, i < N → 0 ≤ (D K).getD i 0 ∧ (D K).getD i 0 ≤ (diaAns m n).1) := by
  by_cases h0 : levelI m n = 0
  · by_cases hk : inLv m n k
    · obtain ⟨d, s, n', gd, rfl, hn5, hnl, hpw⟩ := levelI_good h0
      obtain ⟨K, rfl⟩ := Int.eq_ofNat_of_zero_le hk.1
      have hK : K < pw d n' := by have := hk.2; rw [gd.L] at this; simp only [Int.toNat_natCast] at this; omega
      have hT : ∀ j fr, j < 2 * s → fr < pw d n' → lvT m d s n' j fr < pw d n' := fun j fr hj hf => lvT_lt gd j fr hj hf
      have hp : 0 < pw d n' := by omega
      rw [lvoAns_0 gd h0, diaAns_0 gd h0]
      have hda := dia_all (n := n') gd
      have hol := orbL_all (n := n') gd hp
      refine ⟨pw d n', K, farL m d s n', hp, hpw, rfl, hK, fun x hx => ⟨disAns_0 gd h0 hx, (farL_ok gd hx).fl⟩, rfl, orbL_parts gd, hda.1.symm.trans hol.symm, (treeT_D hK hT).k0, fun x hx => (far_sym (lvT_bak gd) hx hK hT).1, fun h1 i hi => ?_⟩
      have hfl := (farL_ok (n := n') gd hK).fl
      refine hda.2 (hol.1 h1) K hK _ ?_
      rw [List.getD_eq_getElem?_getD]
      have hi' : i < (farL m d s n' K).length := by rw [far_far, hfl]; exact hi
      rw [List.getElem?_eq_getElem hi']
      exact List.getElem_mem hi'
    · rw [disAns_2 h0 hk] at h; cases h
  · rw [disAns_c h0] at h; exact absurd h h0
end Go.Proofs.YthmcdfjijkecfaaGreat
