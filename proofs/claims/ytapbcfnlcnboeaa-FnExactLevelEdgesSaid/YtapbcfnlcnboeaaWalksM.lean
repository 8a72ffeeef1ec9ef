/- Closed walks on a graph: the counts, as the program and the reference add them up. -/
import Derived.Test.YtapbcfnlcnboeaaGraph
import Derived.Test.YtapbcfnlcnboeaaFixed
namespace Go.Proofs.Ytapbcfnlcnboeaa
open Go.RowKit
set_option linter.unusedVariables false
set_option linter.unusedSimpArgs false

theorem Own.arr (w : World) (base e : Nat) (cs : Array Value) (n : Nat) (hb : base ≤ w.heap.size) (hn : cs.size = n) (hm : n ≤ 1000000) :
    Own (w.alloc (.cells cs e)) base e (.slice (some ⟨w.heap.size, 0, none⟩) n n) cs.toList := by
  subst hn
  have := World.ownsRow_lit (base := base) (e := e) (size := 1) w cs cs.size hb (by simp only [maxLen]; omega) (by rw [Nat.mul_one])
  unfold Own
  rw [Array.length_toList]
  exact this
/-- How many of the first q maps lead i to p. -/
def cnt (f : Nat → Nat → Nat) (i p : Nat) : Nat → Nat
  | 0 => 0
  | q + 1 => cnt f i p q + (if f q i = p then 1 else 0)
/-- The counts that come from the first i words. -/
def acc (F B : Nat → Nat → Nat) (s : Nat) (W : Nat → Int) (p : Nat) : Nat → Int
  | 0 => 0
  | i + 1 => acc F B s W p i + W i * ((cnt F i p s + cnt B i p s : Nat) : Int)
/-- The numbers of walks of a length from a word. -/
def walkW (F B : Nat → Nat → Nat) (s M start : Nat) : Nat → Nat → Int
  | 0, p => if p = start then 1 else 0
  | t + 1, p => acc F B s (walkW F B s M start t) p M
/-- The closed ones from the first j words. -/
def totW (F B : Nat → Nat → Nat) (s M k : Nat) : Nat → Int
  | 0 => 0
  | j + 1 => totW F B s M k j + walkW F B s M j k j

theorem wrap64_add (a b : Int) : wrap64 (wrap64 a + wrap64 b) = wrap64 (a + b) := by unfold wrap64; omega
theorem wrap64_wrap64 (a : Int) : wrap64 (wrap64 a) = wrap64 a := by unfold wrap64; omega
theorem wrap64_mod (a : Int) : ∃ c, wrap64 a = a + c * 18446744073709551616 := ⟨-((a + 9223372036854775808) / 18446744073709551616), by unfold wrap64; omega⟩
theorem wrap64_of (a c : Int) : wrap64 (a + c * 18446744073709551616) = wrap64 a := by unfold wrap64; omega
theorem wrap64_zero {a : Int} (h : wrap64 a = 0) (x c : Int) : wrap64 (x + a * c) = wrap64 x := by
  obtain ⟨d, hd⟩ := wrap64_mod a
  rw [h] at hd
  have e : a = -d * 18446744073709551616 := by omega
  rw [e, show -d * 18446744073709551616 * c = (-d * c) * 18446744073709551616 by rw [Int.mul_assoc, Int.mul_comm 18446744073709551616 c, ← Int.mul_assoc]]
  exact wrap64_of _ _

/-- Counts as cells. -/
def wv (f : Nat → Int) (M : Nat) : List Value := (List.range M).map fun p => .int .i64 (wrap64 (f p))
theorem wv_length (f : Nat → Int) (M : Nat) : (wv f M).length = M := by simp [wv]
theorem wv_get (f : Nat → Int) (M p : Nat) (h : p < M) : (wv f M)[p]? = some (.int .i64 (wrap64 (f p))) := by simp [wv, h]
theorem wv_congr {f g : Nat → Int} {M : Nat} (h : ∀ p, p < M → wrap64 (f p) = wrap64 (g p)) : wv f M = wv g M := by
  unfold wv
  apply List.map_congr_left
  intro p hp
  rw [h p (List.mem_range.1 hp)]
theorem wv_set (f g : Nat → Int) (M p : Nat) (x : Int) (hx : x = wrap64 (g p)) (hg : ∀ j, j ≠ p → g j = f j) : (wv f M).set p (.int .i64 x) = wv g M := by
  apply List.ext_getElem?
  intro i
  rw [List.getElem?_set]
  by_cases h : p = i
  · subst h
    rw [if_pos rfl, wv_length]
    by_cases hp : p < M
    · rw [if_pos hp, wv_get g M p hp, hx]
    · rw [if_neg hp]; simp [wv, hp]
  · rw [if_neg h]
    simp only [wv, List.getElem?_map]
    by_cases hi : i < M
    · rw [List.getElem?_range hi, Option.map_some, Option.map_some, hg i (Ne.symm h)]
    · simp [hi]
theorem wv_zero (M : Nat) : List.replicate M (Value.int .i64 0) = wv (fun _ => 0) M := by
  apply List.ext_getElem?
  intro i
  by_cases h : i < M
  · simp [wv, h, wrap64]
  · simp [wv, h]
theorem wv_one (M start : Nat) : (List.replicate M (Value.int .i64 0)).set start (.int .i64 1) = wv (fun p => if p = start then 1 else 0) M := by
  rw [wv_zero]
  exact wv_set _ _ M start 1 (by simp [wrap64]) (fun j hj => by simp [hj])

/-- One more: the counts behind the maps F (f of them) and B (b of them) at the word i. -/
def part (F B : Nat → Nat → Nat) (s : Nat) (W : Nat → Int) (i f b : Nat) (p : Nat) : Int := acc F B s W p i + W i * ((cnt F i p f + cnt B i p b : Nat) : Int)
theorem part_zero (F B : Nat → Nat → Nat) (s : Nat) (W : Nat → Int) (i p : Nat) : part F B s W i 0 0 p = acc F B s W p i := by simp [part, cnt]
theorem part_all (F B : Nat → Nat → Nat) (s : Nat) (W : Nat → Int) (i p : Nat) : part F B s W i s s p = acc F B s W p (i + 1) := rfl
theorem part_F (F B : Nat → Nat → Nat) (s : Nat) (W : Nat → Int) (i f b : Nat) :
    part F B s W i (f + 1) b (F f i) = part F B s W i f b (F f i) + W i ∧ ∀ j, j ≠ F f i → part F B s W i (f + 1) b j = part F B s W i f b j := by
  refine ⟨?_, fun j hj => ?_⟩
  · unfold part
    have : cnt F i (F f i) (f + 1) = cnt F i (F f i) f + 1 := by simp [cnt]
    rw [this, show ((cnt F i (F f i) f + 1 + cnt B i (F f i) b : Nat) : Int) = ((cnt F i (F f i) f + cnt B i (F f i) b : Nat) : Int) + 1 by omega, Int.mul_add, Int.mul_one, Int.add_assoc]
  · unfold part
    have : cnt F i j (f + 1) = cnt F i j f := by simp [cnt, Ne.symm hj]
    rw [this]
theorem part_B (F B : Nat → Nat → Nat) (s : Nat) (W : Nat → Int) (i f b : Nat) :
    part F B s W i f (b + 1) (B b i) = part F B s W i f b (B b i) + W i ∧ ∀ j, j ≠ B b i → part F B s W i f (b + 1) j = part F B s W i f b j := by
  refine ⟨?_, fun j hj => ?_⟩
  · unfold part
    have : cnt B i (B b i) (b + 1) = cnt B i (B b i) b + 1 := by simp [cnt]
    rw [this, show ((cnt F i (B b i) f + (cnt B i (B b i) b + 1) : Nat) : Int) = ((cnt F i (B b i) f + cnt B i (B b i) b : Nat) : Int) + 1 by omega, Int.mul_add, Int.mul_one, Int.add_assoc]
  · unfold part
    have : cnt B i j (b + 1) = cnt B i j b := by simp [cnt, Ne.symm hj]
    rw [this]
theorem part_setF (F B : Nat → Nat → Nat) (s M : Nat) (W : Nat → Int) (i f b : Nat) (x : Int) (hx : x = wrap64 (wrap64 (part F B s W i f b (F f i)) + wrap64 (W i))) :
    (wv (part F B s W i f b) M).set (F f i) (.int .i64 x) = wv (part F B s W i (f + 1) b) M :=
  wv_set _ _ M _ x (by rw [hx, wrap64_add, (part_F F B s W i f b).1]) (part_F F B s W i f b).2
theorem part_setB (F B : Nat → Nat → Nat) (s M : Nat) (W : Nat → Int) (i f b : Nat) (x : Int) (hx : x = wrap64 (wrap64 (part F B s W i f b (B b i)) + wrap64 (W i))) :
    (wv (part F B s W i f b) M).set (B b i) (.int .i64 x) = wv (part F B s W i f (b + 1)) M :=
  wv_set _ _ M _ x (by rw [hx, wrap64_add, (part_B F B s W i f b).1]) (part_B F B s W i f b).2
theorem part_skip (F B : Nat → Nat → Nat) (s M : Nat) (W : Nat → Int) (i : Nat) (h : wrap64 (W i) = 0) : wv (part F B s W i 0 0) M = wv (part F B s W i s s) M :=
  wv_congr fun p _ => by unfold part; rw [wrap64_zero h, wrap64_zero h]

open Classical in
/-- What ClosedWalks answers. -/
noncomputable def walksAns (m : Mach) (n k : Int) : Int × Int :=
  if levelI m n = 0 then
    if n ≤ 6 - m.L ∧ 0 ≤ k ∧ k ≤ 10 then (wrap64 (totW (fun q i => pf m m.L.toNat q n.toNat i) (fun q i => pf (inv m m.L.toNat m.S.toNat) m.L.toNat q n.toNat i) m.S.toNat (pw m.L.toNat n.toNat) k.toNat (pw m.L.toNat n.toNat)), 0) else (0, 2)
  else (0, levelI m n)
theorem walksAns_c {m : Mach} {n k : Int} (h : levelI m n ≠ 0) : walksAns m n k = (0, levelI m n) := by unfold walksAns; rw [if_neg h]
theorem walksAns_2 {m : Mach} {l s : Nat} {n k : Int} (g : Good m l s) (h : levelI m n = 0) (hk : ¬ (n ≤ 6 - (l : Int) ∧ 0 ≤ k ∧ k ≤ 10)) : walksAns m n k = (0, 2) := by unfold walksAns; rw [if_pos h, g.L, if_neg hk]
theorem walksAns_0 {m : Mach} {l s n k : Nat} (g : Good m l s) (h : levelI m n = 0) (hk : (n : Int) ≤ 6 - (l : Int) ∧ k ≤ 10) :
    walksAns m n k = (wrap64 (totW (fun q i => pf m l q n i) (fun q i => pf (inv m l s) l q n i) s (pw l n) k (pw l n)), 0) := by
  unfold walksAns
  rw [if_pos h, g.L, g.S, if_pos ⟨hk.1, by omega, by omega⟩]
  rfl
end Go.Proofs.Ytapbcfnlcnboeaa
