/- What the proof of FnLevels leans on, part 1 of 19. -/
import Derived.WalkKit
import Derived.Deep.OwnRows
import Derived.Below
import Derived.Deep.Draws
import Derived.Laws.Rows
import Derived.Laws.BitsAllLaws
import Derived.Laws.BitsLemmas
import Derived.Test.YthmcdfjijkecfaaGreatProg
import Derived.Deep.QuietTactic
import Derived.BigQuiet
import Derived.Outline
import Derived.WideLaws
import Derived.Deep.MidRow
/- A machine as a datum (letters, states, what each state goes on to and puts out), its 98 cells in memory, and how they are read and written. -/
namespace Go.Proofs.YthmcdfjijkecfaaGreat
open Go.RowKit
set_option linter.unusedVariables false
set_option linter.unusedSimpArgs false

/-- A machine: the flat place 3 * q + x tells of the state q and the letter x. -/
structure Mach where
  L : Int
  S : Int
  nx : Nat → Nat
  ot : Nat → Nat

/-- Its cells, by their places. -/
def mf (m : Mach) (i : Nat) : Value :=
  if i = 0 then .int .i64 m.L else if i = 1 then .int .i64 m.S else if i < 50 then .int .u8 (m.nx (i - 2) : Nat) else .int .u8 (m.ot (i - 50) : Nat)

def mcells (m : Mach) : Array Value := (List.map (mf m) (List.range 98)).toArray

/-- All its entries are bytes. -/
def Mach.Ok (m : Mach) : Prop := ∀ i, m.nx i < 256 ∧ m.ot i < 256

theorem size_mcells (m : Mach) : (mcells m).size = 98 := by simp [mcells]
theorem mcells_get (m : Mach) (i : Nat) (h : i < 98) : (mcells m)[i]? = some (mf m i) := by
  simp [mcells, h]

theorem mf_L (m : Mach) : mf m 0 = .int .i64 m.L := rfl
theorem mf_S (m : Mach) : mf m 1 = .int .i64 m.S := rfl
theorem mf_nx (m : Mach) (q x : Nat) (hq : q < 16) (hx : x < 3) : mf m (2 + q * 3 + x) = .int .u8 (m.nx (q * 3 + x) : Nat) := by
  unfold mf
  rw [if_neg (by omega), if_neg (by omega), if_pos (by omega)]
  congr 3; omega
theorem mf_ot (m : Mach) (q x : Nat) : mf m (50 + q * 3 + x) = .int .u8 (m.ot (q * 3 + x) : Nat) := by
  unfold mf
  rw [if_neg (by omega), if_neg (by omega), if_neg (by omega)]
  congr 3; omega

theorem mcells_L (m : Mach) : (mcells m)[0]? = some (.int .i64 m.L) := by rw [mcells_get m 0 (by omega)]; rfl
theorem mcells_S (m : Mach) : (mcells m)[1]? = some (.int .i64 m.S) := by rw [mcells_get m 1 (by omega)]; rfl
theorem mcells_nx (m : Mach) (q x : Nat) (hq : q < 16) (hx : x < 3) : (mcells m)[2 + q * 3 + x]? = some (.int .u8 (m.nx (q * 3 + x) : Nat)) := by
  rw [mcells_get m _ (by omega), mf_nx m q x hq hx]
theorem mcells_ot (m : Mach) (q x : Nat) (hq : q < 16) (hx : x < 3) : (mcells m)[50 + q * 3 + x]? = some (.int .u8 (m.ot (q * 3 + x) : Nat)) := by
  rw [mcells_get m _ (by omega), mf_ot m q x]

/-- A machine lies in block b. -/
def MB (w : World) (t b : Nat) (m : Mach) : Prop := w.rowIs b t 98 (mf m)

section
variable {w : World} {t b : Nat} {m : Mach}
theorem MB.cL (h : MB w t b m) : w.cell? ⟨b, 0, none⟩ = some (.int .i64 m.L) := h.cell (by omega)
theorem MB.cS (h : MB w t b m) : w.cell? ⟨b, 1, none⟩ = some (.int .i64 m.S) := h.cell (by omega)
theorem MB.cnx (h : MB w t b m) (q x : Nat) (hq : q < 16) (hx : x < 3) : w.cell? ⟨b, 2 + q * 3 + x, none⟩ = some (.int .u8 (m.nx (q * 3 + x) : Nat)) := by
  have := World.rowIs.cell h (i := 2 + q * 3 + x) (by omega)
  rw [mf_nx m q x hq hx] at this
  exact this
theorem MB.cot (h : MB w t b m) (q x : Nat) (hq : q < 16) (hx : x < 3) : w.cell? ⟨b, 50 + q * 3 + x, none⟩ = some (.int .u8 (m.ot (q * 3 + x) : Nat)) := by
  have := World.rowIs.cell h (i := 50 + q * 3 + x) (by omega)
  rw [mf_ot m q x] at this
  exact this
theorem MB.lt (h : MB w t b m) : b < w.heap.size := World.rowIs.lt h
theorem MB.alloc (h : MB w t b m) (o : Obj) : MB (w.alloc o) t b m := World.rowIs.alloc h o
theorem MB.drew (h : MB w t b m) : MB w.drew t b m := h
theorem MB.drewN (h : MB w t b m) (n : Nat) : MB (w.drewN n) t b m := h
theorem MB.below {B : Nat} {w' : World} (h : MB w t b m) (hb : Below B w w') (hB : b < B) : MB w' t b m := World.rowIs.of_block h (hb.block b hB)
theorem MB.new (w : World) (m : Mach) (t : Nat) : MB (w.alloc (.cells (mcells m) t)) t w.heap.size m := by
  have := World.rowIs_alloc w (mcells m) t (mf m) (fun i hi => mcells_get m i (by rw [size_mcells] at hi; exact hi))
  rw [size_mcells] at this
  exact this
theorem MB.setOther (h : MB w t b m) {a : Addr} (ha : b ≠ a.block) (v : Value) : MB (w.setCell a v) t b m := World.rowIs.setOther h ha v
end

/-- One entry anew. -/
def upd (f : Nat → Nat) (i v : Nat) : Nat → Nat := fun j => if j = i then v else f j

theorem MB.setNx {w : World} {t b : Nat} {m : Mach} (h : MB w t b m) (q x v : Nat) (hq : q < 16) (hx : x < 3) :
    MB (w.setCell ⟨b, 2 + q * 3 + x, none⟩ (.int .u8 (v : Nat))) t b { m with nx := upd m.nx (q * 3 + x) v } := by
  refine World.rowIs.congr (World.rowIs.set h (2 + q * 3 + x) _) (fun i hi => ?_)
  unfold mf upd
  by_cases e : i = 2 + q * 3 + x
  · rw [if_pos e, if_neg (by omega), if_neg (by omega), if_pos (by omega)]
    dsimp only
    rw [if_pos (by omega)]
  · rw [if_neg e]
    by_cases h0 : i = 0
    · rw [if_pos h0, if_pos h0]
    · by_cases h1 : i = 1
      · rw [if_neg h0, if_pos h1, if_neg h0, if_pos h1]
      · rw [if_neg h0, if_neg h1, if_neg h0, if_neg h1]
        dsimp only
        rw [if_neg (show ¬ i - 2 = q * 3 + x by omega)]

theorem MB.setOt {w : World} {t b : Nat} {m : Mach} (h : MB w t b m) (q x v : Nat) (hq : q < 16) (hx : x < 3) :
    MB (w.setCell ⟨b, 50 + q * 3 + x, none⟩ (.int .u8 (v : Nat))) t b { m with ot := upd m.ot (q * 3 + x) v } := by
  refine World.rowIs.congr (World.rowIs.set h (50 + q * 3 + x) _) (fun i hi => ?_)
  unfold mf upd
  by_cases e : i = 50 + q * 3 + x
  · rw [if_pos e, if_neg (by omega), if_neg (by omega), if_neg (by omega)]
    dsimp only
    rw [if_pos (by omega)]
  · rw [if_neg e]
    by_cases h0 : i = 0
    · rw [if_pos h0, if_pos h0]
    · by_cases h1 : i = 1
      · rw [if_neg h0, if_pos h1, if_neg h0, if_pos h1]
      · rw [if_neg h0, if_neg h1, if_neg h0, if_neg h1]
        by_cases h2 : i < 50
        · rw [if_pos h2, if_pos h2]
        · rw [if_neg h2, if_neg h2]
          dsimp only
          rw [if_neg (show ¬ i - 50 = q * 3 + x by omega)]

/-- The cells of a block that is a machine. -/
theorem MB.heap {w : World} {t b : Nat} {m : Mach} (h : MB w t b m) : w.heap[b]? = some (.cells (mcells m) t (0, 0)) := by
  obtain ⟨c, hb, hn, hc⟩ := h
  have : c = mcells m := by
    apply Array.ext (by rw [hn, size_mcells])
    intro i h1 h2
    have e1 := hc i (by omega)
    have e2 := mcells_get m i (by omega)
    rw [Array.getElem?_eq_getElem h1] at e1
    rw [Array.getElem?_eq_getElem h2] at e2
    exact Option.some.inj (e1.trans e2.symm)
  rw [hb, this]

theorem retB {a b : Bool} (h : a = b) : Ending.returned (.bool a) = .returned (.bool b) := by rw [h]
theorem retI {k : IntKind} {a b : Int} (h : a = b) : Ending.returned (.int k a) = .returned (.int k b) := by rw [h]
theorem retS {a b : ByteArray} (h : a = b) : Ending.returned (.string a) = .returned (.string b) := by rw [h]
/-- A Bool that tells of a statement, closed to the walk. -/
def Tells (r : Bool) (p : Prop) : Prop := r = true ↔ p
theorem Tells.out {r : Bool} {p : Prop} (h : Tells r p) : r = true ↔ p := h
/-- A fact kept from the walk. -/
theorem hid {p : Prop} (h : p) : Hid p := h
theorem byte_mod (n : Nat) (h : n < 256) : ((n : Int) % 256) = n := by omega
end Go.Proofs.YthmcdfjijkecfaaGreat

/- Plain: a map of n numbers into themselves meets all of them just if it meets none twice; bits of numbers. -/
namespace Go.Proofs.YthmcdfjijkecfaaGreat
open Go.RowKit
set_option linter.unusedVariables false
set_option linter.unusedSimpArgs false

def InjOn (f : Nat → Nat) (n : Nat) : Prop := ∀ i j, i < j → j < n → f i ≠ f j
def SurjOn (f : Nat → Nat) (n : Nat) : Prop := ∀ k, k < n → ∃ i, i < n ∧ f i = k

theorem inj_le : ∀ (n m : Nat) (f : Nat → Nat), (∀ i, i < n → f i < m) → InjOn f n → n ≤ m
  | 0, m, f, _, _ => Nat.zero_le _
  | n + 1, m, f, hf, hi => by
    have hm : 0 < m := by have := hf 0 (by omega); omega
    obtain ⟨m, rfl⟩ : ∃ k, m = k + 1 := ⟨m - 1, by omega⟩
    have := inj_le n m (fun i => if f i = m then f n else f i) (fun i h => by
        have h1 := hf i (by omega)
        have h2 := hf n (by omega)
        have h3 := hi i n h (by omega)
        split <;> omega)
      (fun i j hij hj => by
        have h3 := hi i n (by omega) (by omega)
        have h4 := hi j n (by omega) (by omega)
        have h5 := hi i j hij (by omega)
        dsimp only
        split <;> split <;> omega)
    omega

theorem surj_of_inj {f : Nat → Nat} {n : Nat} (hf : ∀ i, i < n → f i < n) (hi : InjOn f n) : SurjOn f n := fun k hk => by
  apply Classical.byContradiction
  intro hno
  have hne : ∀ i, i < n → f i ≠ k := fun i h e => hno ⟨i, h, e⟩
  have := inj_le n (n - 1) (fun i => if f i < k then f i else f i - 1) (fun i h => by
      have h1 := hf i h
      have h2 := hne i h
      split <;> omega)
    (fun i j hij hj => by
      have h1 := hne i (by omega)
      have h2 := hne j hj
      have h5 := hi i j hij hj
      dsimp only
      split <;> split <;> omega)
  omega

theorem inj_of_surj {f : Nat → Nat} {n : Nat} (hs : SurjOn f n) : InjOn f n := by
  have hg : ∃ g : Nat → Nat, ∀ k, k < n → g k < n ∧ f (g k) = k := by
    refine ⟨fun k => if h : k < n then Classical.choose (hs k h) else 0, fun k h => ?_⟩
    dsimp only
    rw [dif_pos h]
    exact Classical.choose_spec (hs k h)
  obtain ⟨g, hg⟩ := hg
  have gi : InjOn g n := fun i j hij hj e => by
    have h1 := (hg i (by omega)).2
    have h2 := (hg j hj).2
    rw [e, h2] at h1
    omega
  have gs := surj_of_inj (fun i h => (hg i h).1) gi
  intro i j hij hj e
  obtain ⟨a, ha, ea⟩ := gs i (by omega)
  obtain ⟨b, hb, eb⟩ := gs j hj
  have h1 := (hg a ha).2
  have h2 := (hg b hb).2
  rw [ea] at h1
  rw [eb] at h2
  have hab : a = b := by omega
  subst hab
  omega

theorem or_nat (a b : Nat) (ha : a < 9223372036854775808) (hb : b < 9223372036854775808) : bits BinOp.or IntKind.i64 (a : Int) (b : Int) = ((a ||| b : Nat) : Int) := by
  have hx : a ||| b < 2 ^ 63 := Nat.or_lt_two_pow (by omega) (by omega)
  have hy : 2 ^ 63 = 9223372036854775808 := by decide
  have ea : (BitVec.ofInt 64 (a : Int)).toNat = a := by rw [BitVec.ofInt_natCast, BitVec.toNat_ofNat]; exact Nat.mod_eq_of_lt (by omega)
  have eb : (BitVec.ofInt 64 (b : Int)).toNat = b := by rw [BitVec.ofInt_natCast, BitVec.toNat_ofNat]; exact Nat.mod_eq_of_lt (by omega)
  show IntKind.i64.wrap ((BitVec.ofInt 64 (a : Int) ||| BitVec.ofInt 64 (b : Int)).toNat : Int) = _
  rw [BitVec.toNat_or, ea, eb, IntKind.wrap_i64]
  omega

/-- The bits of the numbers met so far. -/
def orAll (f : Nat → Nat) : Nat → Nat
  | 0 => 0
  | q + 1 => orAll f q ||| (1 <<< f q)

theorem testBit_one_shift (o k : Nat) : (1 <<< o).testBit k = decide (k = o) := by
  rw [Nat.shiftLeft_eq, Nat.one_mul, Nat.testBit_two_pow]
  simp only [decide_eq_decide]
  omega

theorem orAll_bits (f : Nat → Nat) : ∀ q k, (orAll f q).testBit k = true ↔ ∃ p, p < q ∧ f p = k
  | 0, k => by simp [orAll]
  | q + 1, k => by
    unfold orAll
    rw [Nat.testBit_or, Bool.or_eq_true, orAll_bits f q k, testBit_one_shift, decide_eq_true_eq]
    constructor
    · rintro (⟨p, hp, e⟩ | e)
      · exact ⟨p, by omega, e⟩
      · exact ⟨q, by omega, e.symm⟩
    · rintro ⟨p, hp, e⟩
      by_cases h : p = q
      · subst h; exact .inr e.symm
      · exact .inl ⟨p, by omega, e⟩

theorem orAll_lt (f : Nat → Nat) (n : Nat) : ∀ q, (∀ p, p < q → f p < n) → orAll f q < 2 ^ n
  | 0, _ => by simp [orAll, Nat.two_pow_pos]
  | q + 1, h => by
    unfold orAll
    refine Nat.or_lt_two_pow (orAll_lt f n q fun p hp => h p (by omega)) ?_
    rw [Nat.shiftLeft_eq, Nat.one_mul]
    exact Nat.pow_lt_pow_right (by omega) (h q (by omega))

theorem orAll_full (f : Nat → Nat) (n : Nat) (hf : ∀ p, p < n → f p < n) : orAll f n = 2 ^ n - 1 ↔ InjOn f n := by
  constructor
  · intro h
    refine inj_of_surj fun k hk => ?_
    have : (orAll f n).testBit k = true := by rw [h, Nat.testBit_two_pow_sub_one]; exact decide_eq_true hk
    exact (orAll_bits f n k).1 this
  · intro h
    have hs := surj_of_inj hf h
    apply Nat.eq_of_testBit_eq
    intro k
    rw [Nat.testBit_two_pow_sub_one, Bool.eq_iff_iff, orAll_bits, decide_eq_true_eq]
    exact ⟨fun ⟨p, hp, e⟩ => e ▸ hf p hp, fun hk => hs k hk⟩
end Go.Proofs.YthmcdfjijkecfaaGreat

/- The tree of a word in a graph: plain law. -/
namespace Go.Proofs.YthmcdfjijkecfaaGreat
set_option linter.unusedVariables false
set_option linter.unusedSimpArgs false

/-- A tree: its queue, the distances, the ways. -/
structure Tr where
  q : List Nat
  far : List Int
  ways : List (List Int)
/-- What one step from fr tx `tx` does. -/
def meetT (t : Tr) (fr tx : Nat) (st : Int) : Tr :=
  if t.far.getD tx 0 < 0 then ⟨t.q ++ [tx], t.far.set tx (t.far.getD fr 0 + 1), t.ways.set tx (t.ways.getD fr [] ++ [st])⟩ else t
/-- The step by table j of 2s. -/
def stpT (s j : Nat) : Int := if j < s then (j : Int) + 1 else (s : Int) - (j : Int) - 1
/-- The first j steps from fr. -/
def rndT (T : Nat → Nat → Nat) (s : Nat) (t : Tr) (fr : Nat) : Nat → Tr
  | 0 => t
  | j + 1 => meetT (rndT T s t fr j) fr (T j fr) (stpT s j)
def tr0 (n k : Nat) : Tr := ⟨[k], (List.replicate n (-1)).set k 0, List.replicate n []⟩
/-- The tree when i words of the queue are done. -/
def growT (T : Nat → Nat → Nat) (s n k : Nat) : Nat → Tr
  | 0 => tr0 n k
  | i + 1 => match (growT T s n k i).q[i]? with
    | some fr => rndT T s (growT T s n k i) fr (2 * s)
    | none => growT T s n k i
/-- The tree. -/
def treeT (T : Nat → Nat → Nat) (s n k : Nat) : Tr := growT T s n k n

theorem nodup_le {n : Nat} {q : List Nat} (hd : q.Nodup) (hb : ∀ x ∈ q, x < n) : q.length ≤ n := by
  refine inj_le q.length n (fun i => q.getD i 0) (fun i hi => ?_) ?_
  · simp only [List.getD_eq_getElem?_getD, List.getElem?_eq_getElem hi, Option.getD_some]
    exact hb _ (List.getElem_mem hi)
  · intro i j hij hj e
    have hi : i < q.length := by omega
    simp only [List.getD_eq_getElem?_getD, List.getElem?_eq_getElem hi, List.getElem?_eq_getElem hj, Option.getD_some] at e
    exact List.pairwise_iff_getElem.1 hd i j hi hj hij e

structure TrOk (n : Nat) (t : Tr) : Prop where
  fl : t.far.length = n
  wl : t.ways.length = n
  nd : t.q.Nodup
  qb : ∀ x ∈ t.q, x < n
  fb : ∀ (x : Nat) (v : Int), t.far[x]? = some v → (v = -1 ∧ x ∉ t.q) ∨ (x ∈ t.q ∧ 0 ≤ v ∧ v < t.q.length)
  wb : ∀ (x : Nat) (u : List Int), t.ways[x]? = some u → u.length < t.q.length
theorem TrOk.ql {n : Nat} {t : Tr} (h : TrOk n t) : t.q.length ≤ n := nodup_le h.nd h.qb
theorem tr0_ok {n k : Nat} (hk : k < n) : TrOk n (tr0 n k) where
  fl := by simp [tr0]
  wl := by simp [tr0]
  nd := by simp [tr0]
  qb := fun x hx => by simp [tr0] at hx; omega
  fb := fun x v hv => by
    simp only [tr0, List.getElem?_set] at hv
    by_cases e : k = x
    · subst e
      simp [hk] at hv
      subst hv
      exact .inr ⟨by simp [tr0], by omega, by simp [tr0]⟩
    · rw [if_neg e] at hv
      rw [List.getElem?_replicate] at hv
      split at hv
      · injection hv with hv
        exact .inl ⟨hv.symm, by simp [tr0]; omega⟩
      · simp at hv
  wb := fun x u hu => by
    simp only [tr0, List.getElem?_replicate] at hu
    split at hu
    · injection hu with hu
      subst hu; simp [tr0]
    · simp at hu
theorem TrOk.meet {n : Nat} {t : Tr} (h : TrOk n t) {fr tx : Nat} (st : Int) (hfr : fr ∈ t.q) (hto : tx < n) : TrOk n (meetT t fr tx st) := by
  unfold meetT
  split
  · rename_i hneg
    have hfn := h.qb fr hfr
    have e1 : t.far[tx]? = some (t.far.getD tx 0) := by
      rw [List.getD_eq_getElem?_getD, List.getElem?_eq_getElem (by rw [h.fl]; exact hto)]; rfl
    have e2 : t.far[fr]? = some (t.far.getD fr 0) := by
      rw [List.getD_eq_getElem?_getD, List.getElem?_eq_getElem (by rw [h.fl]; exact hfn)]; rfl
    have e3 : t.ways[fr]? = some (t.ways.getD fr []) := by
      rw [List.getD_eq_getElem?_getD, List.getElem?_eq_getElem (by rw [h.wl]; exact hfn)]; rfl
    have hnq : tx ∉ t.q := by
      rcases h.fb tx _ e1 with h1 | h1
      · exact h1.2
      · omega
    have hff : 0 ≤ t.far.getD fr 0 ∧ t.far.getD fr 0 < t.q.length := by
      rcases h.fb fr _ e2 with h1 | h1
      · exact absurd hfr h1.2
      · exact h1.2
    exact {
      fl := by simp [h.fl]
      wl := by simp [h.wl]
      nd := by
        refine List.nodup_append.2 ⟨h.nd, by simp, fun a ha b hb => ?_⟩
        simp at hb; subst hb
        intro e; subst e; exact hnq ha
      qb := fun x hx => by
        rcases List.mem_append.1 hx with hx | hx
        · exact h.qb x hx
        · simp at hx; omega
      fb := fun x v hv => by
        simp only [List.getElem?_set] at hv
        by_cases e : tx = x
        · subst e
          simp [h.fl, hto] at hv
          subst hv
          exact .inr ⟨by simp, by rw [← List.getD_eq_getElem?_getD]; omega, by rw [← List.getD_eq_getElem?_getD]; simp only [List.length_append, List.length_singleton]; omega⟩
        · rw [if_neg e] at hv
          rcases h.fb x v hv with ⟨h1, h2⟩ | ⟨h1, h2, h3⟩
          · exact .inl ⟨h1, by simp; exact ⟨h2, fun e' => e e'.symm⟩⟩
          · exact .inr ⟨by simp [h1], h2, by simp only [List.length_append, List.length_singleton]; omega⟩
      wb := fun x u hu => by
        have hw := h.wb fr _ e3
        simp only [List.getElem?_set] at hu
        by_cases e : tx = x
        · subst e
          simp only [h.wl, hto, if_true] at hu
          injection hu with hu
          subst hu
          simp only [List.length_append, List.length_singleton]; omega
        · rw [if_neg e] at hu
          have := h.wb x u hu
          simp only [List.length_append, List.length_singleton]; omega }
  · exact h
theorem meetT_mem {t : Tr} {fr tx : Nat} {st : Int} {x : Nat} (h : x ∈ t.q) : x ∈ (meetT t fr tx st).q := by
  unfold meetT; split
  · simp [h]
  · exact h
theorem meetT_get {t : Tr} {fr tx : Nat} {st : Int} {i x : Nat} (h : t.q[i]? = some x) : (meetT t fr tx st).q[i]? = some x := by
  unfold meetT; split
  · show (t.q ++ [tx])[i]? = some x
    rw [List.getElem?_append_left (List.getElem?_eq_some_iff.1 h).1]; exact h
  · exact h
theorem rndT_ok {T : Nat → Nat → Nat} {s n : Nat} {t : Tr} (h : TrOk n t) {fr : Nat} (hfr : fr ∈ t.q) (hT : ∀ j, j < 2 * s → T j fr < n) :
    ∀ j, j ≤ 2 * s → TrOk n (rndT T s t fr j) ∧ fr ∈ (rndT T s t fr j).q
  | 0, _ => ⟨h, hfr⟩
  | j + 1, hj => by
    have ih := rndT_ok h hfr hT j (by omega)
    exact ⟨ih.1.meet _ ih.2 (hT j (by omega)), meetT_mem ih.2⟩
theorem rndT_get {T : Nat → Nat → Nat} {s : Nat} {t : Tr} {fr i x : Nat} (h : t.q[i]? = some x) : ∀ j, (rndT T s t fr j).q[i]? = some x
  | 0 => h
  | j + 1 => meetT_get (rndT_get h j)
theorem growT_ok {T : Nat → Nat → Nat} {s n k : Nat} (hk : k < n) (hT : ∀ j fr, j < 2 * s → fr < n → T j fr < n) : ∀ i, TrOk n (growT T s n k i)
  | 0 => tr0_ok hk
  | i + 1 => by
    have ih := growT_ok hk hT i
    unfold growT
    split
    · rename_i fr hfr
      have hm := List.mem_of_getElem? hfr
      exact (rndT_ok ih hm (fun j hj => hT j fr hj (ih.qb fr hm)) _ (Nat.le_refl _)).1
    · exact ih
theorem growT_step {T : Nat → Nat → Nat} {s n k i fr : Nat} (h : (growT T s n k i).q[i]? = some fr) : growT T s n k (i + 1) = rndT T s (growT T s n k i) fr (2 * s) := by
  rw [growT, h]
theorem growT_stop {T : Nat → Nat → Nat} {s n k i : Nat} (h : (growT T s n k i).q.length ≤ i) : ∀ j, growT T s n k (i + j) = growT T s n k i
  | 0 => rfl
  | j + 1 => by
    have ih := growT_stop h j
    show growT T s n k (i + j + 1) = _
    rw [growT, ih, List.getElem?_eq_none (by omega)]
theorem growT_end {T : Nat → Nat → Nat} {s n k i : Nat} (hi : i ≤ n) (h : (growT T s n k i).q.length ≤ i) : treeT T s n k = growT T s n k i := by
  obtain ⟨j, rfl⟩ := Nat.exists_eq_add_of_le hi
  exact growT_stop (n := i + j) h j
theorem rndT_len {T : Nat → Nat → Nat} {s : Nat} {t : Tr} {fr : Nat} : ∀ j, t.q.length ≤ (rndT T s t fr j).q.length
  | 0 => Nat.le_refl _
  | j + 1 => by
    have ih := rndT_len (T := T) (s := s) (t := t) (fr := fr) j
    show _ ≤ (meetT _ _ _ _).q.length
    unfold meetT; split
    · show _ ≤ (_ ++ [_]).length
      simp; omega
    · exact ih
end Go.Proofs.YthmcdfjijkecfaaGreat

/- What is a machine: the program's isRow and IsMachine and the reference's l01Is say the same. -/
namespace Go.Proofs.YthmcdfjijkecfaaGreat
open Go.RowKit
set_option linter.unusedVariables false
set_option linter.unusedSimpArgs false

theorem bit_test : ∀ s : Nat, s < 8 → ∀ o : Nat, o < 3 → (bits BinOp.and IntKind.i64 ((s : Int) / 2 ^ o) 1 == 1) = s.testBit o := by decide +kernel
theorem bit_or : ∀ s : Nat, s < 8 → ∀ o : Nat, o < 3 → bits BinOp.or IntKind.i64 (s : Int) (wrap64 (2 ^ o)) = ((s ||| (1 <<< o) : Nat) : Int) := by decide +kernel
theorem bit_lt : ∀ s : Nat, s < 8 → ∀ o : Nat, o < 3 → s ||| (1 <<< o) < 8 := by decide +kernel
theorem bit_new : ∀ s : Nat, s < 8 → ∀ o : Nat, o < 3 → ∀ k : Nat, k < 3 → (s ||| (1 <<< o)).testBit k = (s.testBit k || decide (k = o)) := by decide +kernel

/-- What is asked of the letter x of the state q. -/
def CellOk (m : Mach) (q x : Nat) : Prop :=
  if (q : Int) < m.S ∧ (x : Int) < m.L then
    (m.nx (q * 3 + x) : Int) < m.S ∧ (m.ot (q * 3 + x) : Int) < m.L ∧ ∀ y, y < x → m.ot (q * 3 + y) ≠ m.ot (q * 3 + x)
  else m.nx (q * 3 + x) = 0 ∧ m.ot (q * 3 + x) = 0
def RowOk (m : Mach) (q : Nat) : Prop := ∀ x, x < 3 → CellOk m q x
/-- What a machine is. -/
def IsM (m : Mach) : Prop := 2 ≤ m.L ∧ m.L ≤ 3 ∧ 1 ≤ m.S ∧ m.S ≤ 16 ∧ ∀ q, q < 16 → RowOk m q

/-- The letters put out so far, as bits. -/
def mask (m : Mach) (q : Nat) : Nat → Nat
  | 0 => 0
  | x + 1 => if (q : Int) < m.S ∧ (x : Int) < m.L then mask m q x ||| (1 <<< m.ot (q * 3 + x)) else mask m q x

theorem mask_bits (m : Mach) (q : Nat) (hL : m.L ≤ 3) : ∀ x, x ≤ 3 → (∀ y, y < x → CellOk m q y) →
    mask m q x < 8 ∧ ∀ k, k < 3 → ((mask m q x).testBit k = true ↔ ∃ y, y < x ∧ (q : Int) < m.S ∧ (y : Int) < m.L ∧ m.ot (q * 3 + y) = k)
  | 0, _, _ => ⟨by simp [mask], fun k _ => by simp [mask]⟩
  | x + 1, hx, h => by
    obtain ⟨h1, h2⟩ := mask_bits m q hL x (by omega) (fun y hy => h y (by omega))
    have hc := h x (by omega)
    unfold CellOk at hc
    unfold mask
    by_cases hq : (q : Int) < m.S ∧ (x : Int) < m.L
    · rw [if_pos hq] at hc ⊢
      refine ⟨bit_lt _ h1 _ (by omega), fun k hk => ?_⟩
      rw [bit_new _ h1 _ (by omega) k hk, Bool.or_eq_true, h2 k hk, decide_eq_true_eq]
      constructor
      · rintro (⟨y, hy, r⟩ | rfl)
        · exact ⟨y, by omega, r⟩
        · exact ⟨x, by omega, hq.1, hq.2, rfl⟩
      · rintro ⟨y, hy, r1, r2, r3⟩
        by_cases e : y = x
        · subst e; exact .inr r3.symm
        · exact .inl ⟨y, by omega, r1, r2, r3⟩
    · rw [if_neg hq]
      refine ⟨h1, fun k hk => (h2 k hk).trans ⟨fun ⟨y, hy, r⟩ => ⟨y, by omega, r⟩, fun ⟨y, hy, r1, r2, r3⟩ => ⟨y, ?_, r1, r2, r3⟩⟩⟩
      by_cases e : y = x
      · subst e; exact absurd ⟨r1, r2⟩ hq
      · omega

set_option maxHeartbeats 1000000 in
theorem isRow_any (b : Nat) (w : World) (m : Mach) (hm : MB w 27 b m) (hk : m.Ok) (q : Nat) (hq : q < 16) (hL2 : 2 ≤ m.L) (hL3 : m.L ≤ 3) (r : Bool) (hr : r = true ↔ RowOk m q) :
    Calls Tryz.prog 194 #[.pointer (some ⟨b,0,none⟩), .int .i64 q] w fun e w' => e = .returned (.bool r) ∧ ∃ n, w' = w.drewN n := by
  have cL := hm.cL
  have cS := hm.cS
  have hM := hid hm; clear hm
  have hK := hid hk; clear hk
  have hR := hid hr; clear hr
  go_enter Tryz.func194, Tryz.ntmps194
  go_wp2
  go_loopw [5, 9] (fun s i wr => ∃ (x : Nat) (n : Nat), x ≤ 3 ∧ wr = w.drewN n ∧ i = .int .i64 x ∧ s = .int .i64 (mask m q x : Nat) ∧ ∀ y, y < x → CellOk m q y) (fun _ i _ => 3 - (intOf i).toNat)
  case atStart => exact ⟨0, 0, by omega, rfl, rfl, rfl, fun y hy => by omega⟩
  case round =>
    obtain ⟨x, n, hx3, rfl, rfl, rfl, hall⟩ := hrel
    replace hall := hid hall
    by_cases hx : x < 3
    · have h1 := hM.out.cnx q x hq hx
      have h2 := hM.out.cot q x hq hx
      have hn := (hK.out (q * 3 + x)).1
      have ho := (hK.out (q * 3 + x)).2
      have hmask := hid (mask_bits m q hL3 x hx3 hall.out)
      have hms := hid (show mask m q (x + 1) = if (q : Int) < m.S ∧ (x : Int) < m.L then mask m q x ||| (1 <<< m.ot (q * 3 + x)) else mask m q x from rfl)
      have hcell := hid (show CellOk m q x ↔ if (q : Int) < m.S ∧ (x : Int) < m.L then
          (m.nx (q * 3 + x) : Int) < m.S ∧ (m.ot (q * 3 + x) : Int) < m.L ∧ ∀ y, y < x → m.ot (q * 3 + y) ≠ m.ot (q * 3 + x)
        else m.nx (q * 3 + x) = 0 ∧ m.ot (q * 3 + x) = 0 from Iff.rfl)
      generalize m.nx (q * 3 + x) = nx at *
      generalize m.ot (q * 3 + x) = ot at *
      generalize mask m q x = s at *
      have no := hid (show ¬ CellOk m q x → r = false from fun h => by
        cases r
        · rfl
        · exact absurd (hR.out.1 rfl x hx) h)
      have nxt := hid (show CellOk m q x → ∀ y, y < x + 1 → CellOk m q y from fun h y hy => by
        by_cases e : y = x
        · subst e; exact h
        · exact hall.out y (by omega))
      by_cases hin : (q : Int) < m.S ∧ (x : Int) < m.L
      · have hc2 := hid (hcell.out.trans (by rw [if_pos hin]))
        have hm2 := hid (hms.out.trans (by rw [if_pos hin]))
        obtain ⟨hqS, hxL⟩ := hin
        have d1 : decide (m.S ≤ (q : Int)) = false := decide_eq_false (by omega)
        have d2 : decide (m.L ≤ (x : Int)) = false := decide_eq_false (by omega)
        by_cases a1 : (nx : Int) < m.S
        · have d3 : decide (m.S ≤ (nx : Int)) = false := decide_eq_false (by omega)
          by_cases a2 : (ot : Int) < m.L
          · have d4 : decide (m.L ≤ (ot : Int)) = false := decide_eq_false (by omega)
            have hot3 : ot < 3 := by omega
            have bo := hid (bit_or s hmask.out.1 ot hot3)
            cases hb : s.testBit ot with
            | true =>
              have bt := (bit_test s hmask.out.1 ot hot3).trans hb
              replace hb := hid hb
              go_wp2
              go_quiet (fail)
              go_wp2
              go_ret
              have hf : r = false := no.out fun hc => by
                obtain ⟨y, hy, _, _, e⟩ := (hmask.out.2 ot hot3).1 hb.out
                exact (hc2.out.1 hc).2.2 y hy e
              exact ⟨retB hf.symm, _, rfl⟩
            | false =>
              have bt := (bit_test s hmask.out.1 ot hot3).trans hb
              replace hb := hid hb
              go_wp2
              go_quiet (fail)
              go_wp2
              go_roundw
              case rel =>
                refine ⟨x + 1, _, by omega, rfl, by go_num, by rw [bo.out, hm2.out], nxt.out (hc2.out.2 ⟨a1, a2, fun y hy e => ?_⟩)⟩
                have := (hmask.out.2 ot hot3).2 ⟨y, hy, hqS, by omega, e⟩
                rw [hb.out] at this
                cases this
              case measure => simp [intOf]; omega
          · go_wp2
            go_quiet (fail)
            go_wp2
            go_ret
            exact ⟨retB (no.out fun hc => by have := (hc2.out.1 hc).2.1; omega).symm, _, rfl⟩
        · go_wp2
          go_quiet (fail)
          go_wp2
          go_ret
          exact ⟨retB (no.out fun hc => by have := (hc2.out.1 hc).1; omega).symm, _, rfl⟩
      · have hc2 := hid (hcell.out.trans (by rw [if_neg hin]))
        have hm2 := hid (hms.out.trans (by rw [if_neg hin]))
        have fin : (q : Int) < m.S ∨ m.S ≤ (q : Int) := by omega
        rcases fin with hqS | hqS
        all_goals
          by_cases z1 : nx = 0
          · by_cases z2 : ot = 0
            · have hnx := hid (nxt.out (hc2.out.2 ⟨z1, z2⟩))
              subst z1; subst z2
              go_wp2
              go_quiet (fail)
              go_wp2
              go_roundw
              case rel => exact ⟨x + 1, _, by omega, rfl, by go_num, by rw [hm2.out], hnx.out⟩
              case measure => simp [intOf]; omega
            · have hrf := hid (no.out fun hc => z2 (hc2.out.1 hc).2)
              have z3 : ((ot : Int) != 0) = true := by rw [bne_iff_ne]; omega
              go_wp2
              go_quiet (fail)
              go_wp2
              go_ret
              exact ⟨retB hrf.out.symm, _, rfl⟩
          · have hrf := hid (no.out fun hc => z1 (hc2.out.1 hc).1)
            have z3 : ((nx : Int) != 0) = true := by rw [bne_iff_ne]; omega
            go_wp2
            go_quiet (fail)
            go_wp2
            go_ret
            exact ⟨retB hrf.out.symm, _, rfl⟩
    · obtain rfl : x = 3 := by omega
      go_wp2
      go_ret
      exact ⟨retB (hR.out.2 hall.out).symm, _, rfl⟩
end Go.Proofs.YthmcdfjijkecfaaGreat

/- Small functions: ranges, letters, entries of machines, powers. -/
namespace Go.Proofs.YthmcdfjijkecfaaGreat
open Go.RowKit
set_option linter.unusedVariables false
set_option linter.unusedSimpArgs false

theorem within_any (n lo hi : Int) (r : Bool) (hr : r = decide (lo ≤ n ∧ n ≤ hi)) (w : World) :
    Calls Tryz.prog 86 #[.int .i64 n, .int .i64 lo, .int .i64 hi] w fun e w' => e = .returned (.bool r) ∧ w = w' := by
  have H := hid hr; clear hr
  by_cases h1 : lo ≤ n
  · have d1 : decide (lo ≤ n) = true := decide_eq_true h1
    go_enter Tryz.func86, Tryz.ntmps86
    go_wp2
    go_ret
    exact ⟨retB (by rw [H.out]; simp [h1]), rfl⟩
  · have d1 : decide (lo ≤ n) = false := decide_eq_false h1
    have H' := hid (H.out.trans (decide_eq_false (fun h => h1 h.1)))
    go_enter Tryz.func86, Tryz.ntmps86
    go_wp2
    go_ret
    exact ⟨retB H'.out.symm, rfl⟩

theorem l01In_any (n lo hi : Int) (r : Bool) (hr : r = decide (lo ≤ n ∧ n ≤ hi)) (w : World) :
    Calls Tryz.prog 142 #[.int .i64 n, .int .i64 lo, .int .i64 hi] w fun e w' => e = .returned (.bool r) ∧ w = w' := by
  have H := hid hr; clear hr
  by_cases h1 : lo ≤ n
  · have d1 : decide (lo ≤ n) = true := decide_eq_true h1
    go_enter Tryz.func142, Tryz.ntmps142
    go_wp2
    go_ret
    exact ⟨retB (by rw [H.out]; simp [h1]), rfl⟩
  · have d1 : decide (lo ≤ n) = false := decide_eq_false h1
    have H' := hid (H.out.trans (decide_eq_false (fun h => h1 h.1)))
    go_enter Tryz.func142, Tryz.ntmps142
    go_wp2
    go_ret
    exact ⟨retB H'.out.symm, rfl⟩

theorem areLetters_any (d : Int) (r : Bool) (hr : r = decide (2 ≤ d ∧ d ≤ 3)) (w : World) :
    Calls Tryz.prog 170 #[.int .i64 d] w fun e w' => e = .returned (.bool r) ∧ w = w' := by
  have H := hid hr; clear hr
  go_enter Tryz.func170, Tryz.ntmps170
  go_wp2_with (go_at_call 86; refine (within_any _ _ _ r H.out _).mono ?_; rintro e w' ⟨rfl, rfl⟩)
  go_ret
  exact ⟨rfl, rfl⟩

theorem letter_any (x : Nat) (hx : x < 208) (w : World) :
    Calls Tryz.prog 183 #[.int .i64 x] w fun e w' => e = .returned (.int .u8 ((48 + x : Nat) : Int)) ∧ w = w' := by
  have e1 : ((x : Int) % 256) = x := by omega
  have e2 : ((48 + (x : Int)) % 256) = 48 + x := by omega
  go_enter Tryz.func183, Tryz.ntmps183
  go_wp2
  go_ret
  exact ⟨retI (by omega), rfl⟩

theorem next_any (b : Nat) (w : World) (m : Mach) (hm : MB w 27 b m) (q x : Nat) (hq : q < 16) (hx : x < 3) (hk : m.nx (q * 3 + x) < 256) :
    Calls Tryz.prog 177 #[.pointer (some ⟨b,0,none⟩), .int .i64 q, .int .i64 x] w fun e w' => e = .returned (.int .i64 (m.nx (q * 3 + x) : Nat)) ∧ w = w' := by
  have h1 := hm.cnx q x hq hx
  generalize m.nx (q * 3 + x) = nx at *
  go_enter Tryz.func177, Tryz.ntmps177
  go_wp2
  go_ret
  exact ⟨rfl, rfl⟩

theorem out_any (b : Nat) (w : World) (m : Mach) (hm : MB w 27 b m) (q x : Nat) (hq : q < 16) (hx : x < 3) (hk : m.ot (q * 3 + x) < 256) :
    Calls Tryz.prog 176 #[.pointer (some ⟨b,0,none⟩), .int .i64 q, .int .i64 x] w fun e w' => e = .returned (.int .i64 (m.ot (q * 3 + x) : Nat)) ∧ w = w' := by
  have h1 := hm.cot q x hq hx
  generalize m.ot (q * 3 + x) = nx at *
  go_enter Tryz.func176, Tryz.ntmps176
  go_wp2
  go_ret
  exact ⟨rfl, rfl⟩

/-- d to the power n. -/
def pw (d : Nat) : Nat → Nat
  | 0 => 1
  | n + 1 => pw d n * d
theorem pw_pos (d : Nat) (h : 0 < d) : ∀ n, 0 < pw d n
  | 0 => Nat.one_pos
  | n + 1 => Nat.mul_pos (pw_pos d h n) h
theorem pw_mono (d : Nat) (h : 0 < d) (n : Nat) : ∀ k, pw d n ≤ pw d (n + k)
  | 0 => Nat.le_refl _
  | k + 1 => Nat.le_trans (pw_mono d h n k) (Nat.le_mul_of_pos_right _ h)
theorem pw_le (d : Nat) (h : 0 < d) {n k : Nat} (hk : n ≤ k) : pw d n ≤ pw d k := by
  have := pw_mono d h n (k - n); rwa [show n + (k - n) = k by omega] at this

theorem w64 {x : Int} (h : -9223372036854775808 ≤ x) (h' : x ≤ 9223372036854775807) : wrap64 x = x := by unfold wrap64; omega
theorem i64_eq {a b : Int} (h : a = b) : Value.int .i64 a = Value.int .i64 b := by rw [h]

/-- One factor more, in range. -/
theorem pw_step (d n i : Nat) (hd : 0 < d) (hb : pw d n < 9223372036854775808) (hi : i < n) : wrap64 ((pw d i : Nat) * (d : Int)) = (pw d (i + 1) : Nat) := by
  have h := pw_le d hd (show i + 1 ≤ n by omega)
  have e : ((pw d i : Nat) : Int) * (d : Int) = ((pw d (i + 1) : Nat) : Int) := by simp [pw]
  rw [e, w64 (by omega) (by omega)]

theorem power_any (d n : Nat) (hd : 0 < d) (hb : pw d n < 9223372036854775808) (hn : n < 9223372036854775807) (w : World) :
    Calls Tryz.prog 171 #[.int .i64 d, .int .i64 n] w fun e w' => e = .returned (.int .i64 (pw d n : Nat)) ∧ w = w' := by
  go_enter Tryz.func171, Tryz.ntmps171
  go_wp2
  go_loop [5, 7] (fun p i => ∃ k : Nat, k ≤ n ∧ i = .int .i64 k ∧ p = .int .i64 (pw d k : Nat)) (fun _ i => n - (intOf i).toNat)
  case atStart => exact ⟨0, by omega, rfl, rfl⟩
  case round =>
    obtain ⟨k, hk, rfl, rfl⟩ := hrel
    by_cases hlt : k < n
    · have hs := hid (pw_step d n k hd hb hlt)
      generalize pw d k = p at *
      go_wp2
      go_round
      case rel => exact ⟨k + 1, by omega, by go_num, i64_eq (by first | exact hs.out | (rw [← hs.out]; simp))⟩
      case measure => simp [intOf]; omega
    · obtain rfl : k = n := by omega
      go_wp2
      go_ret
      exact ⟨rfl, rfl⟩

theorem l01Power_any (d n : Nat) (hd : 0 < d) (hb : pw d n < 9223372036854775808) (hn : n < 9223372036854775807) (w : World) :
    Calls Tryz.prog 120 #[.int .i64 d, .int .i64 n] w fun e w' => e = .returned (.int .i64 (pw d n : Nat)) ∧ w = w' := by
  go_enter Tryz.func120, Tryz.ntmps120
  go_wp2
  go_loop [1, 5] (fun i p => ∃ k : Nat, k ≤ n ∧ i = .int .i64 (n - k : Nat) ∧ p = .int .i64 (pw d k : Nat)) (fun i _ => (intOf i).toNat)
  case atStart => exact ⟨0, by omega, rfl, rfl⟩
  case round =>
    obtain ⟨k, hk, rfl, rfl⟩ := hrel
    by_cases hlt : k < n
    · have hs := hid (pw_step d n k hd hb hlt)
      generalize pw d k = p at *
      obtain ⟨j, hj⟩ : ∃ j : Nat, n - k = j + 1 := ⟨n - k - 1, by omega⟩
      have hj2 := hid (show n - (k + 1) = j by omega)
      have hjb : j < 9223372036854775807 := by omega
      rw [hj]
      clear hj
      go_wp2
      go_round
      case rel => exact ⟨k + 1, by omega, by rw [hj2.out], i64_eq (by first | exact hs.out | (rw [← hs.out]; simp))⟩
      case measure => simp [intOf]
    · obtain rfl : k = n := by omega
      simp only [Nat.sub_self]
      go_wp2
      go_ret
      exact ⟨rfl, rfl⟩
end Go.Proofs.YthmcdfjijkecfaaGreat

/- The program's IsMachine and the reference's l01Is answer whether IsM holds. -/
namespace Go.Proofs.YthmcdfjijkecfaaGreat
open Go.RowKit
set_option linter.unusedVariables false
set_option linter.unusedSimpArgs false

theorem below_drewN {B : Nat} {a w : World} (h : Below B a w) (n : Nat) : Below B a (w.drewN n) := ⟨h.os, h.tape, h.output, h.size, h.block⟩
theorem below_alloc {B : Nat} {a w : World} (h : Below B a w) (hB : B ≤ a.heap.size) (o : Obj) : Below B a (w.alloc o) := h.alloc (Nat.le_trans hB h.size) o

set_option maxHeartbeats 1000000 in
theorem IsMachine_any (w : World) (m : Mach) (hk : m.Ok) (r : Bool) (hr : r = true ↔ IsM m) :
    Calls Tryz.prog 97 #[.agg (mcells m)] w fun e w' => e = .returned (.bool r) ∧ Below w.heap.size w w' := by
  have hK := hid hk; clear hk
  have hR := hid hr; clear hr
  have cL := mcells_L m
  have cS := mcells_S m
  by_cases hL : 2 ≤ m.L ∧ m.L ≤ 3
  · by_cases hS : 1 ≤ m.S ∧ m.S ≤ 16
    · have hM := hid (MB.new w m 27)
      have hB := hid ((Below.refl w.heap.size w).alloc (Nat.le_refl _) (.cells (mcells m) 27))
      go_enter Tryz.func97, Tryz.ntmps97
      go_wp2_with (first | (go_at_call 170; refine (areLetters_any _ true (decide_eq_true hL).symm _).mono ?_; rintro e w' ⟨rfl, rfl⟩) | (go_at_call 86; refine (within_any _ _ _ true (decide_eq_true hS).symm _).mono ?_; rintro e w' ⟨rfl, rfl⟩))
      go_loopw [14] (fun i wr => ∃ (q : Nat) (n : Nat), q ≤ 16 ∧ wr = (w.alloc (.cells (mcells m) 27)).drewN n ∧ i = .int .i64 q ∧ ∀ p, p < q → RowOk m p) (fun i _ => 16 - (intOf i).toNat)
      case atStart => exact ⟨0, 0, by omega, rfl, rfl, fun y hy => by omega⟩
      case round =>
        obtain ⟨q, n, hq, rfl, rfl, hall⟩ := hrel
        replace hall := hid hall
        by_cases hx : q < 16
        · by_cases hrow : RowOk m q
          · replace hrow := hid hrow
            go_wp2_with (go_at_call 194; refine (isRow_any _ _ m (hM.out.drewN n) hK.out q hx hL.1 hL.2 true ⟨fun _ => hrow.out, fun _ => rfl⟩).mono ?_; rintro e w' ⟨rfl, k, rfl⟩)
            go_roundw
            case rel =>
              refine ⟨q + 1, _, by omega, rfl, by go_num, fun p hp => ?_⟩
              by_cases e : p = q
              · rw [e]; exact hrow.out
              · exact hall.out p (by omega)
            case measure => simp [intOf]; omega
          · have hf := hid (show r = false by
              cases r
              · rfl
              · exact absurd ((hR.out.1 rfl).2.2.2.2 q hx) hrow)
            have hbad := hid (show false = true ↔ RowOk m q from ⟨fun h => (by cases h), fun h => absurd h hrow⟩)
            clear hrow
            go_wp2_with (go_at_call 194; refine (isRow_any _ _ m (hM.out.drewN n) hK.out q hx hL.1 hL.2 false hbad.out).mono ?_; rintro e w' ⟨rfl, k, rfl⟩)
            go_ret
            exact ⟨retB hf.out.symm, below_drewN hB.out _⟩
        · obtain rfl : q = 16 := by omega
          have hf := hid (hR.out.2 ⟨hL.1, hL.2, hS.1, hS.2, hall.out⟩)
          go_wp2
          go_ret
          exact ⟨retB hf.out.symm, below_drewN hB.out _⟩
    · have hf := hid (show r = false by
        cases r
        · rfl
        · have := hR.out.1 rfl; exact absurd ⟨this.2.2.1, this.2.2.2.1⟩ hS)
      have hS' := hid hS; clear hS
      have hB := hid ((Below.refl w.heap.size w).alloc (Nat.le_refl _) (.cells (mcells m) 27))
      go_enter Tryz.func97, Tryz.ntmps97
      go_wp2_with (first | (go_at_call 170; refine (areLetters_any _ true (decide_eq_true hL).symm _).mono ?_; rintro e w' ⟨rfl, rfl⟩) | (go_at_call 86; refine (within_any _ _ _ false (decide_eq_false hS'.out).symm _).mono ?_; rintro e w' ⟨rfl, rfl⟩))
      go_ret
      exact ⟨retB hf.out.symm, hB.out⟩
  · have hf := hid (show r = false by
      cases r
      · rfl
      · have := hR.out.1 rfl; exact absurd ⟨this.1, this.2.1⟩ hL)
    have hL' := hid hL; clear hL
    have hB := hid ((Below.refl w.heap.size w).alloc (Nat.le_refl _) (.cells (mcells m) 27))
    go_enter Tryz.func97, Tryz.ntmps97
    go_wp2_with (first | (go_at_call 170; refine (areLetters_any _ false (decide_eq_false hL'.out).symm _).mono ?_; rintro e w' ⟨rfl, rfl⟩))
    go_ret
    exact ⟨retB hf.out.symm, hB.out⟩
end Go.Proofs.YthmcdfjijkecfaaGreat

/- The reference's l01Is answers whether IsM holds. -/
namespace Go.Proofs.YthmcdfjijkecfaaGreat
open Go.RowKit
set_option linter.unusedVariables false
set_option linter.unusedSimpArgs false

/-- The letters put out so far, as marks. -/
def met (m : Mach) (q : Nat) : Nat → Nat → Bool
  | 0, _ => false
  | x + 1, j => if (q : Int) < m.S ∧ (x : Int) < m.L then (if j = m.ot (q * 3 + x) then true else met m q x j) else met m q x j

theorem met_bits (m : Mach) (q : Nat) : ∀ x k, (met m q x k = true ↔ ∃ y, y < x ∧ (q : Int) < m.S ∧ (y : Int) < m.L ∧ m.ot (q * 3 + y) = k)
  | 0, k => by simp [met]
  | x + 1, k => by
    have h2 := met_bits m q x k
    unfold met
    by_cases hq : (q : Int) < m.S ∧ (x : Int) < m.L
    · rw [if_pos hq]
      by_cases hk : k = m.ot (q * 3 + x)
      · rw [if_pos hk]; exact ⟨fun _ => ⟨x, by omega, hq.1, hq.2, hk.symm⟩, fun _ => rfl⟩
      · rw [if_neg hk, h2]
        refine ⟨fun ⟨y, hy, r⟩ => ⟨y, by omega, r⟩, fun ⟨y, hy, r1, r2, r3⟩ => ⟨y, ?_, r1, r2, r3⟩⟩
        by_cases e : y = x
        · subst e; exact absurd r3.symm hk
        · omega
    · rw [if_neg hq, h2]
      refine ⟨fun ⟨y, hy, r⟩ => ⟨y, by omega, r⟩, fun ⟨y, hy, r1, r2, r3⟩ => ⟨y, ?_, r1, r2, r3⟩⟩
      by_cases e : y = x
      · subst e; exact absurd ⟨r1, r2⟩ hq
      · omega

/-- A row of marks. -/
def bools (f : Nat → Bool) (i : Nat) : Value := .bool (f i)

set_option maxHeartbeats 2000000 in
set_option maxRecDepth 100000 in
theorem l01Is_any (w : World) (m : Mach) (hk : m.Ok) (r : Bool) (hr : r = true ↔ IsM m) :
    Calls Tryz.prog 141 #[.agg (mcells m)] w fun e w' => e = .returned (.bool r) ∧ Below w.heap.size w w' := by
  have hK := hid hk; clear hk
  have hR := hid hr; clear hr
  have cL := mcells_L m
  have cS := mcells_S m
  by_cases hL : 2 ≤ m.L ∧ m.L ≤ 3
  · by_cases hS : 1 ≤ m.S ∧ m.S ≤ 16
    · have hM := hid (MB.new w m 27)
      have hB := hid ((Below.refl w.heap.size w).alloc (Nat.le_refl _) (.cells (mcells m) 27))
      go_enter Tryz.func141, Tryz.ntmps141
      go_wp2_with (go_at_call 142; (with_reducible refine (l01In_any _ _ _ true (decide_eq_true (by omega)).symm _).mono ?_); rintro e w' ⟨rfl, rfl⟩)
      clear cL cS
      go_loopw [3] (fun i wr => ∃ (q : Nat), q ≤ 16 ∧ i = .int .i64 q ∧ MB wr 27 w.heap.size m ∧ Below w.heap.size w wr ∧ ∀ p, p < q → RowOk m p) (fun i _ => 16 - (intOf i).toNat)
      case atStart => exact ⟨0, by omega, rfl, hM.out, hB.out, fun y hy => by omega⟩
      case round =>
        obtain ⟨q, hq, rfl, hM2, hB2, hall⟩ := hrel
        replace hall := hid hall
        replace hM2 := hid hM2
        replace hB2 := hid hB2
        clear hM hB
        by_cases hx : q < 16
        · have dq : decide ((q : Int) < 16) = true := decide_eq_true (by omega)
          obtain ⟨wo, rfl⟩ : ∃ wo : World, wo = wr := ⟨_, rfl⟩
          go_wp2
          go_loopw [5] (fun i wr => ∃ x : Nat, x ≤ 3 ∧ i = .int .i64 x ∧ MB wr 27 w.heap.size m ∧ wr.rowIs wo.heap.size 216 3 (bools (met m q x)) ∧ Below w.heap.size w wr ∧ ∀ y, y < x → CellOk m q y) (fun i _ => 3 - (intOf i).toNat)
          case atStart =>
            refine ⟨0, by omega, rfl, hM2.out.alloc _, ?_, below_alloc hB2.out (Nat.le_refl _) _, fun y hy => by omega⟩
            refine World.rowIs_alloc _ _ _ _ (fun i hi => ?_)
            have h3 : i < 3 := hi
            have : i = 0 ∨ i = 1 ∨ i = 2 := by omega
            rcases this with rfl | rfl | rfl <;> rfl
          case round =>
            obtain ⟨x, hx3, rfl, hM3, hrow, hB3, hcs⟩ := hrel
            have hne := hid (show w.heap.size < wo.heap.size from hM2.out.lt)
            have cL := hM3.cL
            have cS := hM3.cS
            replace hM3 := hid hM3
            replace hrow := hid hrow
            replace hB3 := hid hB3
            replace hcs := hid hcs
            by_cases hx' : x < 3
            · have dx : decide ((x : Int) < 3) = true := decide_eq_true (by omega)
              have h1 := hM3.out.cnx q x hx hx'
              have h2 := hM3.out.cot q x hx hx'
              have hn := (hK.out (q * 3 + x)).1
              have ho := (hK.out (q * 3 + x)).2
              have hbits := hid (met_bits m q x (m.ot (q * 3 + x)))
              have hms := hid (show ∀ j, met m q (x + 1) j = if (q : Int) < m.S ∧ (x : Int) < m.L then (if j = m.ot (q * 3 + x) then true else met m q x j) else met m q x j from fun _ => rfl)
              have hmark : m.ot (q * 3 + x) < 3 → wr.cell? ⟨wo.heap.size, m.ot (q * 3 + x), none⟩ = some (.bool (met m q x (m.ot (q * 3 + x)))) := fun h => hrow.out.cell h
              have hcell := hid (show CellOk m q x ↔ if (q : Int) < m.S ∧ (x : Int) < m.L then
                  (m.nx (q * 3 + x) : Int) < m.S ∧ (m.ot (q * 3 + x) : Int) < m.L ∧ ∀ y, y < x → m.ot (q * 3 + y) ≠ m.ot (q * 3 + x)
                else m.nx (q * 3 + x) = 0 ∧ m.ot (q * 3 + x) = 0 from Iff.rfl)
              replace hmark := hid hmark
              generalize m.nx (q * 3 + x) = nx at *
              generalize m.ot (q * 3 + x) = ot at *
              have hfz : wr.frozen? ⟨wo.heap.size, ot, none⟩ = false := hrow.out.frozen ot
              have no := hid (show ¬ CellOk m q x → r = false from fun h => by
                cases r
                · rfl
                · exact absurd ((hR.out.1 rfl).2.2.2.2 q hx x hx') h)
              have nxt := hid (show CellOk m q x → ∀ y, y < x + 1 → CellOk m q y from fun h y hy => by
                by_cases e : y = x
                · subst e; exact h
                · exact hcs.out y (by omega))
              by_cases hin : (q : Int) < m.S ∧ (x : Int) < m.L
              · have hc2 := hid (hcell.out.trans (by rw [if_pos hin]))
                have hm2 := hid (show ∀ j, met m q (x + 1) j = (if j = ot then true else met m q x j) from fun j => (hms.out j).trans (by rw [if_pos hin]))
                obtain ⟨hqS, hxL⟩ := hin
                have d1 : decide (m.S ≤ (q : Int)) = false := decide_eq_false (by omega)
                have d2 : decide (m.L ≤ (x : Int)) = false := decide_eq_false (by omega)
                by_cases a1 : (nx : Int) < m.S
                · have d3 : decide (m.S ≤ (nx : Int)) = false := decide_eq_false (by omega)
                  by_cases a2 : (ot : Int) < m.L
                  · have d4 : decide (m.L ≤ (ot : Int)) = false := decide_eq_false (by omega)
                    have hot3 : ot < 3 := by omega
                    have hmk := hmark.out hot3
                    cases hb : met m q x ot with
                    | true =>
                      rw [hb] at hmk
                      have hf := hid (no.out fun hc => by
                        obtain ⟨y, hy, _, _, e⟩ := hbits.out.1 hb
                        exact (hc2.out.1 hc).2.2 y hy e)
                      clear hb
                      go_wp2
                      go_quiet (fail)
                      go_wp2
                      go_ret
                      exact ⟨retB hf.out.symm, below_drewN hB3.out _⟩
                    | false =>
                      rw [hb] at hmk
                      have hf := hid (nxt.out (hc2.out.2 ⟨a1, a2, fun y hy e => by
                        have := hbits.out.2 ⟨y, hy, hqS, by omega, e⟩
                        rw [hb] at this
                        cases this⟩))
                      clear hb
                      go_wp2
                      go_quiet (fail)
                      go_wp2
                      go_roundw
                      case rel =>
                        refine ⟨x + 1, by omega, by go_num, (hM3.out.drewN _).setOther (by have := hne.out; simp; omega) _, ?_, (below_drewN hB3.out _).setCell (by have := hne.out; simp; omega) _, hf.out⟩
                        refine World.rowIs.congr (World.rowIs.set (f := bools (met m q x)) hrow.out ot _) (fun i hi => ?_)
                        unfold bools
                        rw [hm2.out i]
                        split <;> rfl
                      case measure => simp [intOf]; omega
                  · have hf := hid (no.out fun hc => a2 (hc2.out.1 hc).2.1)
                    go_wp2
                    go_quiet (fail)
                    go_wp2
                    go_ret
                    exact ⟨retB hf.out.symm, below_drewN hB3.out _⟩
                · have hf := hid (no.out fun hc => a1 (hc2.out.1 hc).1)
                  go_wp2
                  go_quiet (fail)
                  go_wp2
                  go_ret
                  exact ⟨retB hf.out.symm, below_drewN hB3.out _⟩
              · have hc2 := hid (hcell.out.trans (by rw [if_neg hin]))
                have hm2 := hid (show ∀ j, met m q (x + 1) j = met m q x j from fun j => (hms.out j).trans (by rw [if_neg hin]))
                have fin : (q : Int) < m.S ∨ m.S ≤ (q : Int) := by omega
                rcases fin with hqS | hqS
                all_goals
                  by_cases z1 : nx = 0
                  · by_cases z2 : ot = 0
                    · have hf := hid (nxt.out (hc2.out.2 ⟨z1, z2⟩))
                      subst z1; subst z2
                      go_wp2
                      go_quiet (fail)
                      go_wp2
                      go_roundw
                      case rel => exact ⟨x + 1, by omega, by go_num, hM3.out.drewN _, World.rowIs.congr (f := bools (met m q x)) hrow.out (fun i hi => by unfold bools; rw [hm2.out i]), below_drewN hB3.out _, hf.out⟩
                      case measure => simp [intOf]; omega
                    · have hrf := hid (no.out fun hc => z2 (hc2.out.1 hc).2)
                      have z3 : ((ot : Int) != 0) = true := by rw [bne_iff_ne]; omega
                      go_wp2
                      go_quiet (fail)
                      go_wp2
                      go_ret
                      exact ⟨retB hrf.out.symm, below_drewN hB3.out _⟩
                  · have hrf := hid (no.out fun hc => z1 (hc2.out.1 hc).1)
                    have z3 : ((nx : Int) != 0) = true := by rw [bne_iff_ne]; omega
                    go_wp2
                    go_quiet (fail)
                    go_wp2
                    go_ret
                    exact ⟨retB hrf.out.symm, below_drewN hB3.out _⟩
            · obtain rfl : x = 3 := by omega
              go_wp2
              go_roundw
              case rel =>
                refine ⟨q + 1, by omega, by go_num, hM3.out, hB3.out, fun p hp => ?_⟩
                by_cases e : p = q
                · rw [e]; exact hcs.out
                · exact hall.out p (by omega)
              case measure => simp [intOf]; omega
        · obtain rfl : q = 16 := by omega
          have hf := hid (hR.out.2 ⟨hL.1, hL.2, hS.1, hS.2, hall.out⟩)
          go_wp2
          go_ret
          exact ⟨retB hf.out.symm, hB2.out⟩
    · have hf := hid (show r = false by
        cases r
        · rfl
        · have := hR.out.1 rfl; exact absurd ⟨this.2.2.1, this.2.2.2.1⟩ hS)
      have hS' := hid hS; clear hS
      have hB := hid ((Below.refl w.heap.size w).alloc (Nat.le_refl _) (.cells (mcells m) 27))
      go_enter Tryz.func141, Tryz.ntmps141
      go_wp2_with (first | (go_at_call 142; (with_reducible refine (l01In_any m.L 2 3 true (decide_eq_true hL).symm _).mono ?_); rintro e w' ⟨rfl, rfl⟩) | (go_at_call 142; (with_reducible refine (l01In_any m.S 1 16 false (decide_eq_false hS'.out).symm _).mono ?_); rintro e w' ⟨rfl, rfl⟩))
      go_ret
      exact ⟨retB hf.out.symm, hB.out⟩
  · have hf := hid (show r = false by
      cases r
      · rfl
      · have := hR.out.1 rfl; exact absurd ⟨this.1, this.2.1⟩ hL)
    have hL' := hid hL; clear hL
    have hB := hid ((Below.refl w.heap.size w).alloc (Nat.le_refl _) (.cells (mcells m) 27))
    go_enter Tryz.func141, Tryz.ntmps141
    go_wp2_with (go_at_call 142; (with_reducible refine (l01In_any m.L 2 3 false (decide_eq_false hL'.out).symm _).mono ?_); rintro e w' ⟨rfl, rfl⟩)
    go_ret
    exact ⟨retB hf.out.symm, hB.out⟩
end Go.Proofs.YthmcdfjijkecfaaGreat

/- Rows of cells as functions of the place: read, written and handed back whole. -/
namespace Go.Proofs.YthmcdfjijkecfaaGreat
open Go.RowKit
set_option linter.unusedVariables false
set_option linter.unusedSimpArgs false

/-- k cells, by their places. -/
def rowL (k : Nat) (g : Nat → Value) : List Value := (List.range k).map g
theorem rowL_length (k : Nat) (g : Nat → Value) : (rowL k g).length = k := by simp [rowL]
theorem rowL_size (k : Nat) (g : Nat → Value) : (rowL k g).toArray.size = k := by simp [rowL]
theorem rowL_get (k : Nat) (g : Nat → Value) (i : Nat) (h : i < k) : (rowL k g)[i]? = some (g i) := by simp [rowL, h]
theorem rowL_congr {k : Nat} {g h : Nat → Value} (e : ∀ i, i < k → g i = h i) : rowL k g = rowL k h := by
  unfold rowL
  exact List.map_congr_left fun i hi => e i (by simpa using hi)
theorem mcells_rowL (m : Mach) : mcells m = (rowL 98 (mf m)).toArray := rfl

/-- Bytes by their places. -/
def byt (g : Nat → Nat) (i : Nat) : Value := .int .u8 (g i : Nat)

section
variable {w : World} {b t n : Nat} {f : Nat → Value}
theorem rowIs_heap (h : w.rowIs b t n f) : w.heap[b]? = some (.cells (rowL n f).toArray t (0, 0)) := by
  obtain ⟨c, hb, hn, hc⟩ := h
  have : c = (rowL n f).toArray := by
    apply Array.ext (by rw [hn, rowL_size])
    intro i h1 h2
    have e1 := hc i (by omega)
    have e2 := rowL_get n f i (by omega)
    rw [Array.getElem?_eq_getElem h1] at e1
    have e3 : (rowL n f).toArray[i]? = some (f i) := by simpa using e2
    rw [Array.getElem?_eq_getElem h2] at e3
    exact Option.some.inj (e1.trans e3.symm)
  rw [hb, this]
theorem rowIs_new (w : World) (n t : Nat) (f : Nat → Value) : (w.alloc (.cells (rowL n f).toArray t)).rowIs w.heap.size t n f := by
  have := World.rowIs_alloc w (rowL n f).toArray t f (fun i hi => by
    have := rowL_get n f i (by simpa [rowL] using hi); simpa using this)
  rwa [rowL_size] at this
theorem rowIs_range (h : w.rowIs b t n f) (o k : Nat) (hk : o + k ≤ n) : w.rangeAt b o (rowL k fun i => f (o + i)) := fun j v hv => by
  have hj : j < k := by have := (List.getElem?_eq_some_iff.1 hv).1; rwa [rowL_length] at this
  rw [rowL_get k _ j hj] at hv
  rw [← hv]
  exact World.rowIs.cell h (by omega)
theorem rowIs_there (h : w.rowIs b t n f) (o k : Nat) (hk : o + k ≤ n) : w.there b o k := fun j hj =>
  ⟨by rw [World.rowIs.cell h (i := o + j) (by omega)]; rfl, World.rowIs.frozen h _⟩
theorem rowIs_below (h : w.rowIs b t n f) {B : Nat} {w' : World} (hb : Below B w w') (hB : b < B) : w'.rowIs b t n f := World.rowIs.of_block h (hb.block b hB)
theorem rowIs_drewN (h : w.rowIs b t n f) (k : Nat) : (w.drewN k).rowIs b t n f := h
end

/-- What some cells are behind a store of a list from the place o on. -/
def put (f : Nat → Value) (o : Nat) (vs : List Value) (i : Nat) : Value := if o ≤ i ∧ i < o + vs.length then vs.getD (i - o) undef else f i

theorem rowIs_setCells {b t n : Nat} : ∀ (vs : List Value) (o : Nat) (w : World) (f : Nat → Value), w.rowIs b t n f → (w.setCells b o vs).rowIs b t n (put f o vs)
  | [], o, w, f, h => World.rowIs.congr h fun i _ => by unfold put; rw [if_neg (by simp)]
  | v :: r, o, w, f, h => by
    rw [World.setCells]
    refine World.rowIs.congr (rowIs_setCells r (o + 1) _ _ (World.rowIs.set h o v)) fun i _ => ?_
    unfold put
    dsimp only
    by_cases h1 : o + 1 ≤ i ∧ i < o + 1 + r.length
    · rw [if_pos h1, if_pos (by simp; omega)]
      obtain ⟨k, rfl⟩ : ∃ k, i = o + 1 + k := ⟨i - (o + 1), by omega⟩
      rw [show o + 1 + k - (o + 1) = k by omega, show o + 1 + k - o = k + 1 by omega]
      simp
    · rw [if_neg h1]
      by_cases h2 : i = o
      · subst h2; rw [if_pos rfl, if_pos (by simp)]; simp
      · rw [if_neg h2, if_neg (by simp; omega)]

theorem below_setCells {B b : Nat} (hB : B ≤ b) : ∀ (vs : List Value) (o : Nat) {a w : World}, Below B a w → Below B a (w.setCells b o vs)
  | [], _, _, _, h => h
  | v :: r, o, _, _, h => by rw [World.setCells]; exact below_setCells hB r (o + 1) (h.setCell hB v)
theorem heap_setCells {b : Nat} : ∀ (vs : List Value) (o : Nat) (w : World), (w.setCells b o vs).heap.size = w.heap.size
  | [], _, _ => rfl
  | v :: r, o, w => by rw [World.setCells, heap_setCells r (o + 1)]; simp [World.setCell]
theorem block_setCells {b k : Nat} (hk : k ≠ b) : ∀ (vs : List Value) (o : Nat) (w : World), (w.setCells b o vs).heap[k]? = w.heap[k]?
  | [], _, _ => rfl
  | v :: r, o, w => by
    rw [World.setCells, block_setCells hk r (o + 1)]
    exact Below.heap_setCell w ⟨b, o, none⟩ v k hk
theorem rowIs_setCells_other {w : World} {b t n b' : Nat} {f : Nat → Value} (h : w.rowIs b t n f) (hb : b ≠ b') (vs : List Value) (o : Nat) : (w.setCells b' o vs).rowIs b t n f :=
  World.rowIs.of_block h (block_setCells hb vs o w)

theorem one_byt (k : Nat) (g : Nat → Nat) : (rowL k (byt g)).toArray.all (·.oneCell') = true := all_oneCell_toArray fun v hv => by
  unfold rowL at hv
  obtain ⟨i, _, rfl⟩ := List.mem_map.1 hv
  rfl
theorem one_mf (k o : Nat) (m : Mach) : (rowL k (fun i => mf m (o + i))).toArray.all (·.oneCell') = true := all_oneCell_toArray fun v hv => by
  unfold rowL at hv
  obtain ⟨i, _, rfl⟩ := List.mem_map.1 hv
  unfold mf
  repeat (split <;> try rfl)

/-- What is handed back out of a block: the row as a value. -/
theorem ret_row {P : Program} {fn : Func} {R : Ending → World → Prop} {a : Act} {w : World} {p ty : Nat} (h : fn.results = #[.cell p ty]) {g t n : Nat} {f : Nat → Value} {d : TypeDesc}
    (hp : a.tmps.getD p undef = .pointer (some ⟨g, 0, none⟩)) (hrow : w.rowIs g t n f) (hu : P.underlying ty = some d) (hd : (match d with | .struct _ | .array _ _ => true | _ => false) = true)
    (hi : (P.info? ty).map (·.size) = some n) (hdf : a.defers = []) (hR : R (.returned (.agg (rowL n f).toArray)) w) : bodyPost P fn R .ret a w :=
  bodyPost_ret (results_cell_row h a.tmps w g t _ _ d hp (rowIs_heap hrow) hu hd (by rw [rowL_size]; exact hi)) hdf hR
/-- Gates: an arm of the walk that is meant for one operation alone. -/
theorem gate {P : Program} {ops : Array Oper} {rest : List Oper} {o : Oper} {a : Act} {w : World} {Q : Exit → Act → World → Prop} {N : Nat} (_ : o.dst = some N) (h : wpList P ops Q (o :: rest) a w) : wpList P ops Q (o :: rest) a w := h
theorem gateOp {P : Program} {ops : Array Oper} {rest : List Oper} {o : Oper} {a : Act} {w : World} {Q : Exit → Act → World → Prop} {op : Op} (_ : o.op = op) (h : wpList P ops Q (o :: rest) a w) : wpList P ops Q (o :: rest) a w := h
end Go.Proofs.YthmcdfjijkecfaaGreat

/- The statements' own copies of machines: toByteA3, toByteA3A16, toMachine hand back what they got. -/
namespace Go.Proofs.YthmcdfjijkecfaaGreat
open Go.RowKit
set_option linter.unusedVariables false
set_option linter.unusedSimpArgs false

theorem sz_b3 : (Tryz.prog.info? 24).map (·.size) = some 3 := by kernel_rfl
theorem sz_b48 : (Tryz.prog.info? 25).map (·.size) = some 48 := by kernel_rfl
theorem sz_mach : (Tryz.prog.info? 27).map (·.size) = some 98 := by kernel_rfl
theorem zero_b48 (w : World) : (zeroValue 25).run Tryz.prog w = .ok (.agg (rowL 48 (byt fun _ => 0)).toArray) w := by kernel_rfl
theorem zero_mach (w : World) : (zeroValue 27).run Tryz.prog w = .ok (.agg (mcells ⟨0, 0, fun _ => 0, fun _ => 0⟩)) w := by kernel_rfl

/-- Three bytes as a value: the walk sees their list. -/
theorem row3 (g : Nat → Nat) : (rowL 3 (byt g)).toArray = #[.int .u8 (g 0 : Nat), .int .u8 (g 1 : Nat), .int .u8 (g 2 : Nat)] := rfl


theorem byt_shift (g : Nat → Nat) (o : Nat) : (fun j => byt g (o + j)) = byt (fun j => g (o + j)) := rfl
theorem rowL_byt_all (k : Nat) (g : Nat → Nat) : (rowL k (byt g)).toArray.all (·.oneCell') = true := one_byt k g



theorem mf_nx_row (m : Mach) (i : Nat) (h : i < 48) : mf m (2 + i) = byt m.nx i := by
  unfold mf byt
  rw [if_neg (by omega), if_neg (by omega), if_pos (by omega), show 2 + i - 2 = i by omega]
theorem mf_ot_row (m : Mach) (i : Nat) : mf m (50 + i) = byt m.ot i := by
  unfold mf byt
  rw [if_neg (by omega), if_neg (by omega), if_neg (by omega), show 50 + i - 50 = i by omega]

theorem set_LS (m : Mach) : ((mcells ⟨0, 0, fun _ => 0, fun _ => 0⟩).setIfInBounds 0 (.int .i64 m.L)).setIfInBounds 1 (.int .i64 m.S) = mcells ⟨m.L, m.S, fun _ => 0, fun _ => 0⟩ := by
  apply Array.ext (by simp [size_mcells])
  intro i h1 h2
  have hi : i < 98 := by rw [size_mcells] at h2; exact h2
  have e2 := mcells_get ⟨m.L, m.S, fun _ => 0, fun _ => 0⟩ i hi
  have e0 := mcells_get ⟨0, 0, fun _ => 0, fun _ => 0⟩ i hi
  have : (((mcells ⟨0, 0, fun _ => 0, fun _ => 0⟩).setIfInBounds 0 (.int .i64 m.L)).setIfInBounds 1 (.int .i64 m.S))[i]? = (mcells ⟨m.L, m.S, fun _ => 0, fun _ => 0⟩)[i]? := by
    rw [e2, Array.getElem?_setIfInBounds, Array.getElem?_setIfInBounds, e0]
    simp only [Array.size_setIfInBounds, size_mcells]
    unfold mf
    by_cases a0 : i = 0
    · subst a0; rfl
    · by_cases a1 : i = 1
      · subst a1; rfl
      · rw [if_neg (fun h => a1 h.symm), if_neg (fun h => a0 h.symm), if_neg a0, if_neg a1, if_neg a0, if_neg a1]
  rw [Array.getElem?_eq_getElem h1, Array.getElem?_eq_getElem h2] at this
  exact Option.some.inj this

theorem getD_rowL (k : Nat) (g : Nat → Value) (i : Nat) (h : i < k) : (rowL k g).getD i undef = g i := by
  rw [List.getD_eq_getElem?_getD, rowL_get k g i h]; rfl
theorem put_mach (m : Mach) (i : Nat) (hi : i < 98) : put (put (mf ⟨m.L, m.S, fun _ => 0, fun _ => 0⟩) 2 (rowL 48 (byt m.nx))) 50 (rowL 48 (byt m.ot)) i = mf m i := by
  unfold put
  simp only [rowL_length]
  by_cases a : 50 ≤ i ∧ i < 50 + 48
  · rw [if_pos a, getD_rowL _ _ _ (by omega)]
    have := mf_ot_row m (i - 50)
    rw [show 50 + (i - 50) = i by omega] at this
    exact this.symm
  · rw [if_neg a]
    by_cases b : 2 ≤ i ∧ i < 2 + 48
    · rw [if_pos b, getD_rowL _ _ _ (by omega)]
      have := mf_nx_row m (i - 2) (by omega)
      rw [show 2 + (i - 2) = i by omega] at this
      exact this.symm
    · rw [if_neg b]
      have : i = 0 ∨ i = 1 := by omega
      rcases this with rfl | rfl <;> rfl
theorem put_all (f g : Nat → Value) (k i : Nat) (h : i < k) : put f 0 (rowL k g) i = g i := by
  unfold put
  rw [if_pos (by rw [rowL_length]; omega), getD_rowL _ _ _ (by omega)]; rfl


theorem one_mach (m : Mach) : (mcells m).all (·.oneCell') = true := all_oneCell_toArray fun v hv => by
  obtain ⟨i, _, rfl⟩ := List.mem_map.1 hv
  unfold mf
  repeat (split <;> try rfl)
/-- A whole machine read out of its block, as the walk meets it. -/
theorem load_mach {ops : Array Oper} {rest : List Oper} {o : Oper} {a : Act} {w : World} {Q : Exit → Act → World → Prop} (hgd : o.guard = none) (x : Operand) (ho : o.op = .load 27 x)
    (b : Nat) (hx : a.eval x = .pointer (some ⟨b, 0, none⟩)) (m : Mach) (hm : MB w 27 b m) (h : wpList Tryz.prog ops Q rest (a.put o.dst (.agg (mcells m))) w) : wpList Tryz.prog ops Q (o :: rest) a w :=
  wpList_load_row hgd 27 x ho b hx 27 _ (0, 0) _ hm.heap Tryz.underlying27 rfl (by rw [size_mcells]; exact sz_mach) h

/-- A whole machine stored into a block of its size. -/
theorem store_mach {ops : Array Oper} {rest : List Oper} {o : Oper} {a : Act} {w : World} {Q : Exit → Act → World → Prop} (hgd : o.guard = none) (x y : Operand) (ho : o.op = .store 27 x y)
    (b : Nat) (hx : a.eval x = .pointer (some ⟨b, 0, none⟩)) (m : Mach) (hy : a.eval y = .agg (mcells m)) (t : Nat) (f : Nat → Value) (hrow : w.rowIs b t 98 f)
    (h : ∀ w', MB w' t b m → (∀ k, k ≠ b → w'.heap[k]? = w.heap[k]?) → w'.heap.size = w.heap.size → (∀ (B : Nat) (a : World), B ≤ b → Below B a w → Below B a w') → wpList Tryz.prog ops Q rest (a.put o.dst undef) w') :
    wpList Tryz.prog ops Q (o :: rest) a w := by
  refine wpList_store_mid hgd 27 x y ho b 0 (mcells m) hx hy (by rw [size_mcells]; exact rowIs_there hrow _ _ (by omega)) (by rw [size_mcells]; exact sz_mach) (one_mach m) ?_
  refine h _ (World.rowIs.congr (rowIs_setCells _ _ _ _ hrow) fun i hi => put_all _ _ _ _ hi) (fun k hk => block_setCells hk _ _ _) (heap_setCells _ _ _) (fun B a hB hb => below_setCells hB _ _ hb)

theorem built_mach (a b : Int) : Tryz.prog.built 27 [(0, .int .i64 a), (1, .int .i64 b)] = some (mcells ⟨a, b, fun _ => 0, fun _ => 0⟩) := by kernel_rfl
theorem build_mach {ops : Array Oper} {rest : List Oper} {o : Oper} {a : Act} {w : World} {Q : Exit → Act → World → Prop} (hgd : o.guard = none) (x y : Operand) (ho : o.op = .build 27 #[(0, x), (1, y)])
    (L S : Int) (hx : a.eval x = .int .i64 L) (hy : a.eval y = .int .i64 S) (h : wpList Tryz.prog ops Q rest (a.put o.dst (.agg (mcells ⟨L, S, fun _ => 0, fun _ => 0⟩))) w) : wpList Tryz.prog ops Q (o :: rest) a w := by
  have e : Tryz.prog.built 27 ((#[(0, x), (1, y)] : Array (Nat × Operand)).map fun (i, x) => (i, a.eval x)).toList = some (mcells ⟨L, S, fun _ => 0, fun _ => 0⟩) := by
    have : ((#[(0, x), (1, y)] : Array (Nat × Operand)).map fun (i, x) => (i, a.eval x)).toList = [(0, .int .i64 L), (1, .int .i64 S)] := by simp [hx, hy]
    rw [this]; exact built_mach L S
  refine wpList_build hgd 27 _ ho (by rw [e]; rfl) ?_
  rw [e]
  exact h

/-- A machine handed back out of its block. -/
theorem ret_mach {fn : Func} {R : Ending → World → Prop} {a : Act} {w : World} {p : Nat} (h : fn.results = #[.cell p 27]) {g t : Nat} {m : Mach}
    (hp : a.tmps.getD p undef = .pointer (some ⟨g, 0, none⟩)) (hm : MB w t g m) (hdf : a.defers = []) (hR : R (.returned (.agg (mcells m))) w) : bodyPost Tryz.prog fn R .ret a w :=
  ret_row (n := 98) (f := mf m) h hp hm Tryz.underlying27 rfl sz_mach hdf hR

/-- The same where the operation is guarded, and the guard lets it by. -/
theorem load_mach_g {ops : Array Oper} {rest : List Oper} {o : Oper} {a : Act} {w : World} {Q : Exit → Act → World → Prop} (hgd : Region.wanted o (yielded ops a.tmps) = true) (x : Operand) (ho : o.op = .load 27 x)
    (b : Nat) (hx : a.eval x = .pointer (some ⟨b, 0, none⟩)) (m : Mach) (hm : MB w 27 b m) (h : wpList Tryz.prog ops Q rest (a.put o.dst (.agg (mcells m))) w) : wpList Tryz.prog ops Q (o :: rest) a w :=
  wpList_step fun K hK => by
    rw [if_pos hgd]
    exact wp_load_row 27 x ho b hx 27 _ (0, 0) _ hm.heap Tryz.underlying27 rfl (by rw [size_mcells]; exact sz_mach) (hK _ _ h)
/-- The zero value. -/
def zeroM : Mach := ⟨0, 0, fun _ => 0, fun _ => 0⟩
theorem zeroM_run (w : World) : (zeroValue 27).run Tryz.prog w = .ok (.agg (mcells zeroM)) w := zero_mach w
theorem built_zero0 : Tryz.prog.built 27 [(0, .int .i64 0), (1, .int .i64 0)] = Tryz.prog.built 27 [] := by kernel_rfl
theorem built_zero : Tryz.prog.built 27 [] = some (mcells ⟨0, 0, fun _ => 0, fun _ => 0⟩) := by
  rw [← built_zero0]
  exact built_mach 0 0
theorem build_zero {ops : Array Oper} {rest : List Oper} {o : Oper} {a : Act} {w : World} {Q : Exit → Act → World → Prop} (hgd : o.guard = none) (ho : o.op = .build 27 #[])
    (h : wpList Tryz.prog ops Q rest (a.put o.dst (.agg (mcells zeroM))) w) : wpList Tryz.prog ops Q (o :: rest) a w := by
  have e : Tryz.prog.built 27 ((#[] : Array (Nat × Operand)).map fun (i, x) => (i, a.eval x)).toList = some (mcells ⟨0, 0, fun _ => 0, fun _ => 0⟩) := by
    have h0 : ((#[] : Array (Nat × Operand)).map fun (i, x) => (i, a.eval x)).toList = [] := by simp
    rw [h0]
    exact built_zero
  refine wpList_build hgd 27 _ ho (by rw [e]; rfl) ?_
  rw [e]
  exact h

end Go.Proofs.YthmcdfjijkecfaaGreat

/- Reversible machines: the program's isReversible and the reference's l07Reversible say the same. -/
namespace Go.Proofs.YthmcdfjijkecfaaGreat
open Go.RowKit
set_option linter.unusedVariables false
set_option linter.unusedSimpArgs false

/-- What is known of a machine with l letters and s states. -/
structure Good (m : Mach) (l s : Nat) : Prop where
  L : m.L = l
  S : m.S = s
  l2 : 2 ≤ l
  l3 : l ≤ 3
  s1 : 1 ≤ s
  s16 : s ≤ 16
  nx : ∀ q x, q < s → x < l → m.nx (q * 3 + x) < s
  ot : ∀ q x, q < s → x < l → m.ot (q * 3 + x) < l
  inj : ∀ q, q < s → ∀ y x, y < x → x < l → m.ot (q * 3 + y) ≠ m.ot (q * 3 + x)
  z : ∀ q x, q < 16 → x < 3 → ¬ (q < s ∧ x < l) → m.nx (q * 3 + x) = 0 ∧ m.ot (q * 3 + x) = 0

theorem IsM.good {m : Mach} (h : IsM m) : ∃ l s, Good m l s := by
  obtain ⟨h1, h2, h3, h4, h5⟩ := h
  obtain ⟨l, hl⟩ := Int.eq_ofNat_of_zero_le (show 0 ≤ m.L by omega)
  obtain ⟨s, hs⟩ := Int.eq_ofNat_of_zero_le (show 0 ≤ m.S by omega)
  have cell : ∀ q x, q < s → x < l → (m.nx (q * 3 + x) : Int) < m.S ∧ (m.ot (q * 3 + x) : Int) < m.L ∧ ∀ y, y < x → m.ot (q * 3 + y) ≠ m.ot (q * 3 + x) := fun q x hq hx => by
    have := h5 q (by omega) x (by omega)
    unfold CellOk at this
    rw [if_pos ⟨by omega, by omega⟩] at this
    exact this
  refine ⟨l, s, hl, hs, by omega, by omega, by omega, by omega, fun q x hq hx => ?_, fun q x hq hx => ?_, fun q hq y x hy hx => (cell q x hq hx).2.2 y hy, fun q x hq hx hn => ?_⟩
  · have := (cell q x hq hx).1; omega
  · have := (cell q x hq hx).2.1; omega
  · have := h5 q hq x hx
    unfold CellOk at this
    rw [if_neg (by omega)] at this
    exact this

theorem Good.isM {m : Mach} {l s : Nat} (g : Good m l s) : IsM m := by
  have := g.L; have := g.S; have := g.l2; have := g.l3; have := g.s1; have := g.s16
  refine ⟨by omega, by omega, by omega, by omega, fun q hq x hx => ?_⟩
  unfold CellOk
  by_cases h : (q : Int) < m.S ∧ (x : Int) < m.L
  · rw [if_pos h]
    have a := g.nx q x (by omega) (by omega)
    have b := g.ot q x (by omega) (by omega)
    exact ⟨by omega, by omega, fun y hy => g.inj q (by omega) y x hy (by omega)⟩
  · rw [if_neg h]
    exact g.z q x hq hx (by omega)

/-- Each letter leads all states to different ones. -/
def RevP (m : Mach) (l s : Nat) : Prop := ∀ x, x < l → InjOn (fun q => m.nx (q * 3 + x)) s

theorem two_pow_i64 (n : Nat) (h : n ≤ 16) : wrap64 (2 ^ n) = ((2 ^ n : Nat) : Int) := by
  have h1 : 2 ^ n ≤ 2 ^ 16 := Nat.pow_le_pow_right (by omega) h
  have h2 : (2 : Nat) ^ 16 = 65536 := by decide
  have e : ((2 : Int) ^ n) = ((2 ^ n : Nat) : Int) := by simp
  rw [e]
  generalize (2 ^ n : Nat) = p at *
  exact w64 (by omega) (by omega)
theorem two_pow_lt (n : Nat) (h : n ≤ 16) : 2 ^ n < 9223372036854775808 := by
  have h1 : 2 ^ n ≤ 2 ^ 16 := Nat.pow_le_pow_right (by omega) h
  have h2 : (2 : Nat) ^ 16 = 65536 := by decide
  omega


/-- The marks of the numbers met so far. -/
def seen (f : Nat → Nat) : Nat → Nat → Bool
  | 0, _ => false
  | q + 1, j => if j = f q then true else seen f q j
theorem seen_iff (f : Nat → Nat) : ∀ q k, seen f q k = true ↔ ∃ p, p < q ∧ f p = k
  | 0, k => by simp [seen]
  | q + 1, k => by
    unfold seen
    by_cases h : k = f q
    · rw [if_pos h]; exact ⟨fun _ => ⟨q, by omega, h.symm⟩, fun _ => rfl⟩
    · rw [if_neg h, seen_iff f q k]
      refine ⟨fun ⟨p, hp, e⟩ => ⟨p, by omega, e⟩, fun ⟨p, hp, e⟩ => ⟨p, ?_, e⟩⟩
      by_cases e2 : p = q
      · subst e2; exact absurd e.symm h
      · omega

theorem bools_const (k : Nat) : (rowL k (bools fun _ => false)) = List.replicate k (.bool false) := by
  induction k with
  | zero => rfl
  | succ k ih =>
    unfold rowL at *
    rw [List.range_succ, List.map_append, ih, List.replicate_succ']
    rfl

end Go.Proofs.YthmcdfjijkecfaaGreat
