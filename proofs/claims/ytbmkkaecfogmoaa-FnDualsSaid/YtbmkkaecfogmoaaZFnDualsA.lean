/- What the proof of FnDuals leans on, part 1 of 26. -/
import Derived.WalkKit
import Derived.Deep.OwnRows
import Derived.Below
import Derived.Deep.Draws
import Derived.Laws.Rows
/- A machine as a datum (letters, states, what each state goes on to and puts out), its 98 cells in memory, and how they are read and written. -/
namespace Go.Proofs.Ytbmkkaecfogmoaa
open Go.RowKit
set_option linter.unusedVariables false
set_option linter.unusedSimpArgs false

/-- A machine: the flat place 3 * q + x tells of the state q and the letter x. -/
structure Mach where
  L : Int
  S : Int
  nx : Nat → Nat
  ot : Nat → Nat

/-- Its cells, by their places. -/
def mf (m : Mach) (i : Nat) : Value :=
  if i = 0 then .int .i64 m.L else if i = 1 then .int .i64 m.S else if i < 50 then .int .u8 (m.nx (i - 2) : Nat) else .int .u8 (m.ot (i - 50) : Nat)

def mcells (m : Mach) : Array Value := (List.map (mf m) (List.range 98)).toArray

/-- All its entries are bytes. -/
def Mach.Ok (m : Mach) : Prop := ∀ i, m.nx i < 256 ∧ m.ot i < 256

theorem size_mcells (m : Mach) : (mcells m).size = 98 := by simp [mcells]
theorem mcells_get (m : Mach) (i : Nat) (h : i < 98) : (mcells m)[i]? = some (mf m i) := by
  simp [mcells, h]

theorem mf_L (m : Mach) : mf m 0 = .int .i64 m.L := rfl
theorem mf_S (m : Mach) : mf m 1 = .int .i64 m.S := rfl
theorem mf_nx (m : Mach) (q x : Nat) (hq : q < 16) (hx : x < 3) : mf m (2 + q * 3 + x) = .int .u8 (m.nx (q * 3 + x) : Nat) := by
  unfold mf
  rw [if_neg (by omega), if_neg (by omega), if_pos (by omega)]
  congr 3; omega
theorem mf_ot (m : Mach) (q x : Nat) : mf m (50 + q * 3 + x) = .int .u8 (m.ot (q * 3 + x) : Nat) := by
  unfold mf
  rw [if_neg (by omega), if_neg (by omega), if_neg (by omega)]
  congr 3; omega

theorem mcells_L (m : Mach) : (mcells m)[0]? = some (.int .i64 m.L) := by rw [mcells_get m 0 (by omega)]; rfl
theorem mcells_S (m : Mach) : (mcells m)[1]? = some (.int .i64 m.S) := by rw [mcells_get m 1 (by omega)]; rfl
theorem mcells_nx (m : Mach) (q x : Nat) (hq : q < 16) (hx : x < 3) : (mcells m)[2 + q * 3 + x]? = some (.int .u8 (m.nx (q * 3 + x) : Nat)) := by
  rw [mcells_get m _ (by omega), mf_nx m q x hq hx]
theorem mcells_ot (m : Mach) (q x : Nat) (hq : q < 16) (hx : x < 3) : (mcells m)[50 + q * 3 + x]? = some (.int .u8 (m.ot (q * 3 + x) : Nat)) := by
  rw [mcells_get m _ (by omega), mf_ot m q x]

/-- A machine lies in block b. -/
def MB (w : World) (t b : Nat) (m : Mach) : Prop := w.rowIs b t 98 (mf m)

section
variable {w : World} {t b : Nat} {m : Mach}
theorem MB.cL (h : MB w t b m) : w.cell? ⟨b, 0, none⟩ = some (.int .i64 m.L) := h.cell (by omega)
theorem MB.cS (h : MB w t b m) : w.cell? ⟨b, 1, none⟩ = some (.int .i64 m.S) := h.cell (by omega)
theorem MB.cnx (h : MB w t b m) (q x : Nat) (hq : q < 16) (hx : x < 3) : w.cell? ⟨b, 2 + q * 3 + x, none⟩ = some (.int .u8 (m.nx (q * 3 + x) : Nat)) := by
  have := World.rowIs.cell h (i := 2 + q * 3 + x) (by omega)
  rw [mf_nx m q x hq hx] at this
  exact this
theorem MB.cot (h : MB w t b m) (q x : Nat) (hq : q < 16) (hx : x < 3) : w.cell? ⟨b, 50 + q * 3 + x, none⟩ = some (.int .u8 (m.ot (q * 3 + x) : Nat)) := by
  have := World.rowIs.cell h (i := 50 + q * 3 + x) (by omega)
  rw [mf_ot m q x] at this
  exact this
theorem MB.lt (h : MB w t b m) : b < w.heap.size := World.rowIs.lt h
theorem MB.alloc (h : MB w t b m) (o : Obj) : MB (w.alloc o) t b m := World.rowIs.alloc h o
theorem MB.drew (h : MB w t b m) : MB w.drew t b m := h
theorem MB.drewN (h : MB w t b m) (n : Nat) : MB (w.drewN n) t b m := h
theorem MB.below {B : Nat} {w' : World} (h : MB w t b m) (hb : Below B w w') (hB : b < B) : MB w' t b m := World.rowIs.of_block h (hb.block b hB)
theorem MB.new (w : World) (m : Mach) (t : Nat) : MB (w.alloc (.cells (mcells m) t)) t w.heap.size m := by
  have := World.rowIs_alloc w (mcells m) t (mf m) (fun i hi => mcells_get m i (by rw [size_mcells] at hi; exact hi))
  rw [size_mcells] at this
  exact this
theorem MB.setOther (h : MB w t b m) {a : Addr} (ha : b ≠ a.block) (v : Value) : MB (w.setCell a v) t b m := World.rowIs.setOther h ha v
end

/-- One entry anew. -/
def upd (f : Nat → Nat) (i v : Nat) : Nat → Nat := fun j => if j = i then v else f j

theorem MB.setNx {w : World} {t b : Nat} {m : Mach} (h : MB w t b m) (q x v : Nat) (hq : q < 16) (hx : x < 3) :
    MB (w.setCell ⟨b, 2 + q * 3 + x, none⟩ (.int .u8 (v : Nat))) t b { m with nx := upd m.nx (q * 3 + x) v } := by
  refine World.rowIs.congr (World.rowIs.set h (2 + q * 3 + x) _) (fun i hi => ?_)
  unfold mf upd
  by_cases e : i = 2 + q * 3 + x
  · rw [if_pos e, if_neg (by omega), if_neg (by omega), if_pos (by omega)]
    dsimp only
    rw [if_pos (by omega)]
  · rw [if_neg e]
    by_cases h0 : i = 0
    · rw [if_pos h0, if_pos h0]
    · by_cases h1 : i = 1
      · rw [if_neg h0, if_pos h1, if_neg h0, if_pos h1]
      · rw [if_neg h0, if_neg h1, if_neg h0, if_neg h1]
        dsimp only
        rw [if_neg (show ¬ i - 2 = q * 3 + x by omega)]

theorem MB.setOt {w : World} {t b : Nat} {m : Mach} (h : MB w t b m) (q x v : Nat) (hq : q < 16) (hx : x < 3) :
    MB (w.setCell ⟨b, 50 + q * 3 + x, none⟩ (.int .u8 (v : Nat))) t b { m with ot := upd m.ot (q * 3 + x) v } := by
  refine World.rowIs.congr (World.rowIs.set h (50 + q * 3 + x) _) (fun i hi => ?_)
  unfold mf upd
  by_cases e : i = 50 + q * 3 + x
  · rw [if_pos e, if_neg (by omega), if_neg (by omega), if_neg (by omega)]
    dsimp only
    rw [if_pos (by omega)]
  · rw [if_neg e]
    by_cases h0 : i = 0
    · rw [if_pos h0, if_pos h0]
    · by_cases h1 : i = 1
      · rw [if_neg h0, if_pos h1, if_neg h0, if_pos h1]
      · rw [if_neg h0, if_neg h1, if_neg h0, if_neg h1]
        by_cases h2 : i < 50
        · rw [if_pos h2, if_pos h2]
        · rw [if_neg h2, if_neg h2]
          dsimp only
          rw [if_neg (show ¬ i - 50 = q * 3 + x by omega)]

/-- The cells of a block that is a machine. -/
theorem MB.heap {w : World} {t b : Nat} {m : Mach} (h : MB w t b m) : w.heap[b]? = some (.cells (mcells m) t (0, 0)) := by
  obtain ⟨c, hb, hn, hc⟩ := h
  have : c = mcells m := by
    apply Array.ext (by rw [hn, size_mcells])
    intro i h1 h2
    have e1 := hc i (by omega)
    have e2 := mcells_get m i (by omega)
    rw [Array.getElem?_eq_getElem h1] at e1
    rw [Array.getElem?_eq_getElem h2] at e2
    exact Option.some.inj (e1.trans e2.symm)
  rw [hb, this]

theorem retB {a b : Bool} (h : a = b) : Ending.returned (.bool a) = .returned (.bool b) := by rw [h]
theorem retI {k : IntKind} {a b : Int} (h : a = b) : Ending.returned (.int k a) = .returned (.int k b) := by rw [h]
theorem retS {a b : ByteArray} (h : a = b) : Ending.returned (.string a) = .returned (.string b) := by rw [h]
/-- A Bool that tells of a statement, closed to the walk. -/
def Tells (r : Bool) (p : Prop) : Prop := r = true ↔ p
theorem Tells.out {r : Bool} {p : Prop} (h : Tells r p) : r = true ↔ p := h
/-- A fact kept from the walk. -/
theorem hid {p : Prop} (h : p) : Hid p := h
theorem byte_mod (n : Nat) (h : n < 256) : ((n : Int) % 256) = n := by omega
end Go.Proofs.Ytbmkkaecfogmoaa
