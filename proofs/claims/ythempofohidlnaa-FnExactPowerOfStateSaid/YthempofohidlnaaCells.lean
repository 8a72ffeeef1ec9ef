/- Rows of cells as functions of the place: read, written and handed back whole. -/
import Derived.Test.YthempofohidlnaaSpecIs
import Derived.Deep.MidRow
import Derived.Laws.Rows
namespace Go.Proofs.Ythempofohidlnaa
open Go.RowKit
set_option linter.unusedVariables false
set_option linter.unusedSimpArgs false

/-- k cells, by their places. -/
def rowL (k : Nat) (g : Nat → Value) : List Value := (List.range k).map g
theorem rowL_length (k : Nat) (g : Nat → Value) : (rowL k g).length = k := by simp [rowL]
theorem rowL_size (k : Nat) (g : Nat → Value) : (rowL k g).toArray.size = k := by simp [rowL]
theorem rowL_get (k : Nat) (g : Nat → Value) (i : Nat) (h : i < k) : (rowL k g)[i]? = some (g i) := by simp [rowL, h]
theorem rowL_congr {k : Nat} {g h : Nat → Value} (e : ∀ i, i < k → g i = h i) : rowL k g = rowL k h := by
  unfold rowL
  exact List.map_congr_left fun i hi => e i (by simpa using hi)
theorem mcells_rowL (m : Mach) : mcells m = (rowL 98 (mf m)).toArray := rfl

/-- Bytes by their places. -/
def byt (g : Nat → Nat) (i : Nat) : Value := .int .u8 (g i : Nat)

section
variable {w : World} {b t n : Nat} {f : Nat → Value}
theorem rowIs_heap (h : w.rowIs b t n f) : w.heap[b]? = some (.cells (rowL n f).toArray t (0, 0)) := by
  obtain ⟨c, hb, hn, hc⟩ := h
  have : c = (rowL n f).toArray := by
    apply Array.ext (by rw [hn, rowL_size])
    intro i h1 h2
    have e1 := hc i (by omega)
    have e2 := rowL_get n f i (by omega)
    rw [Array.getElem?_eq_getElem h1] at e1
    have e3 : (rowL n f).toArray[i]? = some (f i) := by simpa using e2
    rw [Array.getElem?_eq_getElem h2] at e3
    exact Option.some.inj (e1.trans e3.symm)
  rw [hb, this]
theorem rowIs_new (w : World) (n t : Nat) (f : Nat → Value) : (w.alloc (.cells (rowL n f).toArray t)).rowIs w.heap.size t n f := by
  have := World.rowIs_alloc w (rowL n f).toArray t f (fun i hi => by
    have := rowL_get n f i (by simpa [rowL] using hi); simpa using this)
  rwa [rowL_size] at this
theorem rowIs_range (h : w.rowIs b t n f) (o k : Nat) (hk : o + k ≤ n) : w.rangeAt b o (rowL k fun i => f (o + i)) := fun j v hv => by
  have hj : j < k := by have := (List.getElem?_eq_some_iff.1 hv).1; rwa [rowL_length] at this
  rw [rowL_get k _ j hj] at hv
  rw [← hv]
  exact World.rowIs.cell h (by omega)
theorem rowIs_there (h : w.rowIs b t n f) (o k : Nat) (hk : o + k ≤ n) : w.there b o k := fun j hj =>
  ⟨by rw [World.rowIs.cell h (i := o + j) (by omega)]; rfl, World.rowIs.frozen h _⟩
theorem rowIs_below (h : w.rowIs b t n f) {B : Nat} {w' : World} (hb : Below B w w') (hB : b < B) : w'.rowIs b t n f := World.rowIs.of_block h (hb.block b hB)
theorem rowIs_drewN (h : w.rowIs b t n f) (k : Nat) : (w.drewN k).rowIs b t n f := h
end

/-- What some cells are behind a store of a list from the place o on. -/
def put (f : Nat → Value) (o : Nat) (vs : List Value) (i : Nat) : Value := if o ≤ i ∧ i < o + vs.length then vs.getD (i - o) undef else f i

theorem rowIs_setCells {b t n : Nat} : ∀ (vs : List Value) (o : Nat) (w : World) (f : Nat → Value), w.rowIs b t n f → (w.setCells b o vs).rowIs b t n (put f o vs)
  | [], o, w, f, h => World.rowIs.congr h fun i _ => by unfold put; rw [if_neg (by simp)]
  | v :: r, o, w, f, h => by
    rw [World.setCells]
    refine World.rowIs.congr (rowIs_setCells r (o + 1) _ _ (World.rowIs.set h o v)) fun i _ => ?_
    unfold put
    dsimp only
    by_cases h1 : o + 1 ≤ i ∧ i < o + 1 + r.length
    · rw [if_pos h1, if_pos (by simp; omega)]
      obtain ⟨k, rfl⟩ : ∃ k, i = o + 1 + k := ⟨i - (o + 1), by omega⟩
      rw [show o + 1 + k - (o + 1) = k by omega, show o + 1 + k - o = k + 1 by omega]
      simp
    · rw [if_neg h1]
      by_cases h2 : i = o
      · subst h2; rw [if_pos rfl, if_pos (by simp)]; simp
      · rw [if_neg h2, if_neg (by simp; omega)]

theorem below_setCells {B b : Nat} (hB : B ≤ b) : ∀ (vs : List Value) (o : Nat) {a w : World}, Below B a w → Below B a (w.setCells b o vs)
  | [], _, _, _, h => h
  | v :: r, o, _, _, h => by rw [World.setCells]; exact below_setCells hB r (o + 1) (h.setCell hB v)
theorem heap_setCells {b : Nat} : ∀ (vs : List Value) (o : Nat) (w : World), (w.setCells b o vs).heap.size = w.heap.size
  | [], _, _ => rfl
  | v :: r, o, w => by rw [World.setCells, heap_setCells r (o + 1)]; simp [World.setCell]
theorem block_setCells {b k : Nat} (hk : k ≠ b) : ∀ (vs : List Value) (o : Nat) (w : World), (w.setCells b o vs).heap[k]? = w.heap[k]?
  | [], _, _ => rfl
  | v :: r, o, w => by
    rw [World.setCells, block_setCells hk r (o + 1)]
    exact Below.heap_setCell w ⟨b, o, none⟩ v k hk
theorem rowIs_setCells_other {w : World} {b t n b' : Nat} {f : Nat → Value} (h : w.rowIs b t n f) (hb : b ≠ b') (vs : List Value) (o : Nat) : (w.setCells b' o vs).rowIs b t n f :=
  World.rowIs.of_block h (block_setCells hb vs o w)

theorem one_byt (k : Nat) (g : Nat → Nat) : (rowL k (byt g)).toArray.all (·.oneCell') = true := all_oneCell_toArray fun v hv => by
  unfold rowL at hv
  obtain ⟨i, _, rfl⟩ := List.mem_map.1 hv
  rfl
theorem one_mf (k o : Nat) (m : Mach) : (rowL k (fun i => mf m (o + i))).toArray.all (·.oneCell') = true := all_oneCell_toArray fun v hv => by
  unfold rowL at hv
  obtain ⟨i, _, rfl⟩ := List.mem_map.1 hv
  unfold mf
  repeat (split <;> try rfl)

/-- What is handed back out of a block: the row as a value. -/
theorem ret_row {P : Program} {fn : Func} {R : Ending → World → Prop} {a : Act} {w : World} {p ty : Nat} (h : fn.results = #[.cell p ty]) {g t n : Nat} {f : Nat → Value} {d : TypeDesc}
    (hp : a.tmps.getD p undef = .pointer (some ⟨g, 0, none⟩)) (hrow : w.rowIs g t n f) (hu : P.underlying ty = some d) (hd : (match d with | .struct _ | .array _ _ => true | _ => false) = true)
    (hi : (P.info? ty).map (·.size) = some n) (hdf : a.defers = []) (hR : R (.returned (.agg (rowL n f).toArray)) w) : bodyPost P fn R .ret a w :=
  bodyPost_ret (results_cell_row h a.tmps w g t _ _ d hp (rowIs_heap hrow) hu hd (by rw [rowL_size]; exact hi)) hdf hR
/-- Gates: an arm of the walk that is meant for one operation alone. -/
theorem gate {P : Program} {ops : Array Oper} {rest : List Oper} {o : Oper} {a : Act} {w : World} {Q : Exit → Act → World → Prop} {N : Nat} (_ : o.dst = some N) (h : wpList P ops Q (o :: rest) a w) : wpList P ops Q (o :: rest) a w := h
theorem gateOp {P : Program} {ops : Array Oper} {rest : List Oper} {o : Oper} {a : Act} {w : World} {Q : Exit → Act → World → Prop} {op : Op} (_ : o.op = op) (h : wpList P ops Q (o :: rest) a w) : wpList P ops Q (o :: rest) a w := h
end Go.Proofs.Ythempofohidlnaa
