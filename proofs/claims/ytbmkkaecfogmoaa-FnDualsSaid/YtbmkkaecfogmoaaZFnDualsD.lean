/- What the proof of FnDuals leans on, part 4 of 26. -/
import Derived.Test.YtbmkkaecfogmoaaZFnDualsC
import Derived.Deep.MidRow
import Derived.Laws.Rows
/- Rows of cells as functions of the place: read, written and handed back whole. -/
namespace Go.Proofs.Ytbmkkaecfogmoaa
open Go.RowKit
set_option linter.unusedVariables false
set_option linter.unusedSimpArgs false

/-- k cells, by their places. -/
def rowL (k : Nat) (g : Nat → Value) : List Value := (List.range k).map g
theorem rowL_length (k : Nat) (g : Nat → Value) : (rowL k g).length = k := by simp [rowL]
theorem rowL_size (k : Nat) (g : Nat → Value) : (rowL k g).toArray.size = k := by simp [rowL]
theorem rowL_get (k : Nat) (g : Nat → Value) (i : Nat) (h : i < k) : (rowL k g)[i]? = some (g i) := by simp [rowL, h]
theorem rowL_congr {k : Nat} {g h : Nat → Value} (e : ∀ i, i < k → g i = h i) : rowL k g = rowL k h := by
  unfold rowL
  exact List.map_congr_left fun i hi => e i (by simpa using hi)
theorem mcells_rowL (m : Mach) : mcells m = (rowL 98 (mf m)).toArray := rfl

/-- Bytes by their places. -/
def byt (g : Nat → Nat) (i : Nat) : Value := .int .u8 (g i : Nat)

section
variable {w : World} {b t n : Nat} {f : Nat → Value}
theorem rowIs_heap (h : w.rowIs b t n f) : w.heap[b]? = some (.cells (rowL n f).toArray t (0, 0)) := by
  obtain ⟨c, hb, hn, hc⟩ := h
  have : c = (rowL n f).toArray := by
    apply Array.ext (by rw [hn, rowL_size])
    intro i h1 h2
    have e1 := hc i (by omega)
    have e2 := rowL_get n f i (by omega)
    rw [Array.getElem?_eq_getElem h1] at e1
    have e3 : (rowL n f).toArray[i]? = some (f i) := by simpa using e2
    rw [Array.getElem?_eq_getElem h2] at e3
    exact Option.some.inj (e1.trans e3.symm)
  rw [hb, this]
theorem rowIs_new (w : World) (n t : Nat) (f : Nat → Value) : (w.alloc (.cells (rowL n f).toArray t)).rowIs w.heap.size t n f := by
  have := World.rowIs_alloc w (rowL n f).toArray t f (fun i hi => by
    have := rowL_get n f i (by simpa [rowL] using hi); simpa using this)
  rwa [rowL_size] at this
theorem rowIs_range (h : w.rowIs b t n f) (o k : Nat) (hk : o + k ≤ n) : w.rangeAt b o (rowL k fun i => f (o + i)) := fun j v hv => by
  have hj : j < k := by have := (List.getElem?_eq_some_iff.1 hv).1; rwa [rowL_length] at this
  rw [rowL_get k _ j hj] at hv
  rw [← hv]
  exact World.rowIs.cell h (by omega)
theorem rowIs_there (h : w.rowIs b t n f) (o k : Nat) (hk : o + k ≤ n) : w.there b o k := fun j hj =>
  ⟨by rw [World.rowIs.cell h (i := o + j) (by omega)]; rfl, World.rowIs.frozen h _⟩
theorem rowIs_below (h : w.rowIs b t n f) {B : Nat} {w' : World} (hb : Below B w w') (hB : b < B) : w'.rowIs b t n f := World.rowIs.of_block h (hb.block b hB)
theorem rowIs_drewN (h : w.rowIs b t n f) (k : Nat) : (w.drewN k).rowIs b t n f := h
end

/-- What some cells are behind a store of a list from the place o on. -/
def put (f : Nat → Value) (o : Nat) (vs : List Value) (i : Nat) : Value := if o ≤ i ∧ i < o + vs.length then vs.getD (i - o) undef else f i

theorem rowIs_setCells {b t n : Nat} : ∀ (vs : List Value) (o : Nat) (w : World) (f : Nat → Value), w.rowIs b t n f → (w.setCells b o vs).rowIs b t n (put f o vs)
  | [], o, w, f, h => World.rowIs.congr h fun i _ => by unfold put; rw [if_neg (by simp)]
  | v :: r, o, w, f, h => by
    rw [World.setCells]
    refine World.rowIs.congr (rowIs_setCells r (o + 1) _ _ (World.rowIs.set h o v)) fun i _ => ?_
    unfold put
    dsimp only
    by_cases h1 : o + 1 ≤ i ∧ i < o + 1 + r.length
    · rw [if_pos h1, if_pos (by simp; omega)]
      obtain ⟨k, rfl⟩ : ∃ k, i = o + 1 + k := ⟨i - (o + 1), by omega⟩
      rw [show o + 1 + k - (o + 1) = k by omega, show o + 1 + k - o = k + 1 by omega]
      simp
    · rw [if_neg h1]
      by_cases h2 : i = o
      · subst h2; rw [if_pos rfl, if_pos (by simp)]; simp
      · rw [if_neg h2, if_neg (by simp; omega)]

theorem below_setCells {B b : Nat} (hB : B ≤ b) : ∀ (vs : List Value) (o : Nat) {a w : World}, Below B a w → Below B a (w.setCells b o vs)
  | [], _, _, _, h => h
  | v :: r, o, _, _, h => by rw [World.setCells]; exact below_setCells hB r (o + 1) (h.setCell hB v)
theorem heap_setCells {b : Nat} : ∀ (vs : List Value) (o : Nat) (w : World), (w.setCells b o vs).heap.size = w.heap.size
  | [], _, _ => rfl
  | v :: r, o, w => by rw [World.setCells, heap_setCells r (o + 1)]; simp [World.setCell]
theorem block_setCells {b k : Nat} (hk : k ≠ b) : ∀ (vs : List Value) (o : Nat) (w : World), (w.setCells b o vs).heap[k]? = w.heap[k]?
  | [], _, _ => rfl
  | v :: r, o, w => by
    rw [World.setCells, block_setCells hk r (o + 1)]
    exact Below.heap_setCell w ⟨b, o, none⟩ v k hk
theorem rowIs_setCells_other {w : World} {b t n b' : Nat} {f : Nat → Value} (h : w.rowIs b t n f) (hb : b ≠ b') (vs : List Value) (o : Nat) : (w.setCells b' o vs).rowIs b t n f :=
  World.rowIs.of_block h (block_setCells hb vs o w)

theorem one_byt (k : Nat) (g : Nat → Nat) : (rowL k (byt g)).toArray.all (·.oneCell') = true := all_oneCell_toArray fun v hv => by
  unfold rowL at hv
  obtain ⟨i, _, rfl⟩ := List.mem_map.1 hv
  rfl
theorem one_mf (k o : Nat) (m : Mach) : (rowL k (fun i => mf m (o + i))).toArray.all (·.oneCell') = true := all_oneCell_toArray fun v hv => by
  unfold rowL at hv
  obtain ⟨i, _, rfl⟩ := List.mem_map.1 hv
  unfold mf
  repeat (split <;> try rfl)

/-- What is handed back out of a block: the row as a value. -/
theorem ret_row {P : Program} {fn : Func} {R : Ending → World → Prop} {a : Act} {w : World} {p ty : Nat} (h : fn.results = #[.cell p ty]) {g t n : Nat} {f : Nat → Value} {d : TypeDesc}
    (hp : a.tmps.getD p undef = .pointer (some ⟨g, 0, none⟩)) (hrow : w.rowIs g t n f) (hu : P.underlying ty = some d) (hd : (match d with | .struct _ | .array _ _ => true | _ => false) = true)
    (hi : (P.info? ty).map (·.size) = some n) (hdf : a.defers = []) (hR : R (.returned (.agg (rowL n f).toArray)) w) : bodyPost P fn R .ret a w :=
  bodyPost_ret (results_cell_row h a.tmps w g t _ _ d hp (rowIs_heap hrow) hu hd (by rw [rowL_size]; exact hi)) hdf hR
/-- Gates: an arm of the walk that is meant for one operation alone. -/
theorem gate {P : Program} {ops : Array Oper} {rest : List Oper} {o : Oper} {a : Act} {w : World} {Q : Exit → Act → World → Prop} {N : Nat} (_ : o.dst = some N) (h : wpList P ops Q (o :: rest) a w) : wpList P ops Q (o :: rest) a w := h
theorem gateOp {P : Program} {ops : Array Oper} {rest : List Oper} {o : Oper} {a : Act} {w : World} {Q : Exit → Act → World → Prop} {op : Op} (_ : o.op = op) (h : wpList P ops Q (o :: rest) a w) : wpList P ops Q (o :: rest) a w := h
end Go.Proofs.Ytbmkkaecfogmoaa

/- The statements' own copies of machines: toByteA3, toByteA3A16, toMachine hand back what they got. -/
namespace Go.Proofs.Ytbmkkaecfogmoaa
open Go.RowKit
set_option linter.unusedVariables false
set_option linter.unusedSimpArgs false

theorem sz_b3 : (Try.prog.info? 24).map (·.size) = some 3 := by kernel_rfl
theorem sz_b48 : (Try.prog.info? 25).map (·.size) = some 48 := by kernel_rfl
theorem sz_mach : (Try.prog.info? 27).map (·.size) = some 98 := by kernel_rfl
theorem zero_b48 (w : World) : (zeroValue 25).run Try.prog w = .ok (.agg (rowL 48 (byt fun _ => 0)).toArray) w := by kernel_rfl
theorem zero_mach (w : World) : (zeroValue 27).run Try.prog w = .ok (.agg (mcells ⟨0, 0, fun _ => 0, fun _ => 0⟩)) w := by kernel_rfl

/-- Three bytes as a value: the walk sees their list. -/
theorem row3 (g : Nat → Nat) : (rowL 3 (byt g)).toArray = #[.int .u8 (g 0 : Nat), .int .u8 (g 1 : Nat), .int .u8 (g 2 : Nat)] := rfl

set_option maxHeartbeats 1000000 in
theorem toByteA3_any (g : Nat → Nat) (hg : ∀ i, g i < 256) (w : World) :
    Calls Try.prog 198 #[.agg (rowL 3 (byt g)).toArray] w fun e w' => e = .returned (.agg (rowL 3 (byt g)).toArray) ∧ Below w.heap.size w w' := by
  have h1 := hid (rowIs_new w 3 24 (byt g))
  generalize hcs : (rowL 3 (byt g)).toArray = cs at *
  replace hcs := hid hcs
  go_enter Try.func198, Try.ntmps198
  go_wp2
  have h0 : ∀ w' : World, (w'.alloc (.cells #[.int .u8 0, .int .u8 0, .int .u8 0] 24)).rowIs w'.heap.size 24 3 (byt fun _ => 0) := fun w' => rowIs_new w' 3 24 (byt fun _ => 0)
  have h2 := hid (h0 (w.alloc (.cells cs 24)))
  have h3 := hid (h0 ((w.alloc (.cells cs 24)).alloc (.cells #[.int .u8 0, .int .u8 0, .int .u8 0] 24)))
  clear h0
  go_loopw [4] (fun i wr => ∃ k : Nat, k ≤ 3 ∧ i = .int .i64 k ∧ wr.rowIs w.heap.size 24 3 (byt g) ∧ wr.rowIs (w.heap.size + 1) 24 3 (byt fun _ => 0) ∧ wr.rowIs (w.heap.size + 1 + 1) 24 3 (byt fun j => if j < k then g j else 0) ∧ Below w.heap.size w wr) (fun i _ => 3 - (intOf i).toNat)
  case atStart =>
    refine ⟨0, by omega, rfl, (h1.out.alloc _).alloc _, ?_, ?_, ?_⟩
    · have := h2.out.alloc (.cells #[.int .u8 0, .int .u8 0, .int .u8 0] 24); simpa using this
    · have := h3.out; simpa using this
    · exact below_alloc (below_alloc (below_alloc (Below.refl _ _) (Nat.le_refl _) _) (Nat.le_refl _) _) (Nat.le_refl _) _
  case round =>
    obtain ⟨k, hk, rfl, r1, r2, r3, hb⟩ := hrel
    clear h1 h2 h3
    replace r1 := hid r1; replace r2 := hid r2; replace r3 := hid r3; replace hb := hid hb
    by_cases hlt : k < 3
    · have c1 : wr.cell? ⟨w.heap.size, k, none⟩ = some (.int .u8 (g k : Nat)) := r1.out.cell hlt
      obtain ⟨u, c3⟩ : ∃ u, wr.cell? ⟨w.heap.size + 1 + 1, k, none⟩ = some u := ⟨_, r3.out.cell hlt⟩
      have f3 : wr.frozen? ⟨w.heap.size + 1 + 1, k, none⟩ = false := r3.out.frozen k
      have hgk := hg k
      go_wp2
      go_roundw
      case rel =>
        refine ⟨k + 1, by omega, by go_num, r1.out.setOther (by simp; omega) _, r2.out.setOther (by simp) _, ?_, hb.out.setCell (by simp; omega) _⟩
        refine World.rowIs.congr (World.rowIs.set (f := byt fun j => if j < k then g j else 0) r3.out k _) (fun i hi => ?_)
        unfold byt
        dsimp only
        by_cases e : i = k
        · subst e; rw [if_pos rfl, if_pos (by omega)]
        · rw [if_neg e]; by_cases e2 : i < k
          · rw [if_pos e2, if_pos (by omega)]
          · rw [if_neg e2, if_neg (by omega)]
      case measure => simp [intOf]; omega
    · obtain rfl : k = 3 := by omega
      have r3' := hid (World.rowIs.congr (g := byt g) r3.out (fun i hi => by unfold byt; dsimp only; rw [if_pos hi]))
      clear r3
      have rg := hid (rowIs_range r3'.out 0 3 (by omega))
      have th := hid (rowIs_there r2.out 0 3 (by omega))
      go_wp2_with (first
        | ((with_reducible refine gate (N := 14) rfl ?_); refine wpList_load_mid rfl 24 _ rfl (w.heap.size + 1 + 1) 0 rfl _ _ rg.out Try.underlying24 rfl (by rw [rowL_length]; exact sz_b3) ?_)
        | ((with_reducible refine gateOp (op := .store 24 (.tmp 2) (.tmp 14)) rfl ?_); refine wpList_store_mid rfl 24 _ _ rfl (w.heap.size + 1) 0 _ rfl rfl (by rw [rowL_size]; exact th.out) (by rw [rowL_size]; exact sz_b3) (all_oneCell_toArray fun v hv => by unfold rowL at hv; obtain ⟨i, _, rfl⟩ := List.mem_map.1 hv; rfl) ?_))
      refine ret_row (ty := 24) (p := 2) rfl (g := w.heap.size + 1) (t := 24) (n := 3) rfl (World.rowIs.congr (g := byt g) (rowIs_setCells _ _ _ _ r2.out) (fun i hi => ?_)) Try.underlying24 rfl sz_b3 rfl ⟨by rw [← hcs.out], below_setCells (by omega) _ _ hb.out⟩
      unfold put
      rw [if_pos (by simp [rowL_length]; omega)]
      have := rowL_get 3 (fun i => byt g (0 + i)) i hi
      simp only [List.getD_eq_getElem?_getD]
      simp [rowL, hi]

theorem byt_shift (g : Nat → Nat) (o : Nat) : (fun j => byt g (o + j)) = byt (fun j => g (o + j)) := rfl
theorem rowL_byt_all (k : Nat) (g : Nat → Nat) : (rowL k (byt g)).toArray.all (·.oneCell') = true := one_byt k g

set_option maxHeartbeats 1000000 in
theorem toByteA3A16_any (g : Nat → Nat) (hg : ∀ i, g i < 256) (w : World) :
    Calls Try.prog 99 #[.agg (rowL 48 (byt g)).toArray] w fun e w' => e = .returned (.agg (rowL 48 (byt g)).toArray) ∧ Below w.heap.size w w' := by
  have h1 := hid (rowIs_new w 48 25 (byt g))
  generalize hcs : (rowL 48 (byt g)).toArray = cs at *
  replace hcs := hid hcs
  have hz := zero_b48
  have h0 : ∀ w' : World, (w'.alloc (.cells (rowL 48 (byt fun _ => 0)).toArray 25)).rowIs w'.heap.size 25 48 (byt fun _ => 0) := fun w' => rowIs_new w' 48 25 (byt fun _ => 0)
  generalize (rowL 48 (byt fun _ => 0)).toArray = zs at *
  go_enter Try.func99, Try.ntmps99
  go_wp2
  clear hz
  have h2 := hid (h0 (w.alloc (.cells cs 25)))
  have h3 := hid (h0 ((w.alloc (.cells cs 25)).alloc (.cells zs 25)))
  clear h0
  go_loopw [4] (fun i wr => ∃ k : Nat, k ≤ 16 ∧ i = .int .i64 k ∧ wr.rowIs w.heap.size 25 48 (byt g) ∧ wr.rowIs (w.heap.size + 1) 25 48 (byt fun _ => 0) ∧ wr.rowIs (w.heap.size + 1 + 1) 25 48 (byt fun j => if j < k * 3 then g j else 0) ∧ Below w.heap.size w wr) (fun i _ => 16 - (intOf i).toNat)
  case atStart =>
    refine ⟨0, by omega, rfl, (h1.out.alloc _).alloc _, ?_, ?_, ?_⟩
    · have := h2.out.alloc (.cells zs 25); simpa using this
    · have := h3.out; simpa using this
    · exact below_alloc (below_alloc (below_alloc (Below.refl _ _) (Nat.le_refl _) _) (Nat.le_refl _) _) (Nat.le_refl _) _
  case round =>
    obtain ⟨k, hk, rfl, r1, r2, r3, hb⟩ := hrel
    clear h1 h2 h3
    replace r1 := hid r1; replace r2 := hid r2; replace r3 := hid r3; replace hb := hid hb
    by_cases hlt : k < 16
    · have dk : decide ((k : Int) < 16) = true := decide_eq_true (by omega)
      have rg := hid (show wr.rangeAt w.heap.size (k * 3) (rowL 3 (byt fun j => g (k * 3 + j))) from rowIs_range r1.out (k * 3) 3 (by omega))
      have sz := hid r3.out.lt
      go_wp2_with (first
        | ((with_reducible refine gate (N := 12) rfl ?_); refine wpList_load_mid rfl 24 _ rfl w.heap.size (k * 3) rfl _ _ rg.out Try.underlying24 rfl (by rw [rowL_length]; exact sz_b3) ?_)
        | (go_at_call 198; (with_reducible refine (toByteA3_any (fun j => g (k * 3 + j)) (fun i => hg _) _).mono ?_); rintro e w' ⟨rfl, hb2⟩; replace hb2 := hid hb2)
        | ((with_reducible refine gateOp (op := .store 24 (.tmp 14) (.tmp 13)) rfl ?_); refine wpList_store_mid rfl 24 _ _ rfl (w.heap.size + 1 + 1) (k * 3) _ rfl rfl (by rw [rowL_size]; exact rowIs_there (rowIs_below r3.out hb2.out sz.out) _ _ (by omega)) (by rw [rowL_size]; exact sz_b3) (one_byt _ _) ?_))
      go_roundw
      case rel =>
        have q1 := rowIs_below r1.out hb2.out r1.out.lt
        have q2 := rowIs_below r2.out hb2.out r2.out.lt
        have q3 := rowIs_below r3.out hb2.out r3.out.lt
        refine ⟨k + 1, by omega, by go_num, rowIs_setCells_other q1 (by omega) _ _, rowIs_setCells_other q2 (by omega) _ _, ?_, below_setCells (by omega) _ _ (hb.out.trans (hb2.out.mono hb.out.size))⟩
        refine World.rowIs.congr (rowIs_setCells _ _ _ _ q3) (fun i hi => ?_)
        unfold put byt
        dsimp only
        simp only [rowL_length]
        by_cases e : k * 3 ≤ i ∧ i < k * 3 + 3
        · rw [if_pos e, if_pos (by omega)]
          have := rowL_get 3 (byt fun j => g (k * 3 + j)) (i - k * 3) (by omega)
          rw [List.getD_eq_getElem?_getD]
          unfold byt at this
          rw [this]
          simp only [Option.getD_some]
          rw [show k * 3 + (i - k * 3) = i by omega]
        · rw [if_neg e]
          by_cases e2 : i < k * 3
          · rw [if_pos e2, if_pos (by omega)]
          · rw [if_neg e2, if_neg (by omega)]
      case measure => simp [intOf]; omega
    · obtain rfl : k = 16 := by omega
      have r3' := hid (World.rowIs.congr (g := byt g) r3.out (fun i hi => by unfold byt; dsimp only; rw [if_pos (by omega)]))
      clear r3
      have rg := hid (rowIs_range r3'.out 0 48 (by omega))
      have th := hid (rowIs_there r2.out 0 48 (by omega))
      go_wp2_with (first
        | ((with_reducible refine gate (N := 15) rfl ?_); refine wpList_load_mid rfl 25 _ rfl (w.heap.size + 1 + 1) 0 rfl _ _ rg.out Try.underlying25 rfl (by rw [rowL_length]; exact sz_b48) ?_)
        | ((with_reducible refine gateOp (op := .store 25 (.tmp 2) (.tmp 15)) rfl ?_); refine wpList_store_mid rfl 25 _ _ rfl (w.heap.size + 1) 0 _ rfl rfl (by rw [rowL_size]; exact th.out) (by rw [rowL_size]; exact sz_b48) (all_oneCell_toArray fun v hv => by unfold rowL at hv; obtain ⟨i, _, rfl⟩ := List.mem_map.1 hv; rfl) ?_))
      refine ret_row (ty := 25) (p := 2) rfl (g := w.heap.size + 1) (t := 25) (n := 48) rfl (World.rowIs.congr (g := byt g) (rowIs_setCells _ _ _ _ r2.out) (fun i hi => ?_)) Try.underlying25 rfl sz_b48 rfl ⟨by rw [← hcs.out], below_setCells (by omega) _ _ hb.out⟩
      unfold put
      rw [if_pos (by simp [rowL_length]; omega)]
      simp only [List.getD_eq_getElem?_getD]
      simp [rowL, hi]


theorem mf_nx_row (m : Mach) (i : Nat) (h : i < 48) : mf m (2 + i) = byt m.nx i := by
  unfold mf byt
  rw [if_neg (by omega), if_neg (by omega), if_pos (by omega), show 2 + i - 2 = i by omega]
theorem mf_ot_row (m : Mach) (i : Nat) : mf m (50 + i) = byt m.ot i := by
  unfold mf byt
  rw [if_neg (by omega), if_neg (by omega), if_neg (by omega), show 50 + i - 50 = i by omega]

theorem set_LS (m : Mach) : ((mcells ⟨0, 0, fun _ => 0, fun _ => 0⟩).setIfInBounds 0 (.int .i64 m.L)).setIfInBounds 1 (.int .i64 m.S) = mcells ⟨m.L, m.S, fun _ => 0, fun _ => 0⟩ := by
  apply Array.ext (by simp [size_mcells])
  intro i h1 h2
  have hi : i < 98 := by rw [size_mcells] at h2; exact h2
  have e2 := mcells_get ⟨m.L, m.S, fun _ => 0, fun _ => 0⟩ i hi
  have e0 := mcells_get ⟨0, 0, fun _ => 0, fun _ => 0⟩ i hi
  have : (((mcells ⟨0, 0, fun _ => 0, fun _ => 0⟩).setIfInBounds 0 (.int .i64 m.L)).setIfInBounds 1 (.int .i64 m.S))[i]? = (mcells ⟨m.L, m.S, fun _ => 0, fun _ => 0⟩)[i]? := by
    rw [e2, Array.getElem?_setIfInBounds, Array.getElem?_setIfInBounds, e0]
    simp only [Array.size_setIfInBounds, size_mcells]
    unfold mf
    by_cases a0 : i = 0
    · subst a0; rfl
    · by_cases a1 : i = 1
      · subst a1; rfl
      · rw [if_neg (fun h => a1 h.symm), if_neg (fun h => a0 h.symm), if_neg a0, if_neg a1, if_neg a0, if_neg a1]
  rw [Array.getElem?_eq_getElem h1, Array.getElem?_eq_getElem h2] at this
  exact Option.some.inj this

theorem getD_rowL (k : Nat) (g : Nat → Value) (i : Nat) (h : i < k) : (rowL k g).getD i undef = g i := by
  rw [List.getD_eq_getElem?_getD, rowL_get k g i h]; rfl
theorem put_mach (m : Mach) (i : Nat) (hi : i < 98) : put (put (mf ⟨m.L, m.S, fun _ => 0, fun _ => 0⟩) 2 (rowL 48 (byt m.nx))) 50 (rowL 48 (byt m.ot)) i = mf m i := by
  unfold put
  simp only [rowL_length]
  by_cases a : 50 ≤ i ∧ i < 50 + 48
  · rw [if_pos a, getD_rowL _ _ _ (by omega)]
    have := mf_ot_row m (i - 50)
    rw [show 50 + (i - 50) = i by omega] at this
    exact this.symm
  · rw [if_neg a]
    by_cases b : 2 ≤ i ∧ i < 2 + 48
    · rw [if_pos b, getD_rowL _ _ _ (by omega)]
      have := mf_nx_row m (i - 2) (by omega)
      rw [show 2 + (i - 2) = i by omega] at this
      exact this.symm
    · rw [if_neg b]
      have : i = 0 ∨ i = 1 := by omega
      rcases this with rfl | rfl <;> rfl
theorem put_all (f g : Nat → Value) (k i : Nat) (h : i < k) : put f 0 (rowL k g) i = g i := by
  unfold put
  rw [if_pos (by rw [rowL_length]; omega), getD_rowL _ _ _ (by omega)]; rfl

set_option maxHeartbeats 2000000 in
theorem toMachine_any (m : Mach) (hk : m.Ok) (w : World) :
    Calls Try.prog 21 #[.agg (mcells m)] w fun e w' => e = .returned (.agg (mcells m)) ∧ Below w.heap.size w w' := by
  have cL := mcells_L m
  have cS := mcells_S m
  have hz := zero_mach
  have zc0 := mcells_L ⟨0, 0, fun _ => 0, fun _ => 0⟩
  have zc1 := mcells_S ⟨0, 0, fun _ => 0, fun _ => 0⟩
  have h1 := hid (MB.new w m 42)
  have h2 := hid (MB.new (w.alloc (.cells (mcells m) 42)) ⟨0, 0, fun _ => 0, fun _ => 0⟩ 27)
  have h3 := hid (MB.new ((w.alloc (.cells (mcells m) 42)).alloc (.cells (mcells ⟨0, 0, fun _ => 0, fun _ => 0⟩) 27)) ⟨m.L, m.S, fun _ => 0, fun _ => 0⟩ 27)
  have hb0 := hid (below_alloc (below_alloc (below_alloc (Below.refl w.heap.size w) (Nat.le_refl _) (.cells (mcells m) 42)) (Nat.le_refl _) (.cells (mcells ⟨0, 0, fun _ => 0, fun _ => 0⟩) 27)) (Nat.le_refl _) (.cells (mcells ⟨m.L, m.S, fun _ => 0, fun _ => 0⟩) 27))
  have hset := set_LS m
  have m1 := hid ((h1.out.alloc (.cells (mcells ⟨0, 0, fun _ => 0, fun _ => 0⟩) 27)).alloc (.cells (mcells ⟨m.L, m.S, fun _ => 0, fun _ => 0⟩) 27))
  have m2 := hid (h2.out.alloc (.cells (mcells ⟨m.L, m.S, fun _ => 0, fun _ => 0⟩) 27))
  clear h1 h2
  have hk1 := hid (show ∀ i, m.nx i < 256 from fun i => (hk i).1)
  have hk2 := hid (show ∀ i, m.ot i < 256 from fun i => (hk i).2)
  clear hk
  generalize mcells ⟨m.L, m.S, fun _ => 0, fun _ => 0⟩ = ls at *
  generalize mcells ⟨0, 0, fun _ => 0, fun _ => 0⟩ = zs at *
  generalize hcs : mcells m = cs at *
  replace hcs := hid hcs
  replace hset := hid hset
  have e2 : (w.alloc (.cells cs 42)).heap.size = w.heap.size + 1 := by simp
  have e3 : ((w.alloc (.cells cs 42)).alloc (.cells zs 27)).heap.size = w.heap.size + 1 + 1 := by simp
  rw [e2] at m2
  rw [e3] at h3
  clear e2 e3
  go_enter Try.func21, Try.ntmps21
  go_wp2_with (first
    | ((with_reducible refine gate (N := 11) rfl ?_); rw [hset.out]; generalize ((w.alloc (.cells cs 42)).alloc (.cells zs 27)).alloc (.cells ls 27) = W0 at *; have rg1 := hid (show W0.rangeAt w.heap.size 2 (rowL 48 (byt m.nx)) from (rowL_congr (fun i hi => mf_nx_row m i hi)) ▸ rowIs_range m1.out 2 48 (by omega)); refine wpList_load_mid rfl 25 _ rfl w.heap.size 2 rfl _ _ rg1.out Try.underlying25 rfl (by rw [rowL_length]; exact sz_b48) ?_)
    | (go_at_call 99; (with_reducible refine (toByteA3A16_any m.nx hk1.out _).mono ?_); rintro e W1 ⟨rfl, hb1⟩; have s1 := hid h3.out.lt; have n1 := hid (m1.out.below hb1 m1.out.lt); have n2 := hid (m2.out.below hb1 m2.out.lt); have n3 := hid (rowIs_below h3.out hb1 h3.out.lt); have hb2 := hid (hb0.out.trans (hb1.mono hb0.out.size)); clear hb0 hb1 m1 m2 h3)
    | ((with_reducible refine gateOp (op := .store 25 (.tmp 13) (.tmp 12)) rfl ?_); refine wpList_store_mid rfl 25 _ _ rfl (w.heap.size + 1 + 1) 2 _ rfl rfl (by rw [rowL_size]; exact rowIs_there n3.out _ _ (by omega)) (by rw [rowL_size]; exact sz_b48) (one_byt _ _) ?_; have k1 := hid (rowIs_setCells_other n1.out (show w.heap.size ≠ w.heap.size + 1 + 1 by omega) (rowL 48 (byt m.nx)) 2); have k2 := hid (rowIs_setCells_other n2.out (show w.heap.size + 1 ≠ w.heap.size + 1 + 1 by omega) (rowL 48 (byt m.nx)) 2); have k3 := hid (rowIs_setCells (rowL 48 (byt m.nx)) 2 _ _ n3.out); have hb3 := hid (below_setCells (show w.heap.size ≤ w.heap.size + 1 + 1 by omega) (rowL 48 (byt m.nx)) 2 hb2.out); clear n1 n2 n3 hb2; generalize W1.setCells (w.heap.size + 1 + 1) 2 (rowL 48 (byt m.nx)) = W2 at *)
    | ((with_reducible refine gate (N := 15) rfl ?_); have rg1 := hid (show W2.rangeAt w.heap.size 50 (rowL 48 (byt m.ot)) from (rowL_congr (fun i _ => mf_ot_row m i)) ▸ rowIs_range k1.out 50 48 (by omega)); refine wpList_load_mid rfl 25 _ rfl w.heap.size 50 rfl _ _ rg1.out Try.underlying25 rfl (by rw [rowL_length]; exact sz_b48) ?_)
    | (go_at_call 99; (with_reducible refine (toByteA3A16_any m.ot hk2.out _).mono ?_); rintro e W3 ⟨rfl, hb1⟩; have n2 := hid (rowIs_below k2.out hb1 k2.out.lt); have n3 := hid (rowIs_below k3.out hb1 k3.out.lt); have hb4 := hid (hb3.out.trans (hb1.mono hb3.out.size)); clear hb3 hb1 k1 k2 k3)
    | ((with_reducible refine gateOp (op := .store 25 (.tmp 17) (.tmp 16)) rfl ?_); refine wpList_store_mid rfl 25 _ _ rfl (w.heap.size + 1 + 1) 50 _ rfl rfl (by rw [rowL_size]; exact rowIs_there n3.out _ _ (by omega)) (by rw [rowL_size]; exact sz_b48) (one_byt _ _) ?_; have k2 := hid (rowIs_setCells_other n2.out (show w.heap.size + 1 ≠ w.heap.size + 1 + 1 by omega) (rowL 48 (byt m.ot)) 50); have k3 := hid (rowIs_setCells (rowL 48 (byt m.ot)) 50 _ _ n3.out); have hb5 := hid (below_setCells (show w.heap.size ≤ w.heap.size + 1 + 1 by omega) (rowL 48 (byt m.ot)) 50 hb4.out); clear n2 n3 hb4; generalize W3.setCells (w.heap.size + 1 + 1) 50 (rowL 48 (byt m.ot)) = W4 at *)
    | ((with_reducible refine gate (N := 18) rfl ?_); have k4 := hid (World.rowIs.congr (g := mf m) k3.out (put_mach m)); have rg1 := hid (show W4.rangeAt (w.heap.size + 1 + 1) 0 (rowL 98 (mf m)) from (rowL_congr (g := fun i => mf m (0 + i)) (h := mf m) (fun i _ => by rw [Nat.zero_add])) ▸ rowIs_range k4.out 0 98 (by omega)); refine wpList_load_mid rfl 27 _ rfl (w.heap.size + 1 + 1) 0 rfl _ _ rg1.out Try.underlying27 rfl (by rw [rowL_length]; exact sz_mach) ?_)
    | ((with_reducible refine gateOp (op := .store 27 (.tmp 2) (.tmp 18)) rfl ?_); refine wpList_store_mid rfl 27 _ _ rfl (w.heap.size + 1) 0 _ rfl rfl (by rw [rowL_size]; exact rowIs_there k2.out _ _ (by omega)) (by rw [rowL_size]; exact sz_mach) (all_oneCell_toArray fun v hv => by unfold rowL at hv; obtain ⟨i, _, rfl⟩ := List.mem_map.1 hv; unfold mf; repeat (split <;> try rfl)) ?_))
  exact ret_row (ty := 27) (p := 2) rfl (g := w.heap.size + 1) (t := 27) (n := 98) rfl (World.rowIs.congr (g := mf m) (rowIs_setCells _ _ _ _ k2.out) (fun i hi => put_all _ _ _ _ hi)) Try.underlying27 rfl sz_mach rfl ⟨by rw [← hcs.out]; rfl, below_setCells (by omega) _ _ hb5.out⟩

theorem one_mach (m : Mach) : (mcells m).all (·.oneCell') = true := all_oneCell_toArray fun v hv => by
  obtain ⟨i, _, rfl⟩ := List.mem_map.1 hv
  unfold mf
  repeat (split <;> try rfl)
/-- A whole machine read out of its block, as the walk meets it. -/
theorem load_mach {ops : Array Oper} {rest : List Oper} {o : Oper} {a : Act} {w : World} {Q : Exit → Act → World → Prop} (hgd : o.guard = none) (x : Operand) (ho : o.op = .load 27 x)
    (b : Nat) (hx : a.eval x = .pointer (some ⟨b, 0, none⟩)) (m : Mach) (hm : MB w 27 b m) (h : wpList Try.prog ops Q rest (a.put o.dst (.agg (mcells m))) w) : wpList Try.prog ops Q (o :: rest) a w :=
  wpList_load_row hgd 27 x ho b hx 27 _ (0, 0) _ hm.heap Try.underlying27 rfl (by rw [size_mcells]; exact sz_mach) h
theorem load_lmach {ops : Array Oper} {rest : List Oper} {o : Oper} {a : Act} {w : World} {Q : Exit → Act → World → Prop} (hgd : o.guard = none) (x : Operand) (ho : o.op = .load 42 x)
    (b : Nat) (hx : a.eval x = .pointer (some ⟨b, 0, none⟩)) (m : Mach) (hm : MB w 42 b m) (h : wpList Try.prog ops Q rest (a.put o.dst (.agg (mcells m))) w) : wpList Try.prog ops Q (o :: rest) a w :=
  wpList_load_row hgd 42 x ho b hx 42 _ (0, 0) _ hm.heap Try.underlying42 rfl (by rw [size_mcells]; kernel_rfl) h

/-- A whole machine stored into a block of its size. -/
theorem store_mach {ops : Array Oper} {rest : List Oper} {o : Oper} {a : Act} {w : World} {Q : Exit → Act → World → Prop} (hgd : o.guard = none) (x y : Operand) (ho : o.op = .store 27 x y)
    (b : Nat) (hx : a.eval x = .pointer (some ⟨b, 0, none⟩)) (m : Mach) (hy : a.eval y = .agg (mcells m)) (t : Nat) (f : Nat → Value) (hrow : w.rowIs b t 98 f)
    (h : ∀ w', MB w' t b m → (∀ k, k ≠ b → w'.heap[k]? = w.heap[k]?) → w'.heap.size = w.heap.size → (∀ (B : Nat) (a : World), B ≤ b → Below B a w → Below B a w') → wpList Try.prog ops Q rest (a.put o.dst undef) w') :
    wpList Try.prog ops Q (o :: rest) a w := by
  refine wpList_store_mid hgd 27 x y ho b 0 (mcells m) hx hy (by rw [size_mcells]; exact rowIs_there hrow _ _ (by omega)) (by rw [size_mcells]; exact sz_mach) (one_mach m) ?_
  refine h _ (World.rowIs.congr (rowIs_setCells _ _ _ _ hrow) fun i hi => put_all _ _ _ _ hi) (fun k hk => block_setCells hk _ _ _) (heap_setCells _ _ _) (fun B a hB hb => below_setCells hB _ _ hb)

theorem built_mach (a b : Int) : Try.prog.built 27 [(0, .int .i64 a), (1, .int .i64 b)] = some (mcells ⟨a, b, fun _ => 0, fun _ => 0⟩) := by kernel_rfl
theorem build_mach {ops : Array Oper} {rest : List Oper} {o : Oper} {a : Act} {w : World} {Q : Exit → Act → World → Prop} (hgd : o.guard = none) (x y : Operand) (ho : o.op = .build 27 #[(0, x), (1, y)])
    (L S : Int) (hx : a.eval x = .int .i64 L) (hy : a.eval y = .int .i64 S) (h : wpList Try.prog ops Q rest (a.put o.dst (.agg (mcells ⟨L, S, fun _ => 0, fun _ => 0⟩))) w) : wpList Try.prog ops Q (o :: rest) a w := by
  have e : Try.prog.built 27 ((#[(0, x), (1, y)] : Array (Nat × Operand)).map fun (i, x) => (i, a.eval x)).toList = some (mcells ⟨L, S, fun _ => 0, fun _ => 0⟩) := by
    have : ((#[(0, x), (1, y)] : Array (Nat × Operand)).map fun (i, x) => (i, a.eval x)).toList = [(0, .int .i64 L), (1, .int .i64 S)] := by simp [hx, hy]
    rw [this]; exact built_mach L S
  refine wpList_build hgd 27 _ ho (by rw [e]; rfl) ?_
  rw [e]
  exact h

/-- A machine handed back out of its block. -/
theorem ret_mach {fn : Func} {R : Ending → World → Prop} {a : Act} {w : World} {p : Nat} (h : fn.results = #[.cell p 27]) {g t : Nat} {m : Mach}
    (hp : a.tmps.getD p undef = .pointer (some ⟨g, 0, none⟩)) (hm : MB w t g m) (hdf : a.defers = []) (hR : R (.returned (.agg (mcells m))) w) : bodyPost Try.prog fn R .ret a w :=
  ret_row (n := 98) (f := mf m) h hp hm Try.underlying27 rfl sz_mach hdf hR

/-- The same where the operation is guarded, and the guard lets it by. -/
theorem load_mach_g {ops : Array Oper} {rest : List Oper} {o : Oper} {a : Act} {w : World} {Q : Exit → Act → World → Prop} (hgd : Region.wanted o (yielded ops a.tmps) = true) (x : Operand) (ho : o.op = .load 27 x)
    (b : Nat) (hx : a.eval x = .pointer (some ⟨b, 0, none⟩)) (m : Mach) (hm : MB w 27 b m) (h : wpList Try.prog ops Q rest (a.put o.dst (.agg (mcells m))) w) : wpList Try.prog ops Q (o :: rest) a w :=
  wpList_step fun K hK => by
    rw [if_pos hgd]
    exact wp_load_row 27 x ho b hx 27 _ (0, 0) _ hm.heap Try.underlying27 rfl (by rw [size_mcells]; exact sz_mach) (hK _ _ h)
/-- The zero value. -/
def zeroM : Mach := ⟨0, 0, fun _ => 0, fun _ => 0⟩
theorem zeroM_run (w : World) : (zeroValue 27).run Try.prog w = .ok (.agg (mcells zeroM)) w := zero_mach w
theorem built_zero0 : Try.prog.built 27 [(0, .int .i64 0), (1, .int .i64 0)] = Try.prog.built 27 [] := by kernel_rfl
theorem built_zero : Try.prog.built 27 [] = some (mcells ⟨0, 0, fun _ => 0, fun _ => 0⟩) := by
  rw [← built_zero0]
  exact built_mach 0 0
theorem build_zero {ops : Array Oper} {rest : List Oper} {o : Oper} {a : Act} {w : World} {Q : Exit → Act → World → Prop} (hgd : o.guard = none) (ho : o.op = .build 27 #[])
    (h : wpList Try.prog ops Q rest (a.put o.dst (.agg (mcells zeroM))) w) : wpList Try.prog ops Q (o :: rest) a w := by
  have e : Try.prog.built 27 ((#[] : Array (Nat × Operand)).map fun (i, x) => (i, a.eval x)).toList = some (mcells ⟨0, 0, fun _ => 0, fun _ => 0⟩) := by
    have h0 : ((#[] : Array (Nat × Operand)).map fun (i, x) => (i, a.eval x)).toList = [] := by simp
    rw [h0]
    exact built_zero
  refine wpList_build hgd 27 _ ho (by rw [e]; rfl) ?_
  rw [e]
  exact h

end Go.Proofs.Ytbmkkaecfogmoaa

/- Reversible machines: the program's isReversible and the reference's l07Reversible say the same. -/
namespace Go.Proofs.Ytbmkkaecfogmoaa
open Go.RowKit
set_option linter.unusedVariables false
set_option linter.unusedSimpArgs false

/-- What is known of a machine with l letters and s states. -/
structure Good (m : Mach) (l s : Nat) : Prop where
  L : m.L = l
  S : m.S = s
  l2 : 2 ≤ l
  l3 : l ≤ 3
  s1 : 1 ≤ s
  s16 : s ≤ 16
  nx : ∀ q x, q < s → x < l → m.nx (q * 3 + x) < s
  ot : ∀ q x, q < s → x < l → m.ot (q * 3 + x) < l
  inj : ∀ q, q < s → ∀ y x, y < x → x < l → m.ot (q * 3 + y) ≠ m.ot (q * 3 + x)
  z : ∀ q x, q < 16 → x < 3 → ¬ (q < s ∧ x < l) → m.nx (q * 3 + x) = 0 ∧ m.ot (q * 3 + x) = 0

theorem IsM.good {m : Mach} (h : IsM m) : ∃ l s, Good m l s := by
  obtain ⟨h1, h2, h3, h4, h5⟩ := h
  obtain ⟨l, hl⟩ := Int.eq_ofNat_of_zero_le (show 0 ≤ m.L by omega)
  obtain ⟨s, hs⟩ := Int.eq_ofNat_of_zero_le (show 0 ≤ m.S by omega)
  have cell : ∀ q x, q < s → x < l → (m.nx (q * 3 + x) : Int) < m.S ∧ (m.ot (q * 3 + x) : Int) < m.L ∧ ∀ y, y < x → m.ot (q * 3 + y) ≠ m.ot (q * 3 + x) := fun q x hq hx => by
    have := h5 q (by omega) x (by omega)
    unfold CellOk at this
    rw [if_pos ⟨by omega, by omega⟩] at this
    exact this
  refine ⟨l, s, hl, hs, by omega, by omega, by omega, by omega, fun q x hq hx => ?_, fun q x hq hx => ?_, fun q hq y x hy hx => (cell q x hq hx).2.2 y hy, fun q x hq hx hn => ?_⟩
  · have := (cell q x hq hx).1; omega
  · have := (cell q x hq hx).2.1; omega
  · have := h5 q hq x hx
    unfold CellOk at this
    rw [if_neg (by omega)] at this
    exact this

theorem Good.isM {m : Mach} {l s : Nat} (g : Good m l s) : IsM m := by
  have := g.L; have := g.S; have := g.l2; have := g.l3; have := g.s1; have := g.s16
  refine ⟨by omega, by omega, by omega, by omega, fun q hq x hx => ?_⟩
  unfold CellOk
  by_cases h : (q : Int) < m.S ∧ (x : Int) < m.L
  · rw [if_pos h]
    have a := g.nx q x (by omega) (by omega)
    have b := g.ot q x (by omega) (by omega)
    exact ⟨by omega, by omega, fun y hy => g.inj q (by omega) y x hy (by omega)⟩
  · rw [if_neg h]
    exact g.z q x hq hx (by omega)

/-- Each letter leads all states to different ones. -/
def RevP (m : Mach) (l s : Nat) : Prop := ∀ x, x < l → InjOn (fun q => m.nx (q * 3 + x)) s

theorem two_pow_i64 (n : Nat) (h : n ≤ 16) : wrap64 (2 ^ n) = ((2 ^ n : Nat) : Int) := by
  have h1 : 2 ^ n ≤ 2 ^ 16 := Nat.pow_le_pow_right (by omega) h
  have h2 : (2 : Nat) ^ 16 = 65536 := by decide
  have e : ((2 : Int) ^ n) = ((2 ^ n : Nat) : Int) := by simp
  rw [e]
  generalize (2 ^ n : Nat) = p at *
  exact w64 (by omega) (by omega)
theorem two_pow_lt (n : Nat) (h : n ≤ 16) : 2 ^ n < 9223372036854775808 := by
  have h1 : 2 ^ n ≤ 2 ^ 16 := Nat.pow_le_pow_right (by omega) h
  have h2 : (2 : Nat) ^ 16 = 65536 := by decide
  omega

set_option maxHeartbeats 1000000 in
theorem isReversible_any (b : Nat) (w : World) (m : Mach) (hm : MB w 27 b m) (l s : Nat) (g : Good m l s) (r : Bool) (hr : r = true ↔ RevP m l s) :
    Calls Try.prog 163 #[.pointer (some ⟨b,0,none⟩)] w fun e w' => e = .returned (.bool r) ∧ w = w' := by
  have cL := hm.cL
  have cS := hm.cS
  rw [g.L] at cL
  rw [g.S] at cS
  have hM := hid hm; clear hm
  have hR := hid hr; clear hr
  have l2 := g.l2; have l3 := g.l3; have s1 := g.s1; have s16 := g.s16
  have hp16 := two_pow_i64 s s16
  have hp1 : 1 ≤ 2 ^ s := Nat.one_le_two_pow
  have hp2 : 2 ^ s ≤ 65536 := Nat.pow_le_pow_right (n := 2) (by omega) s16
  replace g := hid g
  generalize hP : (2 ^ s : Nat) = P at *
  replace hP := hid hP
  go_enter Try.func163, Try.ntmps163
  go_wp2
  go_loop [10] (fun i => ∃ x : Nat, x ≤ l ∧ i = .int .i64 x ∧ ∀ y, y < x → InjOn (fun q => m.nx (q * 3 + y)) s) (fun i => l - (intOf i).toNat)
  case atStart => exact ⟨0, by omega, rfl, fun y hy => by omega⟩
  case round =>
    obtain ⟨x, hx, rfl, hall⟩ := hrel
    replace hall := hid hall
    by_cases hlt : x < l
    · have dx : decide ((x : Int) < (l : Int)) = true := decide_eq_true (by omega)
      go_wp2
      go_loop [4, 17] (fun a i => ∃ q : Nat, q ≤ s ∧ i = .int .i64 q ∧ a = .int .i64 (orAll (fun q => m.nx (q * 3 + x)) q : Nat)) (fun _ i => s - (intOf i).toNat)
      case atStart => exact ⟨0, by omega, rfl, rfl⟩
      case round =>
        obtain ⟨q, hq, rfl, rfl⟩ := hrel
        by_cases hlq : q < s
        · have hn := g.out.nx q x hlq hlt
          have hlt2 := orAll_lt (fun q => m.nx (q * 3 + x)) s q (fun p hp => g.out.nx p x (by omega) hlt)
          have e1 := hid (show orAll (fun q => m.nx (q * 3 + x)) (q + 1) = orAll (fun q => m.nx (q * 3 + x)) q ||| (1 <<< m.nx (q * 3 + x)) from rfl)
          have hcall := fun W (hW : MB W 27 b m) => next_any b W m hW q x (by omega) (by omega) (by omega)
          have e2 := hid (or_nat (orAll (fun q => m.nx (q * 3 + x)) q) (2 ^ m.nx (q * 3 + x)) (by rw [hP.out] at hlt2; omega) (two_pow_lt _ (by omega)))
          have e3 := hid (two_pow_i64 (m.nx (q * 3 + x)) (by omega))
          rw [hP.out] at hlt2
          replace hcall := hid hcall
          generalize orAll (fun q => m.nx (q * 3 + x)) q = a at *
          generalize m.nx (q * 3 + x) = nx at *
          go_wp2_with (go_at_call 184; refine (hcall.out _ hM.out).mono ?_; rintro e w' ⟨rfl, rfl⟩)
          go_round
          case rel => exact ⟨q + 1, by omega, by go_num, i64_eq (by rw [e3.out, e2.out, e1.out, Nat.shiftLeft_eq, Nat.one_mul])⟩
          case measure => simp [intOf]; omega
        · obtain rfl : q = s := by omega
          have hfull := hid (orAll_full (fun q => m.nx (q * 3 + x)) q (fun p hp => g.out.nx p x hp hlt))
          have hlt2 := orAll_lt (fun q => m.nx (q * 3 + x)) q q (fun p hp => g.out.nx p x (by omega) hlt)
          generalize ha : orAll (fun q => m.nx (q * 3 + x)) q = a at *
          replace ha := hid ha
          rw [hP.out] at hlt2 hfull
          by_cases hin : InjOn (fun q => m.nx (q * 3 + x)) q
          · have ea := hfull.out.2 hin
            have hb : ((a : Int) != ((P : Int) - 1)) = false := by rw [bne_eq_false_iff_eq]; omega
            clear ea
            go_wp2
            go_round
            case rel =>
              refine ⟨x + 1, by omega, by go_num, fun y hy => ?_⟩
              by_cases e : y = x
              · rw [e]; exact hin
              · exact hall.out y (by omega)
            case measure => simp [intOf]; omega
          · have hf := hid (show r = false by
              cases r
              · rfl
              · exact absurd (hR.out.1 rfl x hlt) hin)
            have hb : ((a : Int) != ((P : Int) - 1)) = true := by
              rw [bne_iff_ne]; intro e; exact hin (hfull.out.1 (by omega))
            go_wp2
            go_ret
            exact ⟨retB hf.out.symm, rfl⟩
    · obtain rfl : x = l := by omega
      have hf := hid (hR.out.2 hall.out)
      go_wp2
      go_ret
      exact ⟨retB hf.out.symm, rfl⟩

/-- The marks of the numbers met so far. -/
def seen (f : Nat → Nat) : Nat → Nat → Bool
  | 0, _ => false
  | q + 1, j => if j = f q then true else seen f q j
theorem seen_iff (f : Nat → Nat) : ∀ q k, seen f q k = true ↔ ∃ p, p < q ∧ f p = k
  | 0, k => by simp [seen]
  | q + 1, k => by
    unfold seen
    by_cases h : k = f q
    · rw [if_pos h]; exact ⟨fun _ => ⟨q, by omega, h.symm⟩, fun _ => rfl⟩
    · rw [if_neg h, seen_iff f q k]
      refine ⟨fun ⟨p, hp, e⟩ => ⟨p, by omega, e⟩, fun ⟨p, hp, e⟩ => ⟨p, ?_, e⟩⟩
      by_cases e2 : p = q
      · subst e2; exact absurd e.symm h
      · omega

theorem bools_const (k : Nat) : (rowL k (bools fun _ => false)) = List.replicate k (.bool false) := by
  induction k with
  | zero => rfl
  | succ k ih =>
    unfold rowL at *
    rw [List.range_succ, List.map_append, ih, List.replicate_succ']
    rfl

set_option maxHeartbeats 1000000 in
set_option maxRecDepth 100000 in
theorem l07Reversible_any (w : World) (m : Mach) (l s : Nat) (g : Good m l s) (r : Bool) (hr : r = true ↔ RevP m l s) :
    Calls Try.prog 164 #[.agg (mcells m)] w fun e w' => e = .returned (.bool r) ∧ Below w.heap.size w w' := by
  have cL := mcells_L m
  have cS := mcells_S m
  rw [g.L] at cL
  rw [g.S] at cS
  have hR := hid hr; clear hr
  have l2 := g.l2; have l3 := g.l3; have s1 := g.s1; have s16 := g.s16
  have hM := hid (MB.new w m 27)
  have hB := hid ((Below.refl w.heap.size w).alloc (Nat.le_refl _) (.cells (mcells m) 27))
  have gL := hid g.L
  have gS := hid g.S
  replace g := hid g
  go_enter Try.func164, Try.ntmps164
  go_wp2
  clear cL cS
  go_loopw [3] (fun i wr => ∃ x : Nat, x ≤ l ∧ i = .int .i64 x ∧ MB wr 27 w.heap.size m ∧ Below w.heap.size w wr ∧ ∀ y, y < x → InjOn (fun q => m.nx (q * 3 + y)) s) (fun i _ => l - (intOf i).toNat)
  case atStart => exact ⟨0, by omega, rfl, hM.out, hB.out, fun y hy => by omega⟩
  case round =>
    obtain ⟨x, hx, rfl, hM2, hB2, hall⟩ := hrel
    replace hall := hid hall
    have cL := hM2.cL
    have cS := hM2.cS
    rw [gL.out] at cL
    rw [gS.out] at cS
    replace hM2 := hid hM2
    replace hB2 := hid hB2
    clear hM hB
    by_cases hlt : x < l
    · have dx : decide ((x : Int) < (l : Int)) = true := decide_eq_true (by omega)
      obtain ⟨wo, rfl⟩ : ∃ wo : World, wo = wr := ⟨_, rfl⟩
      go_wp2
      clear cL cS
      go_loopw [5] (fun i wr => ∃ q : Nat, q ≤ s ∧ i = .int .i64 q ∧ MB wr 27 w.heap.size m ∧ wr.rowIs wo.heap.size 94 16 (bools (seen (fun q => m.nx (q * 3 + x)) q)) ∧ Below w.heap.size w wr ∧ InjOn (fun q => m.nx (q * 3 + x)) q) (fun i _ => s - (intOf i).toNat)
      case atStart =>
        refine ⟨0, by omega, rfl, hM2.out.alloc _, ?_, below_alloc hB2.out (Nat.le_refl _) _, fun i j _ hj => by omega⟩
        exact rowIs_new wo 16 94 (bools fun _ => false)
      case round =>
        obtain ⟨q, hq, rfl, hM3, hrow, hB3, hinj⟩ := hrel
        have hne := hid (show w.heap.size < wo.heap.size from hM2.out.lt)
        have cL := hM3.cL
        have cS := hM3.cS
        rw [gL.out] at cL
        rw [gS.out] at cS
        replace hM3 := hid hM3
        replace hrow := hid hrow
        replace hB3 := hid hB3
        by_cases hlq : q < s
        · have dq : decide ((q : Int) < (s : Int)) = true := decide_eq_true (by omega)
          have h1 := hM3.out.cnx q x (by omega) (by omega)
          have hn := g.out.nx q x hlq hlt
          have hsi := hid (seen_iff (fun q => m.nx (q * 3 + x)) q (m.nx (q * 3 + x)))
          have hmk := hrow.out.cell (i := m.nx (q * 3 + x)) (by omega)
          have hfz : wr.frozen? ⟨wo.heap.size, m.nx (q * 3 + x), none⟩ = false := hrow.out.frozen _
          have hs1 := hid (show ∀ j, seen (fun q => m.nx (q * 3 + x)) (q + 1) j = if j = m.nx (q * 3 + x) then true else seen (fun q => m.nx (q * 3 + x)) q j from fun _ => rfl)
          have hbad := hid (show seen (fun q => m.nx (q * 3 + x)) q (m.nx (q * 3 + x)) = true → r = false from fun h => by
            obtain ⟨p, hp, e⟩ := hsi.out.1 h
            cases r
            · rfl
            · exact absurd e (hR.out.1 rfl x hlt p q hp hlq))
          have hgood := hid (show seen (fun q => m.nx (q * 3 + x)) q (m.nx (q * 3 + x)) = false → InjOn (fun q => m.nx (q * 3 + x)) (q + 1) from fun h i j hij hj e => by
            by_cases ej : j = q
            · subst ej
              have := hsi.out.2 ⟨i, hij, e⟩
              rw [h] at this
              cases this
            · exact hinj i j hij (by omega) e)
          replace hinj := hid hinj
          unfold bools at hmk
          generalize m.nx (q * 3 + x) = nx at *
          cases hb : seen (fun q => m.nx (q * 3 + x)) q nx with
          | true =>
            rw [hb] at hmk
            have hf := hid (hbad.out hb)
            clear hb
            go_wp2
            go_ret
            exact ⟨retB hf.out.symm, hB3.out⟩
          | false =>
            rw [hb] at hmk
            have hf := hid (hgood.out hb)
            clear hb
            go_wp2
            go_roundw
            case rel =>
              refine ⟨q + 1, by omega, by go_num, hM3.out.setOther (by have := hne.out; simp; omega) _, ?_, hB3.out.setCell (by have := hne.out; simp; omega) _, hf.out⟩
              refine World.rowIs.congr (World.rowIs.set (f := bools (seen (fun q => m.nx (q * 3 + x)) q)) hrow.out nx _) (fun i hi => ?_)
              unfold bools
              rw [hs1.out i]
              split <;> rfl
            case measure => simp [intOf]; omega
        · obtain rfl : q = s := by omega
          replace hinj := hid hinj
          go_wp2
          go_roundw
          case rel =>
            refine ⟨x + 1, by omega, by go_num, hM3.out, hB3.out, fun y hy => ?_⟩
            by_cases e : y = x
            · rw [e]; exact hinj.out
            · exact hall.out y (by omega)
          case measure => simp [intOf]; omega
    · obtain rfl : x = l := by omega
      have hf := hid (hR.out.2 hall.out)
      go_wp2
      go_ret
      exact ⟨retB hf.out.symm, hB2.out⟩
end Go.Proofs.Ytbmkkaecfogmoaa

/- The two IsReversible answer alike; the statement's walk. -/
namespace Go.Proofs.Ytbmkkaecfogmoaa
open Go.RowKit
set_option linter.unusedVariables false
set_option linter.unusedSimpArgs false

open Classical in
/-- What IsReversible answers. -/
noncomputable def revAns (m : Mach) : Bool × Int := if IsM m then (decide (∀ l s, Good m l s → RevP m l s), 0) else (false, 1)

theorem Good.uniq {m : Mach} {l s l' s' : Nat} (g : Good m l s) (g' : Good m l' s') : l' = l ∧ s' = s := by
  have := g.L; have := g.S; have := g'.L; have := g'.S; omega

open Classical in
theorem revAns_good {m : Mach} {l s : Nat} (g : Good m l s) (r : Bool) (hr : r = true ↔ RevP m l s) : revAns m = (r, 0) := by
  unfold revAns
  rw [if_pos g.isM]
  congr 1
  rw [Bool.eq_iff_iff, decide_eq_true_iff, hr]
  constructor
  · intro h; exact h l s g
  · intro h l' s' g'
    obtain ⟨rfl, rfl⟩ := g.uniq g'
    exact h

open Classical in
set_option maxHeartbeats 1000000 in
theorem implIsRev_any (w : World) (m : Mach) (hk : m.Ok) :
    Calls Try.prog 64 #[.agg (mcells m)] w fun e w' => e = .returned (.tuple #[.bool (revAns m).1, .int .i64 (revAns m).2]) ∧ Below w.heap.size w w' := by
  have hM := hid (MB.new w m 27)
  have hB := hid ((Below.refl w.heap.size w).alloc (Nat.le_refl _) (.cells (mcells m) 27))
  replace hk := hid hk
  by_cases hm : IsM m
  · obtain ⟨l, s, g⟩ := hm.good
    have hA := hid (revAns_good g (decide (RevP m l s)) decide_eq_true_iff)
    have hr := hid (show decide (RevP m l s) = true ↔ RevP m l s from decide_eq_true_iff)
    generalize decide (RevP m l s) = r at *
    have hi := hid (show true = true ↔ IsM m from ⟨fun _ => hm, fun _ => rfl⟩)
    replace g := hid g
    clear hm
    rw [hA.out]
    go_enter Try.func64, Try.ntmps64
    go_wp2_with (first
      | ((with_reducible refine gate (N := 4) rfl ?_); refine load_mach rfl _ rfl w.heap.size rfl m hM.out ?_)
      | (go_at_call 65; (with_reducible refine (IsMachine_any _ m hk.out true hi.out).mono ?_); rintro e w1 ⟨rfl, hb⟩; have hM2 := hid (hM.out.below hb hM.out.lt); have hB2 := hid (hB.out.trans (hb.mono hB.out.size)); clear hb hM hB)
      | (go_at_call 163; (with_reducible refine (isReversible_any _ _ m hM2.out l s g.out r hr.out).mono ?_); rintro e w2 ⟨rfl, rfl⟩))
    go_ret2
    exact ⟨rfl, hB2.out⟩
  · have hi := hid (show false = true ↔ IsM m from ⟨fun h => (by cases h), fun h => absurd h hm⟩)
    have hA := hid (show revAns m = (false, 1) by unfold revAns; rw [if_neg hm])
    clear hm
    rw [hA.out]
    go_enter Try.func64, Try.ntmps64
    go_wp2_with (first
      | ((with_reducible refine gate (N := 4) rfl ?_); refine load_mach rfl _ rfl w.heap.size rfl m hM.out ?_)
      | (go_at_call 65; (with_reducible refine (IsMachine_any _ m hk.out false hi.out).mono ?_); rintro e w1 ⟨rfl, hb⟩; have hB2 := hid (hB.out.trans (hb.mono hB.out.size)); clear hb hM hB))
    go_ret2
    exact ⟨rfl, hB2.out⟩

open Classical in
set_option maxHeartbeats 1000000 in
theorem specIsRev_any (w : World) (m : Mach) (hk : m.Ok) :
    Calls Try.prog 69 #[.agg (mcells m)] w fun e w' => e = .returned (.tuple #[.bool (revAns m).1, .int .i64 (revAns m).2]) ∧ Below w.heap.size w w' := by
  have hM := hid (MB.new w m 27)
  have hB := hid ((Below.refl w.heap.size w).alloc (Nat.le_refl _) (.cells (mcells m) 27))
  replace hk := hid hk
  by_cases hm : IsM m
  · obtain ⟨l, s, g⟩ := hm.good
    have hA := hid (revAns_good g (decide (RevP m l s)) decide_eq_true_iff)
    have hr := hid (show decide (RevP m l s) = true ↔ RevP m l s from decide_eq_true_iff)
    generalize decide (RevP m l s) = r at *
    have hi := hid (show true = true ↔ IsM m from ⟨fun _ => hm, fun _ => rfl⟩)
    replace g := hid g
    clear hm
    rw [hA.out]
    go_enter Try.func69, Try.ntmps69
    go_wp2_with (first
      | ((with_reducible refine gate (N := 4) rfl ?_); refine load_mach rfl _ rfl w.heap.size rfl m hM.out ?_)
      | (go_at_call 80; (with_reducible refine (l01Is_any _ m hk.out true hi.out).mono ?_); rintro e w1 ⟨rfl, hb⟩; have hM2 := hid (hM.out.below hb hM.out.lt); have hB2 := hid (hB.out.trans (hb.mono hB.out.size)); clear hb hM hB)
      | ((with_reducible refine gate (N := 7) rfl ?_); refine load_mach rfl _ rfl w.heap.size rfl m hM2.out ?_)
      | (go_at_call 164; (with_reducible refine (l07Reversible_any _ m l s g.out r hr.out).mono ?_); rintro e w2 ⟨rfl, hb⟩; have hB3 := hid (hB2.out.trans (hb.mono hB2.out.size)); clear hb))
    go_ret2
    exact ⟨rfl, hB3.out⟩
  · have hi := hid (show false = true ↔ IsM m from ⟨fun h => (by cases h), fun h => absurd h hm⟩)
    have hA := hid (show revAns m = (false, 1) by unfold revAns; rw [if_neg hm])
    clear hm
    rw [hA.out]
    go_enter Try.func69, Try.ntmps69
    go_wp2_with (first
      | ((with_reducible refine gate (N := 4) rfl ?_); refine load_mach rfl _ rfl w.heap.size rfl m hM.out ?_)
      | (go_at_call 80; (with_reducible refine (l01Is_any _ m hk.out false hi.out).mono ?_); rintro e w1 ⟨rfl, hb⟩; have hB2 := hid (hB.out.trans (hb.mono hB.out.size)); clear hb hM hB))
    go_ret2
    exact ⟨rfl, hB2.out⟩

end Go.Proofs.Ytbmkkaecfogmoaa

/- The machine of a state: the classes as they are met. -/
namespace Go.Proofs.Ytbmkkaecfogmoaa
set_option linter.unusedVariables false
set_option linter.unusedSimpArgs false

def meet (st : List Nat) (c : Nat) : List Nat := if c ∈ st then st else st ++ [c]
def meets (T : Tab) (c : Nat → Nat) (s : Nat) (st : List Nat) : Nat → List Nat
  | 0 => st
  | x + 1 => meet (meets T c s st x) (c (T.nx s x))
def bfs (T : Tab) (c : Nat → Nat) (q : Nat) : Nat → List Nat
  | 0 => [c q]
  | i + 1 => match (bfs T c q i)[i]? with
    | some s => meets T c s (bfs T c q i) T.L
    | none => bfs T c q i
def fin (T : Tab) (c : Nat → Nat) (q : Nat) : List Nat := bfs T c q T.n

theorem meet_pre (st : List Nat) (c : Nat) : ∃ r, meet st c = st ++ r := by
  unfold meet; split
  · exact ⟨[], by simp⟩
  · exact ⟨[c], rfl⟩
theorem meet_mem (st : List Nat) (c : Nat) : c ∈ meet st c := by unfold meet; split <;> simp_all
theorem meets_pre (T : Tab) (c : Nat → Nat) (s : Nat) (st : List Nat) : ∀ x, ∃ r, meets T c s st x = st ++ r
  | 0 => ⟨[], by simp [meets]⟩
  | x + 1 => by
    obtain ⟨r, hr⟩ := meets_pre T c s st x
    obtain ⟨r', hr'⟩ := meet_pre (meets T c s st x) (c (T.nx s x))
    exact ⟨r ++ r', by unfold meets; rw [hr', hr, List.append_assoc]⟩
theorem meets_mem (T : Tab) (c : Nat → Nat) (s : Nat) (st : List Nat) : ∀ x y, y < x → c (T.nx s y) ∈ meets T c s st x
  | x + 1, y, hy => by
    unfold meets
    by_cases e : y = x
    · subst e; exact meet_mem _ _
    · obtain ⟨r, hr⟩ := meet_pre (meets T c s st x) (c (T.nx s x))
      rw [hr]
      exact List.mem_append_left _ (meets_mem T c s st x y (by omega))
/-- A list of numbers below n, each once. -/
def Uniq (n : Nat) (st : List Nat) : Prop := st.Nodup ∧ ∀ s, s ∈ st → s < n
theorem Uniq.meet {n c : Nat} {st : List Nat} (h : Uniq n st) (hc : c < n) : Uniq n (meet st c) := by
  unfold Go.Proofs.Ytbmkkaecfogmoaa.meet
  split
  · exact h
  · rename_i hn
    refine ⟨List.nodup_append.2 ⟨h.1, by simp, fun a ha b hb e => ?_⟩, fun s hs => ?_⟩
    · simp at hb; subst hb; subst e; exact hn ha
    · rcases List.mem_append.1 hs with hs | hs
      · exact h.2 s hs
      · simp at hs; omega
theorem Uniq.meets {T : Tab} {c : Nat → Nat} (hT : T.Ok) (hc : ∀ q, q < T.n → c q < T.n) {s : Nat} (hs : s < T.n) {st : List Nat} (h : Uniq T.n st) : ∀ x, x ≤ T.L → Uniq T.n (meets T c s st x)
  | 0, _ => h
  | x + 1, hx => (Uniq.meets hT hc hs h x (by omega)).meet (hc _ (hT.nx s x hs (by omega)))
theorem Uniq.len {n : Nat} {st : List Nat} (h : Uniq n st) : st.length ≤ n := by
  refine inj_le st.length n (fun i => st.getD i 0) (fun i hi => ?_) (fun i j hij hj e => ?_)
  · rw [List.getD_eq_getElem?_getD, List.getElem?_eq_getElem hi]
    exact h.2 _ (List.getElem_mem hi)
  · dsimp only at e
    rw [List.getD_eq_getElem?_getD, List.getD_eq_getElem?_getD, List.getElem?_eq_getElem hj, List.getElem?_eq_getElem (show i < st.length by omega)] at e
    exact (List.pairwise_iff_getElem.1 h.1 i j (by omega) hj hij) e
section
variable {T : Tab} {c : Nat → Nat}
theorem bfs_uniq (hT : T.Ok) (hc : ∀ q, q < T.n → c q < T.n) (q : Nat) (hq : q < T.n) : ∀ i, Uniq T.n (bfs T c q i)
  | 0 => ⟨by simp [bfs], fun s hs => by simp [bfs] at hs; subst hs; exact hc q hq⟩
  | i + 1 => by
    have ih := bfs_uniq hT hc q hq i
    unfold bfs
    split
    · rename_i s hs
      exact Uniq.meets hT hc (ih.2 s (List.mem_of_getElem? hs)) ih T.L (Nat.le_refl _)
    · exact ih
theorem bfs_some (T : Tab) (c : Nat → Nat) {q i s : Nat} (h : (bfs T c q i)[i]? = some s) : bfs T c q (i + 1) = meets T c s (bfs T c q i) T.L := by rw [bfs, h]
theorem bfs_none (T : Tab) (c : Nat → Nat) {q i : Nat} (h : (bfs T c q i).length ≤ i) : bfs T c q (i + 1) = bfs T c q i := by rw [bfs, List.getElem?_eq_none h]
theorem bfs_stay (T : Tab) (c : Nat → Nat) {q i : Nat} (h : (bfs T c q i).length ≤ i) : ∀ d, bfs T c q (i + d) = bfs T c q i
  | 0 => rfl
  | d + 1 => by
    have ih := bfs_stay T c h d
    rw [← ih, show i + (d + 1) = (i + d) + 1 by omega]
    exact bfs_none T c (by rw [ih]; omega)
theorem fin_of (hT : T.Ok) (hc : ∀ q, q < T.n → c q < T.n) {q i : Nat} (hq : q < T.n) (hi : (bfs T c q i).length = i) : fin T c q = bfs T c q i := by
  have h1 := (bfs_uniq hT hc q hq i).len
  have := bfs_stay T c (q := q) (i := i) (by omega) (T.n - i)
  rwa [show i + (T.n - i) = T.n by omega] at this
theorem bfs_pre (T : Tab) (c : Nat → Nat) (q i : Nat) : ∀ d, ∃ r, bfs T c q (i + d) = bfs T c q i ++ r
  | 0 => ⟨[], by simp⟩
  | d + 1 => by
    obtain ⟨r, hr⟩ := bfs_pre T c q i d
    rw [show i + (d + 1) = (i + d) + 1 by omega]
    cases h : (bfs T c q (i + d))[i + d]? with
    | some s =>
      obtain ⟨r', hr'⟩ := meets_pre T c s (bfs T c q (i + d)) T.L
      exact ⟨r ++ r', by rw [bfs_some T c h, hr', hr, List.append_assoc]⟩
    | none => exact ⟨r, by rw [bfs, h]; exact hr⟩
/-- What is met goes on within what is met. -/
theorem fin_closed (hT : T.Ok) (hc : ∀ q, q < T.n → c q < T.n) {q : Nat} (hq : q < T.n) : ∀ s, s ∈ fin T c q → ∀ x, x < T.L → c (T.nx s x) ∈ fin T c q := by
  intro s hs x hx
  obtain ⟨i, hi, rfl⟩ := List.getElem_of_mem hs
  have hlen := (bfs_uniq hT hc q hq T.n).len
  have hi' : i < T.n := Nat.lt_of_lt_of_le hi hlen
  -- the list before round i has the element, for all rounds behind are its continuations
  have key : ∀ j, j ≤ T.n → (bfs T c q j).length ≤ j → bfs T c q j = fin T c q := fun j hj hl => by
    have := bfs_stay T c hl (T.n - j)
    rw [show j + (T.n - j) = T.n by omega] at this
    exact this.symm
  by_cases hl : (bfs T c q i).length ≤ i
  · have := key i (by omega) hl
    rw [← this] at hi
    omega
  · obtain ⟨r, hr⟩ := bfs_pre T c q i (T.n - i)
    rw [show i + (T.n - i) = T.n by omega] at hr
    have hr' : fin T c q = bfs T c q i ++ r := hr
    have hg : (bfs T c q i)[i]? = some (fin T c q)[i] := by
      have h1 : (bfs T c q i ++ r)[i]? = some (fin T c q)[i] := by rw [← hr']; exact List.getElem?_eq_getElem hi
      rwa [List.getElem?_append_left (by omega)] at h1
    obtain ⟨r2, hr2⟩ := bfs_pre T c q (i + 1) (T.n - (i + 1))
    rw [show i + 1 + (T.n - (i + 1)) = T.n by omega] at hr2
    have hm := meets_mem T c (fin T c q)[i] (bfs T c q i) T.L x hx
    rw [← bfs_some T c hg] at hm
    show c (T.nx (fin T c q)[i] x) ∈ bfs T c q T.n
    rw [hr2]
    exact List.mem_append_left _ hm
theorem fin_pos (T : Tab) (c : Nat → Nat) (q : Nat) : 0 < (fin T c q).length := by
  obtain ⟨r, hr⟩ := bfs_pre T c q 0 T.n
  rw [Nat.zero_add] at hr
  unfold fin
  rw [hr]; simp [bfs]
end

/-- The machine of some states, as far as it is written: i rows, and x letters of the next one. -/
def gthP (T : Tab) (c : Nat → Nat) (st : List Nat) (i x : Nat) : Mach :=
  ⟨T.L, st.length, fun p => if (p / 3 < i ∨ p / 3 = i ∧ p % 3 < x) ∧ p % 3 < T.L then st.idxOf (c (T.nx (st.getD (p / 3) 0) (p % 3))) else 0,
   fun p => if (p / 3 < i ∨ p / 3 = i ∧ p % 3 < x) ∧ p % 3 < T.L then T.ot (st.getD (p / 3) 0) (p % 3) else 0⟩
def gth (T : Tab) (c : Nat → Nat) (st : List Nat) : Mach := gthP T c st st.length 0
theorem gthP_row (T : Tab) (c : Nat → Nat) (st : List Nat) (i : Nat) (hL : T.L ≤ 3) : gthP T c st i T.L = gthP T c st (i + 1) 0 := by
  have e : ∀ p, ((p / 3 < i ∨ p / 3 = i ∧ p % 3 < T.L) ∧ p % 3 < T.L) = ((p / 3 < i + 1 ∨ p / 3 = i + 1 ∧ p % 3 < 0) ∧ p % 3 < T.L) := fun p => by
    apply propext
    constructor
    · rintro ⟨h1, h2⟩; exact ⟨by omega, h2⟩
    · rintro ⟨h1, h2⟩; exact ⟨by omega, h2⟩
  unfold gthP
  simp only [e]
theorem gthP_zero (T : Tab) (c : Nat → Nat) (st : List Nat) : gthP T c st 0 0 = ⟨T.L, st.length, fun _ => 0, fun _ => 0⟩ := by
  have e : ∀ p, ((p / 3 < 0 ∨ p / 3 = 0 ∧ p % 3 < 0) ∧ p % 3 < T.L) = False := fun p => by
    apply propext
    constructor
    · rintro ⟨h1, h2⟩; omega
    · exact False.elim
  unfold gthP
  simp only [e, if_false]
theorem gthP_step (T : Tab) (c : Nat → Nat) (st : List Nat) (i x s : Nat) (hx : x < T.L) (hL : T.L ≤ 3) (hs : st[i]? = some s) :
    gthP T c st i (x + 1) = { (gthP T c st i x) with nx := upd (gthP T c st i x).nx (i * 3 + x) (st.idxOf (c (T.nx s x))), ot := upd (gthP T c st i x).ot (i * 3 + x) (T.ot s x) } := by
  have hg : st.getD i 0 = s := by rw [List.getD_eq_getElem?_getD, hs]; rfl
  unfold gthP upd
  dsimp only
  congr 1
  · funext p
    by_cases e : p = i * 3 + x
    · subst e
      rw [if_pos rfl, show (i * 3 + x) / 3 = i by omega, show (i * 3 + x) % 3 = x by omega, if_pos (by omega), hg]
    · rw [if_neg e]
      by_cases h : (p / 3 < i ∨ p / 3 = i ∧ p % 3 < x) ∧ p % 3 < T.L
      · rw [if_pos h, if_pos (by omega)]
      · rw [if_neg h, if_neg (by omega)]
  · funext p
    by_cases e : p = i * 3 + x
    · subst e
      rw [if_pos rfl, show (i * 3 + x) / 3 = i by omega, show (i * 3 + x) % 3 = x by omega, if_pos (by omega), hg]
    · rw [if_neg e]
      by_cases h : (p / 3 < i ∨ p / 3 = i ∧ p % 3 < x) ∧ p % 3 < T.L
      · rw [if_pos h, if_pos (by omega)]
      · rw [if_neg h, if_neg (by omega)]
/-- The machine of the state q of a table; no machine if it has too many states. -/
def fromM (T : Tab) (q : Nat) : Mach := if (fin T (fix T) q).length ≤ 16 then gth T (fix T) (fin T (fix T) q) else ⟨0, 0, fun _ => 0, fun _ => 0⟩
def fromC (T : Tab) (q : Nat) : Int := if (fin T (fix T) q).length ≤ 16 then 0 else 3
theorem mem_idxOf_lt {l : List Nat} {a : Nat} (h : a ∈ l) : l.idxOf a < l.length := List.idxOf_lt_length_of_mem h
end Go.Proofs.Ytbmkkaecfogmoaa

/- A machine filled row after row. -/
namespace Go.Proofs.Ytbmkkaecfogmoaa
set_option linter.unusedVariables false
set_option linter.unusedSimpArgs false

/-- i rows written, and x letters of the next one. -/
def filP (L : Nat) (n : Int) (f g : Nat → Nat → Nat) (i x : Nat) : Mach :=
  ⟨L, n, fun p => if (p / 3 < i ∨ p / 3 = i ∧ p % 3 < x) ∧ p % 3 < L then f (p / 3) (p % 3) else 0, fun p => if (p / 3 < i ∨ p / 3 = i ∧ p % 3 < x) ∧ p % 3 < L then g (p / 3) (p % 3) else 0⟩
section
variable {L : Nat} {n : Int} {f g : Nat → Nat → Nat}
theorem filP_row (i : Nat) (hL : L ≤ 3) : filP L n f g i L = filP L n f g (i + 1) 0 := by
  have e : ∀ p, ((p / 3 < i ∨ p / 3 = i ∧ p % 3 < L) ∧ p % 3 < L) = ((p / 3 < i + 1 ∨ p / 3 = i + 1 ∧ p % 3 < 0) ∧ p % 3 < L) := fun p => by
    apply propext
    constructor
    · rintro ⟨h1, h2⟩; exact ⟨by omega, h2⟩
    · rintro ⟨h1, h2⟩; exact ⟨by omega, h2⟩
  unfold filP
  simp only [e]
theorem filP_zero : filP L n f g 0 0 = ⟨L, n, fun _ => 0, fun _ => 0⟩ := by
  have e : ∀ p, ((p / 3 < 0 ∨ p / 3 = 0 ∧ p % 3 < 0) ∧ p % 3 < L) = False := fun p => by
    apply propext
    constructor
    · rintro ⟨h1, h2⟩; omega
    · exact False.elim
  unfold filP
  simp only [e, if_false]
theorem filP_step (i x : Nat) (hx : x < L) (hL : L ≤ 3) : filP L n f g i (x + 1) = { (filP L n f g i x) with nx := upd (filP L n f g i x).nx (i * 3 + x) (f i x), ot := upd (filP L n f g i x).ot (i * 3 + x) (g i x) } := by
  unfold filP upd
  dsimp only
  congr 1
  · funext p
    by_cases e : p = i * 3 + x
    · subst e
      rw [if_pos rfl, show (i * 3 + x) / 3 = i by omega, show (i * 3 + x) % 3 = x by omega, if_pos (by omega)]
    · rw [if_neg e]
      by_cases h : (p / 3 < i ∨ p / 3 = i ∧ p % 3 < x) ∧ p % 3 < L
      · rw [if_pos h, if_pos (by omega)]
      · rw [if_neg h, if_neg (by omega)]
  · funext p
    by_cases e : p = i * 3 + x
    · subst e
      rw [if_pos rfl, show (i * 3 + x) / 3 = i by omega, show (i * 3 + x) % 3 = x by omega, if_pos (by omega)]
    · rw [if_neg e]
      by_cases h : (p / 3 < i ∨ p / 3 = i ∧ p % 3 < x) ∧ p % 3 < L
      · rw [if_pos h, if_pos (by omega)]
      · rw [if_neg h, if_neg (by omega)]
theorem filP_ok (hf : ∀ q x, f q x < 256) (hg : ∀ q x, g q x < 256) (i x : Nat) : (filP L n f g i x).Ok := fun p => by
  unfold filP
  dsimp only
  split
  · exact ⟨hf _ _, hg _ _⟩
  · exact ⟨by omega, by omega⟩
end
end Go.Proofs.Ytbmkkaecfogmoaa
