/- What the proof of OrderOfPortrait leans on, part 8 of 10. -/
import Derived.Test.YtgpjcekpmhfljaaZOrderOfPortraitG
import Derived.Deep.Cut
import Derived.Deep.CutRange
import Derived.Laws.CopyOwn
import Derived.Laws.MakeOwn
/- Slices of elements of several cells that a function made itself. -/
namespace Go.Proofs.Ytgpjcekpmhfljaa
open Go.RowKit
set_option linter.unusedVariables false
set_option linter.unusedSimpArgs false

/-- The slice value v holds n elements of sz cells each: just the cells cs, in a block of its own from 'base' on. -/
def OwnN (w : World) (base e sz : Nat) (v : Value) (n : Nat) (cs : List Value) : Prop := w.ownsRow base e sz v n cs
section
variable {w w' : World} {base e sz n : Nat} {v : Value} {cs : List Value}
theorem OwnN.len (h : OwnN w base e sz v n cs) : cs.length = n * sz := h.1
theorem OwnN.nil (w : World) (base e sz : Nat) : OwnN w base e sz (.slice none 0 0) 0 [] := World.ownsRow_nil w base e sz
theorem OwnN.new (w : World) (base e sz : Nat) (hb : base ≤ w.heap.size) : OwnN (w.alloc (.cells #[] e)) base e sz (.slice (some ⟨w.heap.size, 0, none⟩) 0 0) 0 [] := by
  have := World.ownsRow_lit (base := base) (e := e) (size := sz) w #[] 0 hb (by simp [maxLen]) (by simp)
  exact this
theorem OwnN.keep (h : OwnN w base e sz v n cs) (hk : ∀ k, v.ownBlock = some k → w'.heap[k]? = w.heap[k]?) : OwnN w' base e sz v n cs := by
  refine ⟨h.1, ?_⟩
  rcases h.2 with hn | ⟨g, cap, cur, rfl, hb, hg, rest⟩
  · exact .inl hn
  · exact .inr ⟨g, cap, cur, rfl, hb, (hk g rfl).trans hg, rest⟩
theorem OwnN.lt (h : OwnN w base e sz v n cs) : ∀ k, v.ownBlock = some k → base ≤ k ∧ k < w.heap.size := World.ownsRow.lt h
theorem OwnN.mono {b' : Nat} (h : OwnN w base e sz v n cs) (hb : b' ≤ base) : OwnN w b' e sz v n cs := by
  refine ⟨h.1, ?_⟩
  rcases h.2 with hn | ⟨g, cap, cur, rfl, hg0, rest⟩
  · exact .inl hn
  · exact .inr ⟨g, cap, cur, rfl, Nat.le_trans hb hg0, rest⟩
theorem OwnN.form (h : OwnN w base e sz v n cs) : (v = .slice none 0 0 ∧ n = 0) ∨ ∃ g cap, v = .slice (some ⟨g, 0, none⟩) n cap := by
  rcases h.2 with h | ⟨g, cap, cur, rfl, _⟩
  · exact .inl h
  · exact .inr ⟨g, cap, rfl⟩
theorem OwnN.blk (h : OwnN w base e sz v n cs) (hn : 0 < n) : ∃ g cap, v = .slice (some ⟨g, 0, none⟩) n cap := by
  rcases h.form with ⟨_, h0⟩ | h
  · omega
  · exact h
theorem OwnN.cellAt {g cap : Nat} (h : OwnN w base e sz (.slice (some ⟨g, 0, none⟩) n cap) n cs) (j : Nat) (u : Value) (hu : cs[j]? = some u) : w.cell? ⟨g, j, none⟩ = some u := by
  have hj : j < n * sz := by rw [← h.len]; exact (List.getElem?_eq_some_iff.1 hu).1
  rw [World.ownsRow.cellAt h j hj]; exact hu
theorem OwnN.frozenAt {g cap : Nat} (h : OwnN w base e sz (.slice (some ⟨g, 0, none⟩) n cap) n cs) (j : Nat) : w.frozen? ⟨g, j, none⟩ = false := World.ownsRow.frozenAt h j
theorem OwnN.set {g cap : Nat} (h : OwnN w base e sz (.slice (some ⟨g, 0, none⟩) n cap) n cs) (j : Nat) (u : Value) : OwnN (w.setCell ⟨g, j, none⟩ u) base e sz (.slice (some ⟨g, 0, none⟩) n cap) n (cs.set j u) := (World.ownsRow.stored h j u).1
/-- One element's cells, as a load of it wants them. -/
theorem OwnN.range {g cap : Nat} (h : OwnN w base e sz (.slice (some ⟨g, 0, none⟩) n cap) n cs) (o : Nat) (l : List Value) (hl : ∀ j, j < l.length → cs[o + j]? = l[j]?) : w.rangeAt g o l := fun j u hu => by
  have hj := (List.getElem?_eq_some_iff.1 hu).1
  exact h.cellAt (o + j) u ((hl j hj).trans hu)
end
def Asn.ownN (base e sz : Nat) (v : Value) (n : Nat) (cs : List Value) : Asn := ⟨fun k => v.ownBlock = some k, fun w => OwnN w base e sz v n cs, fun h hk => h.keep hk, fun h k hk => (h.lt k hk).2⟩

/-- One element appended, as the walk meets it: behind its box. -/
theorem appN {P : Program} {ops : Array Oper} {rest : List Oper} {o : Oper} {a : Act} {W : World} {Q : Exit → Act → World → Prop} (t e : TypeId) (z : Value) (sz bytes : Nat)
    (ht : P.underlying t = some (.slice e)) (hinfo : (P.info? e).map (fun i => (i.zero, i.size, i.bytes)) = some (some z, sz, bytes)) (hz : z.cells.size = sz) (hsz : 0 < sz) (hb : bytes ≤ 64)
    (hgd : o.guard = none) (s x : Operand) (ho : o.op = .call { callee := .builtin .append, args := #[s, x], argTypes := #[t, t] })
    (base : Nat) (v : Value) (n : Nat) (cs : List Value) (hs : a.eval s = v) (hown : OwnN W base e sz v n cs) (hbase : base ≤ W.heap.size) (news : List Value) (hnl : news.length = sz) (hc1 : ∀ u ∈ news, u.oneCell' = true)
    (hx : a.eval x = .slice (some ⟨W.heap.size, 0, none⟩) 1 1) (hlen : n ≤ 1000000000)
    (h : ∀ g cap w', OwnN w' base e sz (.slice (some ⟨g, 0, none⟩) (n + 1) cap) (n + 1) (cs ++ news) → Below base W w' → (∀ k, k < W.heap.size → v.ownBlock ≠ some k → w'.heap[k]? = W.heap[k]?) → W.heap.size < w'.heap.size → (v.ownBlock = some g ∨ W.heap.size < g) →
      wpList P ops Q rest (a.put o.dst (.slice (some ⟨g, 0, none⟩) (n + 1) cap)) w') :
    wpList P ops Q (o :: rest) a (W.alloc (.cells news.toArray e)) := by
  obtain ⟨i, hi, hz0, hz1, hz2⟩ := info_parts hinfo
  refine wpList_plain hgd fun K hK => ?_
  refine wp_append_lies (W.alloc (.cells news.toArray e)) s x t ho base e i z sz bytes ht hi hz0 hz1 hz2 hz hsz v n cs hs (World.ownsRow.alloc hown _) ⟨W.heap.size, 0, none⟩ 1 1 news hx (by rw [hnl, Nat.one_mul])
    (fun j u hu => ?_) hc1 (by omega) (by simp only [maxLen]; omega) (Nat.le_trans (Nat.mul_le_mul_left _ hb) (by omega)) (by simp; omega) (W.heap.size + 1) (by simp) ?_
  · rw [Addr.add_mid, Nat.zero_add, cell_of_row _ W.heap.size j _ _ _ (heap_alloc_new W _)]
    simpa using hu
  · intro g cap w' h1 h2 h3 h4
    have hsz' : W.heap.size < w'.heap.size := by have := h2.size; simp at this; omega
    have hold : ∀ k, k < W.heap.size → v.ownBlock ≠ some k → w'.heap[k]? = W.heap[k]? := fun k hk hne => by
      rw [h2.block k (by simp; omega) (fun e => hne e.symm)]
      exact Below.heap_alloc W _ k hk
    exact hK _ _ (h g cap w' h1 ⟨h2.os, h2.tape, h2.output, by omega, fun k hk => hold k (by omega) (fun e => by have := (hown.lt k e).1; omega)⟩ hold hsz' (h3.imp id (fun e => by omega)))

section
variable {w w' W w0 : World} {L : List Asn} {base : Nat} {a b c d e f : Asn}
theorem St.n0 {bs t sz n : Nat} {v : Value} {cs : List Value} (h : St base w0 (Asn.ownN bs t sz v n cs :: L) w) : OwnN w bs t sz v n cs := h.g0
theorem St.n1 {bs t sz n : Nat} {v : Value} {cs : List Value} (h : St base w0 (a :: Asn.ownN bs t sz v n cs :: L) w) : OwnN w bs t sz v n cs := h.g1
theorem St.n2 {bs t sz n : Nat} {v : Value} {cs : List Value} (h : St base w0 (a :: b :: Asn.ownN bs t sz v n cs :: L) w) : OwnN w bs t sz v n cs := h.g2
theorem St.n3 {bs t sz n : Nat} {v : Value} {cs : List Value} (h : St base w0 (a :: b :: c :: Asn.ownN bs t sz v n cs :: L) w) : OwnN w bs t sz v n cs := h.g3
theorem St.n4 {bs t sz n : Nat} {v : Value} {cs : List Value} (h : St base w0 (a :: b :: c :: d :: Asn.ownN bs t sz v n cs :: L) w) : OwnN w bs t sz v n cs := h.g4
theorem St.n5 {bs t sz n : Nat} {v : Value} {cs : List Value} (h : St base w0 (a :: b :: c :: d :: e :: Asn.ownN bs t sz v n cs :: L) w) : OwnN w bs t sz v n cs := h.g5
theorem St.nilN (h : St base w0 L w) (t sz : Nat) : St base w0 (Asn.ownN base t sz (.slice none 0 0) 0 [] :: L) w := h.push (a := Asn.ownN base t sz _ 0 []) (OwnN.nil _ _ _ _) fun k hk => by cases hk
theorem St.newN (h : St base w0 L w) (t sz : Nat) : St base w0 (Asn.ownN base t sz (.slice (some ⟨w.heap.size, 0, none⟩) 0 0) 0 [] :: L) (w.alloc (.cells #[] t)) :=
  h.allocPush (a := Asn.ownN base t sz _ 0 []) _ (OwnN.new w base t sz h.le) fun k hk => by
    have : w.heap.size = k := by simpa [Asn.ownN, Value.ownBlock] using hk
    exact this.symm
theorem St.appdN {t sz n n' gn m cap : Nat} {v : Value} {cs cs' : List Value} (h : St base w0 (Asn.ownN base t sz v n cs :: L) w) (hO : OwnN w' base t sz (.slice (some ⟨gn, 0, none⟩) m cap) n' cs') (hb : Below base w w') (hold : ∀ k, k < w.heap.size → v.ownBlock ≠ some k → w'.heap[k]? = w.heap[k]?)
    (hg : v.ownBlock = some gn ∨ w.heap.size ≤ gn) : St base w0 (Asn.ownN base t sz (.slice (some ⟨gn, 0, none⟩) m cap) n' cs' :: L) w' :=
  h.turn (a' := Asn.ownN base t sz _ n' cs') hO (fun k hk => by
    have e : gn = k := by simpa [Asn.ownN, Value.ownBlock] using hk
    subst e
    exact hg) (fun k hk => ((show OwnN w base t sz v n cs from h.star.1).lt k hk).1) hb fun k hk hne => hold k hk hne
theorem St.setN {t sz gn n cap : Nat} {cs : List Value} (h : St base w0 (Asn.ownN base t sz (.slice (some ⟨gn, 0, none⟩) n cap) n cs :: L) w) (i : Nat) (u : Value) : St base w0 (Asn.ownN base t sz (.slice (some ⟨gn, 0, none⟩) n cap) n (cs.set i u) :: L) (w.setCell ⟨gn, i, none⟩ u) :=
  have hb : base ≤ gn := ((show OwnN w base t sz _ n cs from h.star.1).lt gn rfl).1
  h.turn (a' := Asn.ownN base t sz _ n (cs.set i u)) (OwnN.set h.star.1 i u) (fun k hk => .inl hk) (fun k hk => ((show OwnN w base t sz _ n cs from h.star.1).lt k hk).1) ((Below.refl _ _).setCell hb u)
    fun k _ hk => heap_setCell_other w ⟨gn, i, none⟩ k u fun e => hk (show Value.ownBlock _ = some k by rw [e]; rfl)
theorem St.callN {t sz n : Nat} {v : Value} {cs : List Value} (h : St base w0 L w) (hb : Below w.heap.size w w') (ha : OwnN w' w.heap.size t sz v n cs) : St base w0 (Asn.ownN base t sz v n cs :: L) w' :=
  h.callPush (a := Asn.ownN base t sz v n cs) hb (ha.mono h.le) fun k hk => (ha.lt k hk).1
theorem St.appNw {ops : Array Oper} {rest : List Oper} {o : Oper} {act : Act} {Q : Exit → Act → World → Prop} (t e : TypeId) (z : Value) (sz bytes : Nat)
    (ht : Try.prog.underlying t = some (.slice e)) (hinfo : (Try.prog.info? e).map (fun i => (i.zero, i.size, i.bytes)) = some (some z, sz, bytes)) (hz : z.cells.size = sz) (hsz : 0 < sz) (hb : bytes ≤ 64)
    (hgd : o.guard = none) (s x : Operand) (ho : o.op = .call { callee := .builtin .append, args := #[s, x], argTypes := #[t, t] })
    (v : Value) (n : Nat) (cs : List Value) (hs : act.eval s = v) (hS : St base w0 (Asn.ownN base e sz v n cs :: L) W) (news : List Value) (hnl : news.length = sz) (hc1 : ∀ u ∈ news, u.oneCell' = true)
    (hx : act.eval x = .slice (some ⟨W.heap.size, 0, none⟩) 1 1) (hlen : n ≤ 1000000000)
    (h : ∀ g cap w', St base w0 (Asn.ownN base e sz (.slice (some ⟨g, 0, none⟩) (n + 1) cap) (n + 1) (cs ++ news) :: L) w' → wpList Try.prog ops Q rest (act.put o.dst (.slice (some ⟨g, 0, none⟩) (n + 1) cap)) w') :
    wpList Try.prog ops Q (o :: rest) act (W.alloc (.cells news.toArray e)) := by
  refine appN t e z sz bytes ht hinfo hz hsz hb hgd s x ho base v n cs hs hS.star.1 hS.le news hnl hc1 hx hlen ?_
  intro g cap w' h1 h2 h3 h4 h5
  exact h g cap w' (hS.appdN h1 h2 h3 (h5.imp id Nat.le_of_lt))
end
end Go.Proofs.Ytgpjcekpmhfljaa

/- The reference's machines with any number of states. -/
namespace Go.Proofs.Ytgpjcekpmhfljaa
open Go.RowKit
set_option linter.unusedVariables false
set_option linter.unusedSimpArgs false

/-- An element of several cells appended, at a step of a region that draws: it lies in a box. -/
theorem St.stepN {ops : Array Oper} {o : Oper} {act : Act} {W w0 : World} {K : Act → World → Prop} {Q : Exit → Act → World → Prop} {E : Prop} {L : List Asn} {base : Nat} (t e tb : TypeId) (z : Value) (sz bytes : Nat)
    (ht : Try.prog.underlying t = some (.slice e)) (hinfo : (Try.prog.info? e).map (fun i => (i.zero, i.size, i.bytes)) = some (some z, sz, bytes)) (hz : z.cells.size = sz) (hsz : 0 < sz) (hb : bytes ≤ 64)
    (hgd : o.guard = none) (s x : Operand) (ho : o.op = .call { callee := .builtin .append, args := #[s, x], argTypes := #[t, t] })
    (v : Value) (n : Nat) (cs : List Value) (hs : act.eval s = v) {B : Nat} {news : List Value} (hS : St base w0 (Asn.ownN base e sz v n cs :: Asn.blk B news.toArray tb :: L) W) (hnl : news.length = sz) (hc1 : ∀ u ∈ news, u.oneCell' = true)
    (hx : act.eval x = .slice (some ⟨B, 0, none⟩) 1 1) (hlen : n ≤ 1000000)
    (h : ∀ g cap w', St base w0 (Asn.ownN base e sz (.slice (some ⟨g, 0, none⟩) (n + 1) cap) (n + 1) (cs ++ news) :: Asn.blk B news.toArray tb :: L) w' → K (act.put o.dst (.slice (some ⟨g, 0, none⟩) (n + 1) cap)) w') :
    if Region.wanted o (yielded ops act.tmps) = true then Oper.wp Try.prog o act W K Q else E := by
  obtain ⟨i, hi, hz0, hz1, hz2⟩ := info_parts hinfo
  have hw : Region.wanted o (yielded ops act.tmps) = true := by simp [Region.wanted, hgd]
  rw [if_pos hw]
  have hown : OwnN W base e sz v n cs := hS.star.1
  refine wp_append_lies W s x t ho base e i z sz bytes ht hi hz0 hz1 hz2 hz hsz v n cs hs hown ⟨B, 0, none⟩ 1 1 news hx (by rw [hnl, Nat.one_mul])
    (fun j u hu => ?_) hc1 (by omega) (by simp only [maxLen]; omega) (Nat.le_trans (Nat.mul_le_mul_left _ hb) (by omega)) hS.le _ rfl ?_
  · rw [Addr.add_mid, Nat.zero_add, cell_of_row W B j _ _ _ hS.star.2.2.1]
    simpa using hu
  · intro g cap w' h1 h2 h3 h4
    have hold : ∀ k, k < W.heap.size → v.ownBlock ≠ some k → w'.heap[k]? = W.heap[k]? := fun k hk hne => h2.block k hk (fun e => hne e.symm)
    exact h g cap w' (hS.appdN h1 ⟨h2.os, h2.tape, h2.output, h2.size, fun k hk => hold k (by have := hS.le; omega) (fun e => by have := (hown.lt k e).1; omega)⟩ hold (h3.imp id (fun e => Nat.le_of_eq e.symm)))

theorem OwnN.oneCell {w : World} {b e sz n : Nat} {v : Value} {cs : List Value} (h : OwnN w b e sz v n cs) : v.oneCell' = true := by
  rcases h.2 with ⟨rfl, _⟩ | ⟨g, cap, cur, rfl, _⟩ <;> rfl
/-- A struct or an array in a block of its own is handed back. -/
theorem ret_blk {P : Program} {fn : Func} {R : Ending → World → Prop} {a : Act} {w : World} {p ty : Nat} (h : fn.results = #[.cell p ty]) {g t : Nat} {cs : Array Value} {d : TypeDesc}
    (hp : a.tmps.getD p undef = .pointer (some ⟨g, 0, none⟩)) (hb : w.heap[g]? = some (.cells cs t (0, 0))) (hu : P.underlying ty = some d) (hd : (match d with | .struct _ | .array _ _ => true | _ => false) = true)
    (hi : (P.info? ty).map (·.size) = some cs.size) (hdf : a.defers = []) (hR : R (.returned (.agg cs)) w) : bodyPost P fn R .ret a w :=
  bodyPost_ret (results_cell_row h a.tmps w g t _ _ d hp hb hu hd hi) hdf hR

/-- The rows of a function as cells, three a row. -/
def rcs (k : IntKind) (f : Nat → Nat → Nat) (L n : Nat) : List Value := (List.range (n * 3)).map fun p => .int k ((if p % 3 < L then f (p / 3) (p % 3) else 0 : Nat) : Int)
def rc1 (k : IntKind) (f : Nat → Nat → Nat) (L q : Nat) : List Value := (List.range 3).map fun x => .int k ((if x < L then f q x else 0 : Nat) : Int)
theorem rcs_length (k : IntKind) (f : Nat → Nat → Nat) (L n : Nat) : (rcs k f L n).length = n * 3 := by simp [rcs]
theorem rc1_one (k : IntKind) (f : Nat → Nat → Nat) (L q : Nat) : ∀ u ∈ rc1 k f L q, u.oneCell' = true := by
  intro u hu
  obtain ⟨x, _, rfl⟩ := List.mem_map.1 hu
  rfl
theorem rc1_lit (k : IntKind) (f : Nat → Nat → Nat) (L q : Nat) : ∃ a b c : Nat, rc1 k f L q = [.int k (a : Int), .int k (b : Int), .int k (c : Int)] := ⟨_, _, _, rfl⟩
theorem rc1_get (k : IntKind) (f : Nat → Nat → Nat) (L q x : Nat) (hx : x < 3) : (rc1 k f L q)[x]? = some (.int k ((if x < L then f q x else 0 : Nat) : Int)) := by simp [rc1, hx]
theorem rcs_snoc (k : IntKind) (f : Nat → Nat → Nat) (L n : Nat) : rcs k f L (n + 1) = rcs k f L n ++ rc1 k f L n := by
  unfold rcs rc1
  rw [show (n + 1) * 3 = n * 3 + 3 by omega, List.range_add, List.map_append, List.map_map]
  congr 1
  apply List.map_congr_left
  intro x hx
  have hx3 := List.mem_range.1 hx
  simp only [Function.comp]
  rw [show (n * 3 + x) % 3 = x by omega, show (n * 3 + x) / 3 = n by omega]
theorem rcs_get (k : IntKind) (f : Nat → Nat → Nat) (L n q x : Nat) (hq : q < n) (hx : x < 3) : (rcs k f L n)[q * 3 + x]? = some (.int k ((if x < L then f q x else 0 : Nat) : Int)) := by
  unfold rcs
  rw [List.getElem?_map, List.getElem?_range (by omega), Option.map_some, show (q * 3 + x) % 3 = x by omega, show (q * 3 + x) / 3 = q by omega]
theorem rcs_row (k : IntKind) (f : Nat → Nat → Nat) (L n q : Nat) (hq : q < n) : ∀ j, j < (rc1 k f L q).length → (rcs k f L n)[q * 3 + j]? = (rc1 k f L q)[j]? := fun j hj => by
  have hj3 : j < 3 := by simpa [rc1] using hj
  rw [rcs_get k f L n q j hq hj3, rc1_get k f L q j hj3]
theorem rcs_in (k : IntKind) (f : Nat → Nat → Nat) (L n q x : Nat) (hq : q < n) (hx : x < L) (hL : L ≤ 3) : (rcs k f L n)[q * 3 + x]? = some (.int k (f q x : Nat)) := by
  rw [rcs_get k f L n q x hq (by omega), if_pos hx]


/-- A row that is filled. -/
def fil3 (f : Nat → Nat → Nat) (q x : Nat) : Array Value := #[.int .i64 ((if 0 < x then f q 0 else 0 : Nat) : Int), .int .i64 ((if 1 < x then f q 1 else 0 : Nat) : Int), .int .i64 ((if 2 < x then f q 2 else 0 : Nat) : Int)]
theorem fil3_set (f : Nat → Nat → Nat) (q x : Nat) (hx : x < 3) : (fil3 f q x).setIfInBounds x (.int .i64 (f q x : Nat)) = fil3 f q (x + 1) := by
  have : x = 0 ∨ x = 1 ∨ x = 2 := by omega
  rcases this with rfl | rfl | rfl <;> simp [fil3, Array.setIfInBounds]
theorem fil3_all (f : Nat → Nat → Nat) (q L : Nat) : fil3 f q L = (rc1 .i64 f L q).toArray := rfl
theorem fil3_get (f : Nat → Nat → Nat) (q x j : Nat) (hj : j < 3) : ∃ u, (fil3 f q x)[j]? = some u := ⟨_, Array.getElem?_eq_getElem (by simpa [fil3] using hj)⟩

theorem mf_row {m : Mach} {l s : Nat} (g : Good m l s) (q : Nat) (hq : q < s) : ∀ j, j < 3 → mf m (50 + q * 3 + j) = .int .u8 ((if j < l then (tabOf m l s).ot q j else 0 : Nat) : Int) := fun j hj => by
  rw [mf_ot]
  by_cases h : j < l
  · rw [if_pos h]; rfl
  · rw [if_neg h, (g.z q j (by have := g.s16; omega) hj (fun hh => h hh.2)).2]

end Go.Proofs.Ytgpjcekpmhfljaa

/- The reference's least equal states of a large machine. -/
namespace Go.Proofs.Ytgpjcekpmhfljaa
open Go.RowKit
set_option linter.unusedVariables false
set_option linter.unusedSimpArgs false

/-- Equal rows of bytes. -/
theorem rc1_iff (f : Nat → Nat → Nat) (L a b : Nat) (hL : L ≤ 3) : rc1 .u8 f L a = rc1 .u8 f L b ↔ (alls L fun x => f a x == f b x) = true := by
  rw [alls_iff]
  constructor
  · intro h x hx
    have h1 := rc1_get .u8 f L a x (by omega)
    rw [h, rc1_get .u8 f L b x (by omega), if_pos hx, if_pos hx] at h1
    simp at h1; simp; omega
  · intro h
    unfold rc1
    apply List.map_congr_left
    intro x _
    by_cases hx : x < L
    · have := h x hx
      simp at this
      rw [if_pos hx, if_pos hx, this]
    · rw [if_neg hx, if_neg hx]
theorem lit3_iff {a b c a' b' c' : Nat} : ([Value.int .u8 (a : Int), .int .u8 (b : Int), .int .u8 (c : Int)] = [.int .u8 (a' : Int), .int .u8 (b' : Int), .int .u8 (c' : Int)]) ↔ a = a' ∧ b = b' ∧ c = c' := by
  constructor
  · intro h; simp at h; omega
  · rintro ⟨rfl, rfl, rfl⟩; rfl
theorem rc1_lit256 (f : Nat → Nat → Nat) (L q : Nat) (h : ∀ x, x < L → f q x < 256) : ∃ a b c : Nat, rc1 .u8 f L q = [.int .u8 (a : Int), .int .u8 (b : Int), .int .u8 (c : Int)] ∧ a < 256 ∧ b < 256 ∧ c < 256 := by
  have hx : ∀ x, (if x < L then f q x else 0) < 256 := fun x => by
    by_cases hx : x < L
    · rw [if_pos hx]; exact h x hx
    · rw [if_neg hx]; omega
  exact ⟨_, _, _, rfl, hx 0, hx 1, hx 2⟩
theorem clsL_stable {T : Tab} {k : Nat} (h : Stable T k) : clsL T (k + 1) T.n = clsL T k T.n := by
  unfold clsL
  apply List.map_congr_left
  intro q hq
  exact h q (List.mem_range.1 hq)
/-- A list filled up to q, with x at q. -/
theorem filL_at (f : Nat → Nat) (q n x : Nat) (hq : q < n) : ∀ j, j < n → ((nats (filL f q n)).set q (.int .i64 (x : Int)))[j]? = some (.int .i64 ((if j = q then x else if j < q then f j else 0 : Nat) : Int)) := fun j hj => by
  rw [List.getElem?_set]
  by_cases e : q = j
  · subst e; rw [if_pos rfl, if_pos (by rw [nats_length, filL_length]; exact hj), if_pos rfl]
  · rw [if_neg e, if_neg (Ne.symm e)]
    simp [nats, filL, hj]
theorem filL_done (f : Nat → Nat) (q n x : Nat) (h : x = f q) : (nats (filL f q n)).set q (.int .i64 (x : Int)) = nats (filL f (q + 1) n) := by subst h; exact filL_set f q n

end Go.Proofs.Ytgpjcekpmhfljaa

/- The machine of a state of a large machine: the reference's search. -/
namespace Go.Proofs.Ytgpjcekpmhfljaa
open Go.RowKit
set_option linter.unusedVariables false
set_option linter.unusedSimpArgs false

/-- The numbers of what has been met. -/
def nmL (st : List Nat) (n : Nat) : List Int := (List.range n).map fun c => if c ∈ st then ((st.idxOf c : Nat) : Int) else -1
theorem nmL_length (st : List Nat) (n : Nat) : (nmL st n).length = n := by simp [nmL]
theorem nmL_get (st : List Nat) (n c : Nat) (h : c < n) : (ints (nmL st n))[c]? = some (.int .i64 (if c ∈ st then ((st.idxOf c : Nat) : Int) else -1)) := by simp [ints, nmL, h]
theorem nmL_add (st : List Nat) (n c : Nat) (hc : c ∉ st) : (ints (nmL st n)).set c (.int .i64 (st.length : Nat)) = ints (nmL (st ++ [c]) n) := by
  apply List.ext_getElem?
  intro i
  rw [List.getElem?_set]
  by_cases h : i < n
  · rw [nmL_get _ _ _ h, nmL_get _ _ _ h]
    by_cases e : c = i
    · subst e
      rw [if_pos rfl, if_pos (by rw [ints_length, nmL_length]; exact h), if_pos (by simp), List.idxOf_append, if_neg hc]
      simp
    · rw [if_neg e]
      by_cases hm : i ∈ st
      · rw [if_pos hm, if_pos (by simp [hm]), List.idxOf_append, if_pos hm]
      · rw [if_neg hm, if_neg (by simp [hm]; exact fun e' => e e'.symm)]
  · have h1 : ∀ l, (ints (nmL l n))[i]? = none := fun l => List.getElem?_eq_none (by rw [ints_length, nmL_length]; omega)
    rw [h1, h1]
    by_cases e : c = i
    · rw [if_pos e, if_neg (by rw [ints_length, nmL_length]; omega)]
    · rw [if_neg e]
/-- A list that is filled with -1. -/
def filM (q n : Nat) : List Int := (List.range n).map fun j => if j < q then -1 else 0
theorem filM_length (q n : Nat) : (filM q n).length = n := by simp [filM]
theorem filM_zero (n : Nat) : List.replicate n (Value.int .i64 0) = ints (filM 0 n) := by
  apply List.ext_getElem?
  intro i
  by_cases h : i < n
  · simp [ints, filM, h]
  · simp [ints, filM, h]
theorem filM_set (q n : Nat) : (ints (filM q n)).set q (.int .i64 (-1)) = ints (filM (q + 1) n) := by
  apply List.ext_getElem?
  intro i
  rw [List.getElem?_set]
  by_cases hi : q = i
  · subst hi
    by_cases h : q < n
    · rw [if_pos rfl, if_pos (by simp [ints, filM]; exact h)]
      simp [ints, filM, h]
    · rw [if_pos rfl, if_neg (by simp [ints, filM]; omega)]
      simp [ints, filM, h]
  · rw [if_neg hi]
    by_cases h : i < n
    · simp only [ints, filM, List.getElem?_map, List.getElem?_range h, Option.map_some]
      by_cases hl : i < q
      · rw [if_pos hl, if_pos (by omega)]
      · rw [if_neg hl, if_neg (by omega)]
    · simp [ints, filM, h]
theorem filM_all (n : Nat) : filM n n = nmL [] n := by
  unfold filM nmL
  apply List.map_congr_left
  intro j hj
  rw [if_pos (List.mem_range.1 hj)]
  simp

/-- The reference's machine as far as it is written: the row i has its outputs already. -/
def gthS (T : Tab) (c : Nat → Nat) (st : List Nat) (i x : Nat) : Mach := ⟨T.L, st.length, (gthP T c st i x).nx, (gthP T c st (i + 1) 0).ot⟩
theorem gthS_row (T : Tab) (c : Nat → Nat) (st : List Nat) (i : Nat) (hL : T.L ≤ 3) : gthS T c st i T.L = gthP T c st (i + 1) 0 := by
  have h := gthP_row T c st i hL
  unfold gthS
  rw [h]
  rfl
theorem gthS_step (T : Tab) (c : Nat → Nat) (st : List Nat) (i x s : Nat) (hx : x < T.L) (hL : T.L ≤ 3) (hs : st[i]? = some s) :
    gthS T c st i (x + 1) = { (gthS T c st i x) with nx := upd (gthS T c st i x).nx (i * 3 + x) (st.idxOf (c (T.nx s x))) } := by
  have h := gthP_step T c st i x s hx hL hs
  unfold gthS
  rw [h]
theorem gthS_out (T : Tab) (c : Nat → Nat) (st : List Nat) (i s a0 a1 a2 : Nat) (hs : st[i]? = some s) (h0 : a0 = if 0 < T.L then T.ot s 0 else 0) (h1 : a1 = if 1 < T.L then T.ot s 1 else 0) (h2 : a2 = if 2 < T.L then T.ot s 2 else 0) :
    gthS T c st i 0 = { (gthP T c st i 0) with ot := upd (upd (upd (gthP T c st i 0).ot (i * 3 + 0) a0) (i * 3 + 1) a1) (i * 3 + 2) a2 } := by
  have hg : st.getD i 0 = s := by rw [List.getD_eq_getElem?_getD, hs]; rfl
  unfold gthS gthP upd
  dsimp only
  congr 1
  funext p
  by_cases e : p / 3 = i
  · have hp : p = i * 3 + 0 ∨ p = i * 3 + 1 ∨ p = i * 3 + 2 := by omega
    rcases hp with rfl | rfl | rfl
    · rw [if_neg (show ¬ i * 3 + 0 = i * 3 + 2 by omega), if_neg (show ¬ i * 3 + 0 = i * 3 + 1 by omega), if_pos rfl, h0, show (i * 3 + 0) / 3 = i by omega, show (i * 3 + 0) % 3 = 0 by omega, hg]
      by_cases hl : 0 < T.L
      · rw [if_pos hl, if_pos ⟨.inl (by omega), hl⟩]
      · rw [if_neg hl, if_neg (fun h => hl h.2)]
    · rw [if_neg (show ¬ i * 3 + 1 = i * 3 + 2 by omega), if_pos rfl, h1, show (i * 3 + 1) / 3 = i by omega, show (i * 3 + 1) % 3 = 1 by omega, hg]
      by_cases hl : 1 < T.L
      · rw [if_pos hl, if_pos ⟨.inl (by omega), hl⟩]
      · rw [if_neg hl, if_neg (fun h => hl h.2)]
    · rw [if_pos rfl, h2, show (i * 3 + 2) / 3 = i by omega, show (i * 3 + 2) % 3 = 2 by omega, hg]
      by_cases hl : 2 < T.L
      · rw [if_pos hl, if_pos ⟨.inl (by omega), hl⟩]
      · rw [if_neg hl, if_neg (fun h => hl h.2)]
  · rw [if_neg (show ¬ p = i * 3 + 2 by omega), if_neg (show ¬ p = i * 3 + 1 by omega), if_neg (show ¬ p = i * 3 + 0 by omega)]
    by_cases h : (p / 3 < i + 1 ∨ p / 3 = i + 1 ∧ p % 3 < 0) ∧ p % 3 < T.L
    · rw [if_pos h, if_pos ⟨by omega, h.2⟩]
    · rw [if_neg h, if_neg (fun h' => h ⟨by omega, h'.2⟩)]
def fromB (T : Tab) (q : Nat) : Bool := decide ((fin T (fix T) q).length ≤ 16)
theorem ret_mach_v {fn : Func} {R : Ending → World → Prop} {a : Act} {w : World} {p q : Nat} (h : fn.results = #[.cell p 29, .tmp q]) {g t : Nat} {m : Mach} {v : Value}
    (hp : a.tmps.getD p undef = .pointer (some ⟨g, 0, none⟩)) (hq : a.tmps.getD q undef = v) (hm : MB w t g m) (hdf : a.defers = []) (hR : R (.returned (.tuple #[.agg (mcells m), v])) w) : bodyPost Try.prog fn R .ret a w := by
  refine bodyPost_ret (v := .tuple #[.agg (mcells m), v]) ?_ hdf hR
  have hp' : a.tmps[p]?.getD undef = .pointer (some ⟨g, 0, none⟩) := by simpa using hp
  have hq' : a.tmps[q]?.getD undef = v := by simpa using hq
  have := run_loadVar_row (P := Try.prog) w g t 29 (mcells m) (0, 0) _ hm.heap Try.underlying29 rfl (by rw [size_mcells]; exact sz_mach)
  simp [results, h, hp', hq', asAddr, this]

end Go.Proofs.Ytgpjcekpmhfljaa

/- LevelPermutation: the program's and the reference's come to the same; the law's body. -/
namespace Go.Proofs.Ytgpjcekpmhfljaa
open Go.RowKit
set_option linter.unusedVariables false
set_option linter.unusedSimpArgs false

open Classical in
/-- What LevelPermutation answers. -/
noncomputable def levelAns (m : Mach) (q n : Int) : List Int × Int :=
  if IsM m then if (0 ≤ q ∧ q < m.S) ∧ 0 ≤ n ∧ n ≤ 5 then ((perm m m.L.toNat q.toNat n.toNat).map Int.ofNat, 0) else ([], 2) else ([], 1)
theorem levelAns_1 {m : Mach} {q n : Int} (h : ¬ IsM m) : levelAns m q n = ([], 1) := by unfold levelAns; rw [if_neg h]
theorem levelAns_2 {m : Mach} {q n : Int} {l s : Nat} (g : Good m l s) (h : ¬ ((0 ≤ q ∧ q < (s : Int)) ∧ 0 ≤ n ∧ n ≤ 5)) : levelAns m q n = ([], 2) := by unfold levelAns; rw [if_pos g.isM, g.S, if_neg h]
theorem levelAns_0 {m : Mach} {l s : Nat} (g : Good m l s) (q n : Nat) (hq : q < s) (hn : n ≤ 5) : levelAns m q n = ((perm m l q n).map Int.ofNat, 0) := by
  unfold levelAns
  rw [if_pos g.isM, g.S, g.L, if_pos (by omega)]
  rfl

theorem levelAns_len (m : Mach) (q n : Int) : (levelAns m q n).1.length < 999999 := by
  by_cases hm : IsM m
  · obtain ⟨l, s, g⟩ := hm.good
    by_cases h : (0 ≤ q ∧ q < (s : Int)) ∧ 0 ≤ n ∧ n ≤ 5
    · obtain ⟨q, rfl⟩ := Int.eq_ofNat_of_zero_le h.1.1
      obtain ⟨n, rfl⟩ := Int.eq_ofNat_of_zero_le h.2.1
      rw [levelAns_0 g q n (by omega) (by omega)]
      have := pw_small l n g.l3 (by omega)
      rw [List.length_map, perm_length]; omega
    · rw [levelAns_2 g h]; simp
  · rw [levelAns_1 hm]; simp
/-- Two that answer alike. -/
def AnsL (w : World) (A : List Int × Int) (e : Ending) (w' : World) : Prop := ∃ v, e = .returned (.tuple #[v, .int .i64 A.2]) ∧ Own w' w.heap.size 2 v (ints A.1) ∧ Below w.heap.size w w'


theorem codeI_one {m : Mach} {l s : Nat} {q : Int} (g : Good m l s) (hq : 0 ≤ q ∧ q < (s : Int)) : codeI m { data := #[] } [q] = 0 := codeI_0 g (isWd_nil _) (fun x hx => by simp at hx; subst hx; exact hq)
theorem codeI_bad {m : Mach} {l s : Nat} {q : Int} (g : Good m l s) (hq : ¬ (0 ≤ q ∧ q < (s : Int))) : codeI m { data := #[] } [q] = 2 := codeI_2 g (isWd_nil _) (fun h => hq (h q (by simp)))

end Go.Proofs.Ytgpjcekpmhfljaa

/- MachineOfState: what the program and the reference answer. -/
namespace Go.Proofs.Ytgpjcekpmhfljaa
open Go.RowKit
set_option linter.unusedVariables false
set_option linter.unusedSimpArgs false


open Classical in
/-- What MachineOfState answers. -/
noncomputable def mosAns (m : Mach) (q : Int) : Mach × Int := if codeI m { data := #[] } [q] = 0 then (fromM (tabOf m m.L.toNat m.S.toNat) q.toNat, 0) else (⟨0, 0, fun _ => 0, fun _ => 0⟩, codeI m { data := #[] } [q])
theorem mosAns_0 {m : Mach} {l s q : Nat} (g : Good m l s) (hq : q < s) : mosAns m q = (fromM (tabOf m l s) q, 0) := by
  unfold mosAns; rw [if_pos (codeI_one g ⟨by omega, by omega⟩), g.L, g.S]; rfl
theorem mosAns_2 {m : Mach} {l s : Nat} {q : Int} (g : Good m l s) (hq : ¬ (0 ≤ q ∧ q < (s : Int))) : mosAns m q = (⟨0, 0, fun _ => 0, fun _ => 0⟩, 2) := by
  unfold mosAns; rw [codeI_bad g hq, if_neg (by decide)]
theorem mosAns_1 {m : Mach} {q : Int} (hm : ¬ IsM m) : mosAns m q = (⟨0, 0, fun _ => 0, fun _ => 0⟩, 1) := by
  unfold mosAns; rw [codeI_1 hm, if_neg (by decide)]

theorem codeI_cases (m : Mach) (q : Int) : codeI m { data := #[] } [q] = 1 ∨ codeI m { data := #[] } [q] = 2 ∨ ∃ l s q', Good m l s ∧ q = ((q' : Nat) : Int) ∧ q' < s ∧ codeI m { data := #[] } [q] = 0 := by
  by_cases hm : IsM m
  · obtain ⟨l, s, g⟩ := hm.good
    by_cases hq : 0 ≤ q ∧ q < (s : Int)
    · obtain ⟨q', rfl⟩ := Int.eq_ofNat_of_zero_le hq.1
      exact .inr (.inr ⟨l, s, q', g, rfl, by omega, codeI_one g hq⟩)
    · exact .inr (.inl (codeI_bad g hq))
  · exact .inl (codeI_1 hm)


end Go.Proofs.Ytgpjcekpmhfljaa

/- The product of two states: the reference's side. -/
namespace Go.Proofs.Ytgpjcekpmhfljaa
open Go.RowKit
set_option linter.unusedVariables false
set_option linter.unusedSimpArgs false

/-- A row of bytes that is filled. -/
def fil3b (f : Nat → Nat → Nat) (q x : Nat) : Array Value := #[.int .u8 ((if 0 < x then f q 0 else 0 : Nat) : Int), .int .u8 ((if 1 < x then f q 1 else 0 : Nat) : Int), .int .u8 ((if 2 < x then f q 2 else 0 : Nat) : Int)]
theorem fil3b_set (f : Nat → Nat → Nat) (q x : Nat) (hx : x < 3) : (fil3b f q x).setIfInBounds x (.int .u8 (f q x : Nat)) = fil3b f q (x + 1) := by
  have : x = 0 ∨ x = 1 ∨ x = 2 := by omega
  rcases this with rfl | rfl | rfl <;> simp [fil3b, Array.setIfInBounds]
theorem fil3b_all (f : Nat → Nat → Nat) (q L : Nat) : fil3b f q L = (rc1 .u8 f L q).toArray := rfl
theorem fil3b_get (f : Nat → Nat → Nat) (q x j : Nat) (hj : j < 3) : ∃ u, (fil3b f q x)[j]? = some u := ⟨_, Array.getElem?_eq_getElem (by simpa [fil3b] using hj)⟩

end Go.Proofs.Ytgpjcekpmhfljaa

/- Two machines and a state of each: their code, in the program and in the reference. -/
namespace Go.Proofs.Ytgpjcekpmhfljaa
open Go.RowKit
set_option linter.unusedVariables false
set_option linter.unusedSimpArgs false

open Classical in
/-- The code of states of two machines. -/
noncomputable def pairI (m : Mach) (q : Int) (k : Mach) (r : Int) : Int := if IsM m ∧ IsM k then if (0 ≤ q ∧ q < m.S) ∧ (0 ≤ r ∧ r < k.S) ∧ m.L = k.L then 0 else 2 else 1

theorem pairI_cases (m : Mach) (q : Int) (k : Mach) (r : Int) : (pairI m q k r = 1 ∧ ¬ (IsM m ∧ IsM k)) ∨ (pairI m q k r = 2) ∨ ∃ l s s' q' r', Good m l s ∧ Good k l s' ∧ q = ((q' : Nat) : Int) ∧ q' < s ∧ r = ((r' : Nat) : Int) ∧ r' < s' ∧ pairI m q k r = 0 := by
  unfold pairI
  by_cases h : IsM m ∧ IsM k
  · rw [if_pos h]
    by_cases hq : (0 ≤ q ∧ q < m.S) ∧ (0 ≤ r ∧ r < k.S) ∧ m.L = k.L
    · rw [if_pos hq]
      obtain ⟨l, s, g⟩ := h.1.good
      obtain ⟨l', s', g'⟩ := h.2.good
      obtain ⟨q', rfl⟩ := Int.eq_ofNat_of_zero_le hq.1.1
      obtain ⟨r', rfl⟩ := Int.eq_ofNat_of_zero_le hq.2.1.1
      have e := hq.2.2
      rw [g.L, g'.L] at e
      have e' : l' = l := by omega
      rw [e'] at g'
      have h1 := hq.1.2; have h2 := hq.2.1.2
      rw [g.S] at h1; rw [g'.S] at h2
      exact .inr (.inr ⟨l, s, s', q', r', g, g', rfl, by omega, rfl, by omega, rfl⟩)
    · rw [if_neg hq]; exact .inr (.inl rfl)
  · rw [if_neg h]; exact .inl ⟨rfl, h⟩

end Go.Proofs.Ytgpjcekpmhfljaa

/- ProductOfStates: what the program and the reference answer. -/
namespace Go.Proofs.Ytgpjcekpmhfljaa
open Go.RowKit
set_option linter.unusedVariables false
set_option linter.unusedSimpArgs false

open Classical in
/-- What ProductOfStates answers. -/
noncomputable def posAns (m : Mach) (q : Int) (k : Mach) (r : Int) : Mach × Int := if pairI m q k r = 0 then (fromM (prodT m k m.L.toNat m.S.toNat k.S.toNat) (q.toNat * k.S.toNat + r.toNat), fromC (prodT m k m.L.toNat m.S.toNat k.S.toNat) (q.toNat * k.S.toNat + r.toNat)) else (⟨0, 0, fun _ => 0, fun _ => 0⟩, pairI m q k r)
theorem posAns_0 {m k : Mach} {l s s' q r : Nat} (g : Good m l s) (g' : Good k l s') (h : pairI m q k r = 0) : posAns m q k r = (fromM (prodT m k l s s') (q * s' + r), fromC (prodT m k l s s') (q * s' + r)) := by
  unfold posAns; rw [if_pos h, g.L, g.S, g'.S]; rfl
theorem posAns_n {m : Mach} {q : Int} {k : Mach} {r c : Int} (h : pairI m q k r = c) (hc : c ≠ 0) : posAns m q k r = (⟨0, 0, fun _ => 0, fun _ => 0⟩, c) := by
  unfold posAns; rw [h, if_neg hc]
theorem from_cases (T : Tab) (q : Nat) : (fromB T q = true ∧ fromC T q = 0) ∨ (fromB T q = false ∧ fromC T q = 3 ∧ fromM T q = ⟨0, 0, fun _ => 0, fun _ => 0⟩) := by
  unfold fromB fromC fromM
  by_cases h : (fin T (fix T) q).length ≤ 16
  · exact .inl ⟨decide_eq_true h, if_pos h⟩
  · exact .inr ⟨decide_eq_false h, if_neg h, if_neg h⟩

end Go.Proofs.Ytgpjcekpmhfljaa

/- OrderByPowers: what the program and the reference answer. -/
namespace Go.Proofs.Ytgpjcekpmhfljaa
open Go.RowKit
set_option linter.unusedVariables false
set_option linter.unusedSimpArgs false

/-- The next power, and its code. -/
def nextM (m : Mach) (l s q : Nat) (now : Mach) : Mach := fromM (prodT now m l now.S.toNat s) (0 * s + q)
def nextC (m : Mach) (l s q : Nat) (now : Mach) : Int := fromC (prodT now m l now.S.toNat s) (0 * s + q)
open Classical in
/-- The search. -/
noncomputable def ordGo (m : Mach) (l s q : Nat) : Nat → Nat → Mach → Int × Int
  | 0, _, _ => (0, 4)
  | f + 1, k, now => if nextC m l s q now = 0 then (if mcells (nextM m l s q now) = mcells (trivM l) then ((k : Int), 0) else ordGo m l s q f (k + 1) (nextM m l s q now)) else (0, 3)
open Classical in
noncomputable def obpAns (m : Mach) (q n : Int) : Int × Int :=
  if codeI m { data := #[] } [q] = 0 then (if 1 ≤ n ∧ n ≤ 16 then ordGo m m.L.toNat m.S.toNat q.toNat n.toNat 1 (trivM m.L.toNat) else (0, 2)) else (0, codeI m { data := #[] } [q])
theorem obpAns_n {m : Mach} {q n c : Int} (h : codeI m { data := #[] } [q] = c) (hc : c ≠ 0) : obpAns m q n = (0, c) := by
  unfold obpAns; rw [h, if_neg hc]
theorem obpAns_r {m : Mach} {q n : Int} (h : codeI m { data := #[] } [q] = 0) (hn : ¬ (1 ≤ n ∧ n ≤ 16)) : obpAns m q n = (0, 2) := by
  unfold obpAns; rw [h, if_pos rfl, if_neg hn]
theorem obpAns_0 {m : Mach} {l s q : Nat} {n : Nat} (g : Good m l s) (h : codeI m { data := #[] } [(q : Int)] = 0) (hn : 1 ≤ n ∧ n ≤ 16) : obpAns m q n = ordGo m l s q n 1 (trivM l) := by
  unfold obpAns; rw [h, if_pos rfl, if_pos (by omega), g.L, g.S]; rfl
theorem next_cases (m : Mach) (l s q : Nat) (hq : q < s) (g : Good m l s) (now : Mach) (sN : Nat) (gN : Good now l sN) :
    (nextC m l s q now = 3 ∧ fromB (prodT now m l sN s) (0 * s + q) = false) ∨ (nextC m l s q now = 0 ∧ fromB (prodT now m l sN s) (0 * s + q) = true ∧ ∃ s2, Good (nextM m l s q now) l s2 ∧ (nextM m l s q now).Ok) := by
  have e : now.S.toNat = sN := by rw [gN.S]; rfl
  have hin := prod_in (s' := s) (show 0 < sN from gN.s1) hq
  rcases from_cases (prodT now m l sN s) (0 * s + q) with ⟨h1, h2⟩ | ⟨h1, h2, _⟩
  · refine .inr ⟨by unfold nextC; rw [e]; exact h2, h1, ?_⟩
    obtain ⟨s2, g2⟩ := fromM_good (prod_ok gN g) hin g.l2 g.l3 (prod_o gN g) (prod_inj gN g) h2
    exact ⟨s2, by unfold nextM; rw [e]; exact g2, by unfold nextM; rw [e]; exact fromM_ok (prod_ok gN g) hin (prod_o256 gN g)⟩
  · exact .inl ⟨by unfold nextC; rw [e]; exact h2, h1⟩
theorem next_M (m : Mach) (l s q : Nat) (now : Mach) (sN : Nat) (gN : Good now l sN) : fromM (prodT now m l sN s) (0 * s + q) = nextM m l s q now ∧ fromC (prodT now m l sN s) (0 * s + q) = nextC m l s q now := by
  have e : now.S.toNat = sN := by rw [gN.S]; rfl
  unfold nextM nextC; rw [e]; exact ⟨rfl, rfl⟩
open Classical in
theorem eq_triv (m : Mach) (l s2 : Nat) (g : Good m l s2) (hk : m.Ok) : ∃ b : Bool, Hid (b = true ↔ mcells m = mcells (trivM l)) ∧ ∀ W : World, (Op.equalIn 10000 29 (.agg (mcells m)) (.agg (mcells (trivM l)))).run Try.prog W = .ok b W := by
  have l3 := g.l3; have s16 := g.s16
  exact ⟨_, hid decide_eq_true_iff, fun W => eq_mach W m (trivM l) hk (trivM_ok l l3) l s2 l 1 g.L g.S rfl rfl (by omega) (by omega) (by omega) (by omega) _ decide_eq_true_iff⟩
theorem ordGo_3 {m : Mach} {l s q f k : Nat} {now : Mach} (h : nextC m l s q now = 3) : ordGo m l s q (f + 1) k now = (0, 3) := by
  unfold ordGo; rw [h, if_neg (by decide)]
theorem ordGo_t {m : Mach} {l s q f k : Nat} {now : Mach} (h : nextC m l s q now = 0) (he : mcells (nextM m l s q now) = mcells (trivM l)) : ordGo m l s q (f + 1) k now = ((k : Int), 0) := by
  unfold ordGo; rw [if_pos h, if_pos he]
theorem ordGo_n {m : Mach} {l s q f k : Nat} {now : Mach} (h : nextC m l s q now = 0) (he : ¬ mcells (nextM m l s q now) = mcells (trivM l)) : ordGo m l s q (f + 1) k now = ordGo m l s q f (k + 1) (nextM m l s q now) := by
  conv => lhs; unfold ordGo
  rw [if_pos h, if_neg he]

end Go.Proofs.Ytgpjcekpmhfljaa

/- Products of lists of states: the program's productOf. -/
namespace Go.Proofs.Ytgpjcekpmhfljaa
open Go.RowKit
set_option linter.unusedVariables false
set_option linter.unusedSimpArgs false

/-- The product of a list, from what has been made: fs i is (machine, its states, the state). -/
def chn (fs : Nat → Mach × Nat × Nat) (l : Nat) : Nat → Nat → Mach → Mach × Int
  | 0, _, now => (now, 0)
  | f + 1, i, now => if nextC (fs i).1 l (fs i).2.1 (fs i).2.2 now = 0 then chn fs l f (i + 1) (nextM (fs i).1 l (fs i).2.1 (fs i).2.2 now) else (⟨0, 0, fun _ => 0, fun _ => 0⟩, 3)
theorem chn_3 {fs : Nat → Mach × Nat × Nat} {l f i : Nat} {now : Mach} (h : nextC (fs i).1 l (fs i).2.1 (fs i).2.2 now = 3) : chn fs l (f + 1) i now = (⟨0, 0, fun _ => 0, fun _ => 0⟩, 3) := by
  unfold chn; rw [h, if_neg (by decide)]
theorem chn_0 {fs : Nat → Mach × Nat × Nat} {l f i : Nat} {now : Mach} (h : nextC (fs i).1 l (fs i).2.1 (fs i).2.2 now = 0) : chn fs l (f + 1) i now = chn fs l f (i + 1) (nextM (fs i).1 l (fs i).2.1 (fs i).2.2 now) := by
  conv => lhs; unfold chn
  rw [if_pos h]

end Go.Proofs.Ytgpjcekpmhfljaa

/- Powers: the reference's l07Power. -/
namespace Go.Proofs.Ytgpjcekpmhfljaa
open Go.RowKit
set_option linter.unusedVariables false
set_option linter.unusedSimpArgs false

/-- The machine whose powers are made. -/
def powB (m : Mach) (l s : Nat) (n : Int) : Mach := if n < 0 then inv m l s else m
theorem powB_good {m : Mach} {l s : Nat} (g : Good m l s) (n : Int) : Good (powB m l s n) l s := by
  unfold powB; split
  · exact inv_good g
  · exact g
/-- A power. -/
def powR (m : Mach) (l s q : Nat) (n : Int) : Mach × Int := chn (fun _ => (powB m l s n, s, q)) l n.natAbs 0 (trivM l)

end Go.Proofs.Ytgpjcekpmhfljaa

/- copy of elements of any size, between rows. -/
namespace Go.Proofs.Ytgpjcekpmhfljaa
open Go.RowKit
set_option linter.unusedVariables false
set_option linter.unusedSimpArgs false

/-- As many elements as the shorter of the two has go over, sz cells each. -/
theorem run_copy_N {P : Program} (w : World) (dT sT ty elem : TypeId) (sz g o dLen dCap : Nat) (a : Addr) (sLen sCap : Nat) (cur : Array Value) (t : TypeId) (cs : List Value)
    (hu : P.underlying dT = some (.slice elem)) (hs : (P.info? elem).map (·.size) = some sz)
    (hg : w.heap[g]? = some (.cells cur t (0, 0))) (hn : cs.length = Nat.min sLen dLen * sz)
    (hsrc : ∀ j v, cs[j]? = some v → w.cell? (a.add j) = some v) (hfit : o + cs.length ≤ cur.size) (h1 : ∀ v ∈ cs, v.oneCell' = true) :
    (Builtin.copy_ #[dT, sT] ty #[.slice (some ⟨g, o, none⟩) dLen dCap, .slice (some a) sLen sCap]).run P w =
      .ok (goInt (Nat.min sLen dLen)) (w.setRow g (cur.toList.take o ++ cs ++ cur.toList.drop (o + cs.length)).toArray) := by
  have hl := run_loadCells_list (P := P) w a cs hsrc
  have hst := run_storeCells_at P g o t cs 0 cur w hg (by simpa using hfit) h1
  cases hq : P.info? elem with
  | none => simp [hq] at hs
  | some i =>
    have hi : i.size = sz := by simpa [hq] using hs
    rw [hn] at hl
    simp [Builtin.copy_, run_underlying hu, Builtin.lenOf, Builtin.firstCells, sizeOf, typeInfo, hq, hi, hl, hst]

/-- .. as a law for the walk. -/
theorem wpList_copy_N {P : Program} {w : World} {ops : Array Oper} {rest : List Oper} {o : Oper} {a : Act} {Q : Exit → Act → World → Prop} (hgd : o.guard = none) (d s : Operand) (dT sT : TypeId)
    (ho : o.op = .call { callee := .builtin .copy, args := #[d, s], argTypes := #[dT, sT] }) (elem : TypeId) (sz : Nat) (hu : P.underlying dT = some (.slice elem)) (hsz : (P.info? elem).map (·.size) = some sz)
    (g off dLen dCap : Nat) (ad : Addr) (sLen sCap : Nat) (hd : a.eval d = .slice (some ⟨g, off, none⟩) dLen dCap) (hs : a.eval s = .slice (some ad) sLen sCap)
    (cur : List Value) (t : TypeId) (hg : w.heap[g]? = some (.cells cur.toArray t (0, 0))) (cs : List Value) (hn : cs.length = Nat.min sLen dLen * sz)
    (hsrc : ∀ j v, cs[j]? = some v → w.cell? (ad.add j) = some v) (hfit : off + cs.length ≤ cur.length) (h1 : ∀ v ∈ cs, v.oneCell' = true)
    (h : wpList P ops Q rest (a.put o.dst (goInt (Nat.min sLen dLen))) (w.setRow g (splice cur off cs).toArray)) : wpList P ops Q (o :: rest) a w := by
  refine wpList_plain hgd fun K hK => ?_
  have hrun := run_copy_N (P := P) w dT sT o.type elem sz g off dLen dCap ad sLen sCap cur.toArray t cs hu hsz hg hn hsrc (by simpa using hfit) h1
  unfold Oper.wp
  simp [execOp, ho, resolve, invoke, builtin, hd, hs, hrun, Result.andThen]
  have e : w.setRow g (splice cur off cs).toArray = w.setRow g (List.take off cur ++ (cs ++ List.drop (off + cs.length) cur)).toArray := rfl
  first
    | exact hK _ _ h
    | (rw [e] at h; simpa using hK _ _ h)
end Go.Proofs.Ytgpjcekpmhfljaa

/- bits.Mul at 1 and small numbers. -/
namespace Go.Proofs.Ytgpjcekpmhfljaa
open Go.RowKit
set_option linter.unusedVariables false
set_option linter.unusedSimpArgs false
set_option maxRecDepth 4000 in
theorem bitsMul64_small (w : World) (n : Nat) (hn : n ≤ 16) :
    Calls Try.prog 139 #[.int .u64 1, .int .u64 n] w fun e w' => e = .returned (.tuple #[.int .u64 0, .int .u64 n]) ∧ w = w' := by
  have h : n = 0 ∨ n = 1 ∨ n = 2 ∨ n = 3 ∨ n = 4 ∨ n = 5 ∨ n = 6 ∨ n = 7 ∨ n = 8 ∨ n = 9 ∨ n = 10 ∨ n = 11 ∨ n = 12 ∨ n = 13 ∨ n = 14 ∨ n = 15 ∨ n = 16 := by omega
  clear hn
  rcases h with rfl | rfl | rfl | rfl | rfl | rfl | rfl | rfl | rfl | rfl | rfl | rfl | rfl | rfl | rfl | rfl | rfl <;>
  · go_enter Try.func139, Try.ntmps139
    go_wp2
    go_ret2
    exact ⟨rfl, rfl⟩
theorem bitsMul_small (w : World) (n : Nat) (hn : n ≤ 16) :
    Calls Try.prog 106 #[.int .u64 1, .int .u64 n] w fun e w' => e = .returned (.tuple #[.int .u64 0, .int .u64 n]) ∧ w = w' := by
  have hm := hid (fun W => bitsMul64_small W n hn)
  have xn : (n : Int) % 18446744073709551616 = n := by omega
  clear hn
  go_enter Try.func106, Try.ntmps106
  go_wp2_with (first
    | (go_at_call 139; (with_reducible refine (hm.out _).mono ?_); rintro e w1 ⟨rfl, rfl⟩))
  go_ret2
  exact ⟨rfl, rfl⟩
end Go.Proofs.Ytgpjcekpmhfljaa

/- slices.Repeat of one element, a few times. -/
namespace Go.Proofs.Ytgpjcekpmhfljaa
open Go.RowKit
set_option linter.unusedVariables false
set_option linter.unusedSimpArgs false
-- @LONG

/-- The cells cs, n times. -/
def rp (cs : List Value) (n : Nat) : List Value := (List.range (n * cs.length)).map fun j => cs.getD (j % cs.length) undef
theorem rp_length (cs : List Value) (n : Nat) : (rp cs n).length = n * cs.length := by simp [rp]
theorem rp_get (cs : List Value) (n j : Nat) (h : j < n * cs.length) : (rp cs n)[j]? = some (cs.getD (j % cs.length) undef) := by simp [rp, h]
theorem rp_at (cs : List Value) (n i j : Nat) (u : Value) (hi : i < n) (hu : cs[j]? = some u) : (rp cs n)[i * cs.length + j]? = some u := by
  have hj := (List.getElem?_eq_some_iff.1 hu).1
  have h1 : i * cs.length + cs.length ≤ n * cs.length := by rw [← Nat.succ_mul]; exact Nat.mul_le_mul_right _ hi
  rw [rp_get _ _ _ (by omega), Nat.mul_comm i, Nat.mul_add_mod, Nat.mod_eq_of_lt hj, List.getD_eq_getElem?_getD, hu]; rfl
theorem rp_one (cs : List Value) (n : Nat) (h1 : ∀ v ∈ cs, v.oneCell' = true) : ∀ v ∈ rp cs n, v.oneCell' = true := fun v hv => by
  unfold rp at hv
  obtain ⟨j, hj, rfl⟩ := List.mem_map.1 hv
  have hj' := List.mem_range.1 hj
  have hpos : 0 < cs.length := Nat.pos_of_ne_zero (fun e => by rw [e] at hj'; simp at hj')
  have hlt := Nat.mod_lt j hpos
  rw [List.getD_eq_getElem?_getD, List.getElem?_eq_getElem hlt]
  exact h1 _ (List.getElem_mem hlt)
/-- What is in the row when k elements are there. -/
def Rep (cs : List Value) (n k : Nat) (cur : List Value) : Prop := cur.length = n * cs.length ∧ ∀ j, j < k * cs.length → cur[j]? = (rp cs n)[j]?
theorem Rep.all {cs cur : List Value} {n : Nat} (h : Rep cs n n cur) : cur = rp cs n := by
  apply List.ext_getElem?
  intro j
  by_cases hj : j < n * cs.length
  · exact h.2 j hj
  · rw [List.getElem?_eq_none (by rw [h.1]; omega), List.getElem?_eq_none (by rw [rp_length]; omega)]
theorem Rep.step {cs cur : List Value} {n k c : Nat} (h : Rep cs n k cur) (hc : k + c ≤ n) : Rep cs n (k + c) (splice cur (k * cs.length) ((rp cs n).take (c * cs.length))) := by
  have e1 : k * cs.length + c * cs.length = (k + c) * cs.length := (Nat.add_mul _ _ _).symm
  have e2 : (k + c) * cs.length ≤ n * cs.length := Nat.mul_le_mul_right _ hc
  have hl : ((rp cs n).take (c * cs.length)).length = c * cs.length := by rw [List.length_take, rp_length]; omega
  refine ⟨by rw [length_splice _ _ _ (by rw [hl, h.1]; omega)]; exact h.1, fun j hj => ?_⟩
  unfold splice
  have hk : (cur.take (k * cs.length)).length = k * cs.length := by rw [List.length_take, h.1]; omega
  by_cases hj1 : j < k * cs.length
  · rw [List.getElem?_append_left (by omega), List.getElem?_take_of_lt hj1]
    exact h.2 j hj1
  · rw [List.getElem?_append_right (by omega), hk, List.getElem?_append_left (by omega), List.getElem?_take_of_lt (by omega), rp_get _ _ _ (by omega), rp_get _ _ _ (by omega)]
    have e3 : j % cs.length = (j - k * cs.length) % cs.length := by
      conv => lhs; rw [show j = k * cs.length + (j - k * cs.length) by omega, Nat.mul_comm k, Nat.mul_add_mod]
      rw [Nat.mul_comm k]
    rw [e3]
theorem Rep.zero {cs Z : List Value} {n : Nat} (h : Z.length = n * cs.length) : Rep cs n 0 Z := ⟨h, fun j hj => by omega⟩

/-- A part that is one block, its row anew. -/
theorem St.setRow {base bn : Nat} {w0 w : World} {L : List Asn} {cs : Array Value} {t : Nat} (h : St base w0 (Asn.blk bn cs t :: L) w) (hb : base ≤ bn) (cs' : Array Value) : St base w0 (Asn.blk bn cs' t :: L) (w.setRow bn cs') :=
  h.turn (a' := Asn.blk bn cs' t) (setRow_heap w bn _ _ t _ h.star.1) (fun k hk => .inl hk) (fun k hk => (show k = bn from hk) ▸ hb) (below_setRow (Below.refl _ _) hb _)
    fun k _ hk => setRow_other w bn k _ hk
/-- copy as a step of a region that draws. -/
theorem step_copy_N {P : Program} {ops : Array Oper} {o : Oper} {a : Act} {w : World} {K : Act → World → Prop} {Q : Exit → Act → World → Prop} {E : Prop} (hgd : o.guard = none) (d s : Operand) (dT sT : TypeId)
    (ho : o.op = .call { callee := .builtin .copy, args := #[d, s], argTypes := #[dT, sT] }) (elem : TypeId) (sz : Nat) (hu : P.underlying dT = some (.slice elem)) (hsz : (P.info? elem).map (·.size) = some sz)
    (g off dLen dCap : Nat) (ad : Addr) (sLen sCap : Nat) (hd : a.eval d = .slice (some ⟨g, off, none⟩) dLen dCap) (hs : a.eval s = .slice (some ad) sLen sCap)
    (cur : List Value) (t : TypeId) (hg : w.heap[g]? = some (.cells cur.toArray t (0, 0))) (cs : List Value) (hn : cs.length = Nat.min sLen dLen * sz)
    (hsrc : ∀ j v, cs[j]? = some v → w.cell? (ad.add j) = some v) (hfit : off + cs.length ≤ cur.length) (h1 : ∀ v ∈ cs, v.oneCell' = true)
    (h : K (a.put o.dst (goInt (Nat.min sLen dLen))) (w.setRow g (splice cur off cs).toArray)) :
    if Region.wanted o (yielded ops a.tmps) = true then Oper.wp P o a w K Q else E := by
  have hw : Region.wanted o (yielded ops a.tmps) = true := by simp [Region.wanted, hgd]
  rw [if_pos hw]
  have hrun := run_copy_N (P := P) w dT sT o.type elem sz g off dLen dCap ad sLen sCap cur.toArray t cs hu hsz hg hn hsrc (by simpa using hfit) h1
  unfold Oper.wp
  simp [execOp, ho, resolve, invoke, builtin, hd, hs, hrun, Result.andThen]
  have e : w.setRow g (splice cur off cs).toArray = w.setRow g (List.take off cur ++ (cs ++ List.drop (off + cs.length) cur)).toArray := rfl
  first
    | exact h
    | (rw [e] at h; simpa using h)
/-- The numbers of times that are asked for. -/
def Few (n : Nat) : Prop := n ≤ 16 ∨ n = 27 ∨ n = 32 ∨ n = 81

end Go.Proofs.Ytgpjcekpmhfljaa

/- The reference's permutations of letters. -/
namespace Go.Proofs.Ytgpjcekpmhfljaa
open Go.RowKit
set_option linter.unusedVariables false
set_option linter.unusedSimpArgs false
-- @LONG

/-- Where permutation k leads the letter x. -/
def pim (d k x : Nat) : Nat := (((prms d).getD k []).getD x 0).toNat
theorem pim_lt (d k x : Nat) (hd : d = 2 ∨ d = 3) (hk : k < cnt d) (hx : x < d) : pim d k x < d := by
  rcases hd with rfl | rfl
  · have : k = 0 ∨ k = 1 := by have : cnt 2 = 2 := rfl; omega
    have h2 : x = 0 ∨ x = 1 := by omega
    rcases this with rfl | rfl <;> rcases h2 with rfl | rfl <;> decide
  · have : k = 0 ∨ k = 1 ∨ k = 2 ∨ k = 3 ∨ k = 4 ∨ k = 5 := by have : cnt 3 = 6 := rfl; omega
    have h2 : x = 0 ∨ x = 1 ∨ x = 2 := by omega
    rcases this with rfl | rfl | rfl | rfl | rfl | rfl <;> rcases h2 with rfl | rfl | rfl <;> decide
/-- Three bytes in a block of their own. -/
theorem row_new3 (w : World) (f : Nat → Nat) (a b c : Int) (ha : a = (f 0 : Nat)) (hb : b = (f 1 : Nat)) (hc : c = (f 2 : Nat)) :
    (w.alloc (.cells #[.int .u8 a, .int .u8 b, .int .u8 c] 22)).rowIs w.heap.size 22 3 (byt f) := by
  subst ha; subst hb; subst hc
  exact rowIs_new w 3 22 (byt f)
set_option maxHeartbeats 1000000 in
set_option maxRecDepth 100000 in
theorem l03Images_20 (w : World) :
    Calls Try.prog 110 #[.int .i64 2, .int .i64 0] w fun e w' => e = .returned (.agg (rowL 3 (byt (pim 2 0))).toArray) ∧ Below w.heap.size w w' := by
  go_enter Try.func110, Try.ntmps110
  go_wp2
  exact ret_row (ty := 22) (p := 4) rfl (g := w.heap.size) (t := 22) (n := 3) rfl (row_new3 w (pim 2 0) _ _ _ (by decide) (by decide) (by decide)) Try.underlying22 rfl sz_b3 rfl ⟨rfl, below_alloc (Below.refl _ _) (Nat.le_refl _) _⟩
set_option maxHeartbeats 1000000 in
set_option maxRecDepth 100000 in
theorem l03Images_21 (w : World) :
    Calls Try.prog 110 #[.int .i64 2, .int .i64 1] w fun e w' => e = .returned (.agg (rowL 3 (byt (pim 2 1))).toArray) ∧ Below w.heap.size w w' := by
  go_enter Try.func110, Try.ntmps110
  go_wp2
  exact ret_row (ty := 22) (p := 4) rfl (g := w.heap.size) (t := 22) (n := 3) rfl (row_new3 w (pim 2 1) _ _ _ (by decide) (by decide) (by decide)) Try.underlying22 rfl sz_b3 rfl ⟨rfl, below_alloc (Below.refl _ _) (Nat.le_refl _) _⟩
theorem row_is3 {W : World} {b t : Nat} {f : Nat → Nat} (h : W.heap[b]? = some (.cells (rowL 3 (byt f)).toArray t (0, 0))) : W.rowIs b t 3 (byt f) :=
  ⟨_, h, rfl, fun i hi => by have := rowL_get 3 (byt f) i hi; simpa using this⟩
theorem sz_63 : (Try.prog.info? 149).map (·.size) = some 18 := by kernel_rfl
theorem zero_63 (w : World) : (zeroValue 149).run Try.prog w = .ok (.agg (rowL 18 (byt fun _ => 0)).toArray) w := by kernel_rfl
def all6 : Array Value := #[.int .u8 0, .int .u8 1, .int .u8 2, .int .u8 0, .int .u8 2, .int .u8 1, .int .u8 1, .int .u8 0, .int .u8 2, .int .u8 1, .int .u8 2, .int .u8 0, .int .u8 2, .int .u8 0, .int .u8 1, .int .u8 2, .int .u8 1, .int .u8 0]
theorem all6_get (k : Nat) (hk : k < 6) (j : Nat) (v : Value) (hv : (rowL 3 (byt (pim 3 k)))[j]? = some v) : all6[k * 3 + j]? = some v := by
  have hj : j < 3 := by have := (List.getElem?_eq_some_iff.1 hv).1; rwa [rowL_length] at this
  rw [rowL_get 3 _ j hj] at hv
  rw [← hv]
  have : k = 0 ∨ k = 1 ∨ k = 2 ∨ k = 3 ∨ k = 4 ∨ k = 5 := by omega
  have h2 : j = 0 ∨ j = 1 ∨ j = 2 := by omega
  rcases this with rfl | rfl | rfl | rfl | rfl | rfl <;> rcases h2 with rfl | rfl | rfl <;> rfl
theorem built6 : Try.prog.built 149 [(0, Value.agg #[.int .u8 0, .int .u8 1, .int .u8 2]), (1, Value.agg #[.int .u8 0, .int .u8 2, .int .u8 1]), (2, Value.agg #[.int .u8 1, .int .u8 0, .int .u8 2]), (3, Value.agg #[.int .u8 1, .int .u8 2, .int .u8 0]), (4, Value.agg #[.int .u8 2, .int .u8 0, .int .u8 1]), (5, Value.agg #[.int .u8 2, .int .u8 1, .int .u8 0])] = some all6 := by kernel_rfl
theorem build_all6 {ops : Array Oper} {rest : List Oper} {o : Oper} {a : Act} {w : World} {Q : Exit → Act → World → Prop} (hgd : o.guard = none) (ho : o.op = .build 149 #[(0, Operand.tmp 12), (1, Operand.tmp 13), (2, Operand.tmp 14), (3, Operand.tmp 15), (4, Operand.tmp 16), (5, Operand.tmp 17)])
    (e0 : a.eval (.tmp 12) = .agg #[.int .u8 0, .int .u8 1, .int .u8 2]) (e1 : a.eval (.tmp 13) = .agg #[.int .u8 0, .int .u8 2, .int .u8 1]) (e2 : a.eval (.tmp 14) = .agg #[.int .u8 1, .int .u8 0, .int .u8 2]) (e3 : a.eval (.tmp 15) = .agg #[.int .u8 1, .int .u8 2, .int .u8 0]) (e4 : a.eval (.tmp 16) = .agg #[.int .u8 2, .int .u8 0, .int .u8 1]) (e5 : a.eval (.tmp 17) = .agg #[.int .u8 2, .int .u8 1, .int .u8 0])
    (h : wpList Try.prog ops Q rest (a.put o.dst (.agg all6)) w) : wpList Try.prog ops Q (o :: rest) a w := by
  have h0 : ((#[(0, Operand.tmp 12), (1, Operand.tmp 13), (2, Operand.tmp 14), (3, Operand.tmp 15), (4, Operand.tmp 16), (5, Operand.tmp 17)] : Array (Nat × Operand)).map fun (i, x) => (i, a.eval x)).toList = [(0, Value.agg #[.int .u8 0, .int .u8 1, .int .u8 2]), (1, Value.agg #[.int .u8 0, .int .u8 2, .int .u8 1]), (2, Value.agg #[.int .u8 1, .int .u8 0, .int .u8 2]), (3, Value.agg #[.int .u8 1, .int .u8 2, .int .u8 0]), (4, Value.agg #[.int .u8 2, .int .u8 0, .int .u8 1]), (5, Value.agg #[.int .u8 2, .int .u8 1, .int .u8 0])] := by
    simp only [List.map_toArray, List.map_cons, List.map_nil, e0, e1, e2, e3, e4, e5]
  have e : Try.prog.built 149 ((#[(0, Operand.tmp 12), (1, Operand.tmp 13), (2, Operand.tmp 14), (3, Operand.tmp 15), (4, Operand.tmp 16), (5, Operand.tmp 17)] : Array (Nat × Operand)).map fun (i, x) => (i, a.eval x)).toList = some all6 := by
    rw [h0]; exact built6
  refine wpList_build hgd 149 _ ho (by rw [e]; rfl) ?_
  rw [e]
  exact h
set_option maxHeartbeats 2000000 in
set_option maxRecDepth 100000 in
theorem l03Images_3 (k : Nat) (hk : k < 6) (w : World) :
    Calls Try.prog 110 #[.int .i64 3, .int .i64 k] w fun e w' => e = .returned (.agg (rowL 3 (byt (pim 3 k))).toArray) ∧ Below w.heap.size w w' := by
  have hS := ((St.start w).newBlk #[.int .u8 0, .int .u8 0, .int .u8 0] 22).newBlk (rowL 18 (byt fun _ => 0)).toArray 149
  rw [heap_alloc_size] at hS
  replace hS := hid hS
  have hz := zero_63
  have hbig : all6.all (·.oneCell') = true := by simp [all6, Value.oneCell']
  have hss := hid sz_63
  have hzs := hid (show (rowL 18 (byt fun _ => 0)).toArray.size = 18 from rfl)
  have h6s := hid (show all6.size = 18 from rfl)
  have hget := hid (all6_get k hk)
  have hl := hid (rowL_length 3 (byt (pim 3 k)))
  have k0 : (0 : Int) ≤ (k : Int) := Int.natCast_nonneg _
  have k1 : (k : Int) < 6 := by omega
  replace hbig := hid hbig
  generalize (rowL 18 (byt fun _ => 0)).toArray = zs at *
  go_enter Try.func110, Try.ntmps110
  go_upto_region 6 with (first
    | ((with_reducible refine gate (N := 18) rfl ?_); refine build_all6 rfl rfl rfl rfl rfl rfl rfl rfl ?_)
    | ((with_reducible refine gateOp (op := .store 149 (.tmp 5) (.tmp 18)) rfl ?_); refine wpList_store_row rfl _ _ _ rfl (w.heap.size + 1) _ rfl rfl _ _ hS.out.k0 (by rw [h6s.out]; exact hss.out) (by rw [hzs.out, h6s.out]) hbig.out ?_))
  replace hS := hid (hS.out.setRow (Nat.le_succ _) all6)
  generalize World.setRow _ _ all6 = w2 at *
  have hrg := hid (show w2.rangeAt (w.heap.size + 1) (k * 3) (rowL 3 (byt (pim 3 k))) from fun j v hv => (cell_of_row _ _ (k * 3 + j) _ _ _ hS.out.k0).trans (hget.out j v hv))
  have h1c := hid (show ((rowL 3 (byt (pim 3 k))).toArray.all (·.oneCell') = true) from one_byt 3 (pim 3 k))
  have hls := hid (show (rowL 3 (byt (pim 3 k))).toArray.size = 3 from rfl)
  have hrr := hid (fun (W : World) (b : Nat) (h : W.heap[b]? = some (.cells (rowL 3 (byt (pim 3 k))).toArray 22 (0, 0))) => (show W.rowIs b 22 3 (byt (pim 3 k)) from row_is3 h))
  have hRR := hid (show rowL 3 (byt (pim 3 k)) = rowL 3 (byt (pim 3 k)) from rfl)
  generalize hR : rowL 3 (byt (pim 3 k)) = R at *
  replace hR := hid hR
  clear hRR
  have hRR := hid hR.out
  go_wp2_with (first
    | ((with_reducible refine gate (N := 21) rfl ?_); refine wpList_load_mid rfl 22 _ rfl (w.heap.size + 1) (k * 3) rfl _ _ hrg.out Try.underlying22 rfl (by rw [hl.out]; exact sz_b3) ?_)
    | ((with_reducible refine gateOp (op := .store 22 (.tmp 4) (.tmp 21)) rfl ?_); refine wpList_store_row rfl _ _ _ rfl w.heap.size _ rfl rfl _ _ hS.out.k1 (by rw [hls.out]; exact sz_b3) (by rw [hls.out]; rfl) h1c.out ?_; replace hS := hid (hS.out.f1.setRow (Nat.le_refl _) R.toArray)))
  exact ret_row (ty := 22) (p := 4) rfl (g := w.heap.size) (t := 22) (n := 3) rfl (hrr.out _ _ hS.out.k0) Try.underlying22 rfl sz_b3 rfl ⟨by rw [hRR.out], hS.out.bel⟩
theorem l03Images_any (d k : Nat) (hd : d = 2 ∨ d = 3) (hk : k < cnt d) (w : World) :
    Calls Try.prog 110 #[.int .i64 d, .int .i64 k] w fun e w' => e = .returned (.agg (rowL 3 (byt (pim d k))).toArray) ∧ Below w.heap.size w w' := by
  rcases hd with rfl | rfl
  · have : k = 0 ∨ k = 1 := by have : cnt 2 = 2 := rfl; omega
    rcases this with rfl | rfl
    · exact l03Images_20 w
    · exact l03Images_21 w
  · exact l03Images_3 k (by have : cnt 3 = 6 := rfl; omega) w
end Go.Proofs.Ytgpjcekpmhfljaa

/- Cycles of a permutation: plain law. -/
namespace Go.Proofs.Ytgpjcekpmhfljaa
open Go.RowKit
set_option linter.unusedVariables false
set_option linter.unusedSimpArgs false

/-- How many are not met. -/
def cf (s : List Bool) : Nat := s.count false
/-- From a on, until a met number: what is met then, and how many were new. -/
def cyrun (p : List Nat) : Nat → List Bool → Nat → List Bool × Nat
  | 0, s, _ => (s, 0)
  | f + 1, s, a => if s.getD a true then (s, 0) else ((cyrun p f (s.set a true) (p.getD a 0)).1, (cyrun p f (s.set a true) (p.getD a 0)).2 + 1)
def crun (p : List Nat) (s : List Bool) (a : Nat) : List Bool × Nat := cyrun p (cf s) s a
theorem crun_seen {p : List Nat} {s : List Bool} {a : Nat} (h : s[a]? = some true) : crun p s a = (s, 0) := by
  unfold crun
  cases cf s with
  | zero => rfl
  | succ f => unfold cyrun; rw [List.getD_eq_getElem?_getD, h]; rfl
theorem cf_set : ∀ {s : List Bool} {a : Nat}, s[a]? = some false → cf s = cf (s.set a true) + 1
  | [], a, h => by simp at h
  | b :: s, 0, h => by
    simp at h; subst h
    simp [cf]
  | b :: s, a + 1, h => by
    have ih := cf_set (s := s) (a := a) (by simpa using h)
    simp only [cf, List.set_cons_succ, List.count_cons] at ih ⊢
    omega
theorem crun_new {p : List Nat} {s : List Bool} {a : Nat} (h : s[a]? = some false) : crun p s a = ((crun p (s.set a true) (p.getD a 0)).1, (crun p (s.set a true) (p.getD a 0)).2 + 1) := by
  unfold crun
  rw [cf_set h]
  conv => lhs; unfold cyrun
  rw [List.getD_eq_getElem?_getD, h]
  rfl
/-- What is met, and the cycles' lengths, before k. -/
def cyst (p : List Nat) : Nat → List Bool × List Nat
  | 0 => (List.replicate p.length false, [])
  | k + 1 => ((crun p (cyst p k).1 k).1, if 0 < (crun p (cyst p k).1 k).2 then (cyst p k).2 ++ [(crun p (cyst p k).1 k).2] else (cyst p k).2)
/-- The lengths of the cycles, in the order of their least numbers. -/
def cyc (p : List Nat) : List Nat := (cyst p p.length).2
theorem cyrun_len (p : List Nat) : ∀ f s a, (cyrun p f s a).1.length = s.length
  | 0, _, _ => rfl
  | f + 1, s, a => by
    unfold cyrun
    split
    · rfl
    · show (cyrun p f (s.set a true) _).1.length = _
      rw [cyrun_len p f]; simp
theorem crun_len (p : List Nat) (s : List Bool) (a : Nat) : (crun p s a).1.length = s.length := cyrun_len p _ s a
theorem cyst_len (p : List Nat) : ∀ k, (cyst p k).1.length = p.length
  | 0 => by simp [cyst]
  | k + 1 => by rw [cyst]; dsimp only; rw [crun_len, cyst_len p k]
theorem cyrun_le (p : List Nat) : ∀ f s a, (cyrun p f s a).2 ≤ f
  | 0, _, _ => Nat.le_refl _
  | f + 1, s, a => by
    unfold cyrun
    split
    · exact Nat.zero_le _
    · exact Nat.succ_le_succ (cyrun_le p f _ _)
theorem crun_le (p : List Nat) (s : List Bool) (a : Nat) : (crun p s a).2 ≤ s.length := Nat.le_trans (cyrun_le p _ s a) (by unfold cf; exact List.count_le_length)
theorem cyst_out (p : List Nat) : ∀ k, (cyst p k).2.length ≤ k
  | 0 => Nat.le_refl _
  | k + 1 => by
    have := cyst_out p k
    rw [cyst]; dsimp only
    split
    · simp; omega
    · omega
theorem cyst_pos (p : List Nat) : ∀ k c, c ∈ (cyst p k).2 → 0 < c ∧ c ≤ p.length
  | 0, c, h => by simp [cyst] at h
  | k + 1, c, h => by
    rw [cyst] at h; dsimp only at h
    split at h
    · rename_i hp
      rcases List.mem_append.1 h with h | h
      · exact cyst_pos p k c h
      · rw [List.mem_singleton] at h
        subst h
        exact ⟨hp, by have := crun_le p (cyst p k).1 k; rw [cyst_len] at this; exact this⟩
    · exact cyst_pos p k c h
/-! Cycles of a permutation. -/
def itp (p : List Nat) : Nat → Nat → Nat
  | 0, k => k
  | j + 1, k => p.getD (itp p j k) 0
/-- p leads the numbers below its length to such, each from one. -/
structure IsPm (p : List Nat) : Prop where
  lt : ∀ k, k < p.length → p.getD k 0 < p.length
  inj : ∀ i j, i < p.length → j < p.length → p.getD i 0 = p.getD j 0 → i = j
theorem itp_lt {p : List Nat} (h : IsPm p) {k : Nat} (hk : k < p.length) : ∀ j, itp p j k < p.length
  | 0 => hk
  | j + 1 => h.lt _ (itp_lt h hk j)
theorem itp_add (p : List Nat) (i k : Nat) : ∀ j, itp p (j + i) k = itp p j (itp p i k)
  | 0 => by rw [Nat.zero_add]; rfl
  | j + 1 => by rw [show j + 1 + i = (j + i) + 1 by omega]; show p.getD _ 0 = p.getD _ 0; rw [itp_add p i k j]
theorem itp_inj {p : List Nat} (h : IsPm p) {a b : Nat} (ha : a < p.length) (hb : b < p.length) : ∀ j, itp p j a = itp p j b → a = b
  | 0, e => e
  | j + 1, e => itp_inj h ha hb j (h.inj _ _ (itp_lt h ha j) (itp_lt h hb j) e)
theorem itp_mul {p : List Nat} {c k : Nat} (h : itp p c k = k) : ∀ j, itp p (j * c) k = k
  | 0 => by rw [Nat.zero_mul]; rfl
  | j + 1 => by rw [Nat.succ_mul, itp_add, h]; exact itp_mul h j
/-- c is the length of the cycle of k. -/
structure IsCy (p : List Nat) (k c : Nat) : Prop where
  pos : 0 < c
  back : itp p c k = k
  min : ∀ j, 0 < j → j < c → itp p j k ≠ k
theorem IsCy.dvd {p : List Nat} {k c K : Nat} (h : IsCy p k c) (hK : itp p K k = k) : c ∣ K := by
  have e : itp p (K % c) k = k := by
    have h1 : K = K % c + (K / c) * c := by have := Nat.div_add_mod K c; rw [Nat.mul_comm] at this; omega
    have h2 : itp p (K % c + (K / c) * c) k = k := by rw [← h1]; exact hK
    rw [itp_add, itp_mul h.back] at h2
    exact h2
  rcases Nat.eq_zero_or_pos (K % c) with h0 | h0
  · exact Nat.dvd_of_mod_eq_zero h0
  · exact absurd e (h.min _ h0 (Nat.mod_lt _ h.pos))
theorem cy_ex {p : List Nat} (h : IsPm p) {k : Nat} (hk : k < p.length) : ∃ c, IsCy p k c := by
  have hex : ∃ c, 0 < c ∧ itp p c k = k := by
    apply Classical.byContradiction
    intro hn
    have := inj_le (p.length + 1) p.length (fun i => itp p i k) (fun i _ => itp_lt h hk i) (fun i j hij _ e => by
      refine hn ⟨j - i, by omega, ?_⟩
      have h1 : itp p (i + (j - i)) k = itp p i (itp p (j - i) k) := itp_add p (j - i) k i
      rw [show i + (j - i) = j by omega] at h1
      exact itp_inj h (itp_lt h hk _) hk i (by rw [← h1]; exact e.symm))
    omega
  obtain ⟨c, hc⟩ := hex
  induction c using Nat.strongRecOn with
  | ind c ih =>
    by_cases hm : ∃ j, j < c ∧ 0 < j ∧ itp p j k = k
    · obtain ⟨j, h1, h2⟩ := hm
      exact ih j h1 h2
    · exact ⟨c, hc.1, hc.2, fun j h1 h2 h3 => hm ⟨j, h2, h1, h3⟩⟩
/-- Whole cycles are met. -/
def Clo (p : List Nat) (s : List Bool) : Prop := ∀ x, x < p.length → (s[x]? = some true ↔ s[p.getD x 0]? = some true)
def mkd (p : List Nat) (s : List Bool) (k : Nat) : Nat → List Bool
  | 0 => s
  | j + 1 => (mkd p s k j).set (itp p j k) true
theorem mkd_len (p : List Nat) (s : List Bool) (k : Nat) : ∀ j, (mkd p s k j).length = s.length
  | 0 => rfl
  | j + 1 => by rw [mkd, List.length_set, mkd_len p s k j]
theorem mkd_get {p : List Nat} {s : List Bool} {k x : Nat} (hx : x < s.length) : ∀ j, ((mkd p s k j)[x]? = some true ↔ s[x]? = some true ∨ ∃ i, i < j ∧ itp p i k = x)
  | 0 => ⟨fun h => .inl h, fun h => h.elim id fun ⟨i, hi, _⟩ => absurd hi (Nat.not_lt_zero _)⟩
  | j + 1 => by
    rw [mkd, List.getElem?_set, mkd_len]
    by_cases e : itp p j k = x
    · rw [if_pos e, if_pos (by omega)]
      exact ⟨fun _ => .inr ⟨j, by omega, e⟩, fun _ => rfl⟩
    · rw [if_neg e, mkd_get hx j]
      constructor
      · rintro (h | ⟨i, hi, h⟩)
        · exact .inl h
        · exact .inr ⟨i, by omega, h⟩
      · rintro (h | ⟨i, hi, h⟩)
        · exact .inl h
        · by_cases e2 : i = j
          · subst e2; exact absurd h e
          · exact .inr ⟨i, by omega, h⟩
theorem Clo.it {p : List Nat} {s : List Bool} (hc : Clo p s) (h : IsPm p) {k : Nat} (hk : k < p.length) : ∀ j, (s[k]? = some true ↔ s[itp p j k]? = some true)
  | 0 => Iff.rfl
  | j + 1 => (hc.it h hk j).trans (hc _ (itp_lt h hk j))
theorem get_bool {s : List Bool} {x : Nat} (hx : x < s.length) (h : ¬ s[x]? = some true) : s[x]? = some false := by
  rw [List.getElem?_eq_getElem hx] at h ⊢
  cases hb : s[x] with
  | true => rw [hb] at h; exact absurd rfl h
  | false => rfl
theorem crun_cy {p : List Nat} {s : List Bool} (h : IsPm p) (hl : s.length = p.length) (hc : Clo p s) {k c : Nat} (hk : k < p.length) (hs : ¬ s[k]? = some true) (hy : IsCy p k c) :
    ∀ f j, j + f = c → crun p (mkd p s k j) (itp p j k) = (mkd p s k c, f)
  | 0, j, e => by
    obtain rfl : j = c := by omega
    rw [hy.back]
    exact crun_seen ((mkd_get (by omega) j).2 (.inr ⟨0, hy.pos, rfl⟩))
  | f + 1, j, e => by
    have hlt := itp_lt h hk j
    have hn : (mkd p s k j)[itp p j k]? = some false := get_bool (by rw [mkd_len]; omega) fun ht => by
      rcases (mkd_get (by omega) j).1 ht with h1 | ⟨i, hi, h1⟩
      · exact hs ((hc.it h hk j).2 h1)
      · refine hy.min (j - i) (by omega) (by omega) (itp_inj h (itp_lt h hk _) hk i ?_)
        rw [← itp_add, show i + (j - i) = j by omega]
        exact h1.symm
    rw [crun_new hn]
    have ih := crun_cy h hl hc hk hs hy f (j + 1) (by omega)
    have e2 : (mkd p s k j).set (itp p j k) true = mkd p s k (j + 1) := rfl
    have e3 : p.getD (itp p j k) 0 = itp p (j + 1) k := rfl
    rw [e2, e3, ih]
theorem mkd_clo {p : List Nat} {s : List Bool} (h : IsPm p) (hl : s.length = p.length) (hc : Clo p s) {k c : Nat} (hk : k < p.length) (hy : IsCy p k c) : Clo p (mkd p s k c) := fun x hx => by
  have hp := h.lt x hx
  rw [mkd_get (by omega), mkd_get (by omega)]
  constructor
  · rintro (h1 | ⟨i, hi, rfl⟩)
    · exact .inl ((hc x hx).1 h1)
    · by_cases e : i + 1 = c
      · exact .inr ⟨0, hy.pos, by show k = itp p (i + 1) k; rw [e, hy.back]⟩
      · exact .inr ⟨i + 1, by omega, rfl⟩
  · rintro (h1 | ⟨i, hi, h1⟩)
    · exact .inl ((hc x hx).2 h1)
    · cases i with
      | zero =>
        obtain ⟨d, rfl⟩ : ∃ d, c = d + 1 := ⟨c - 1, by have := hy.pos; omega⟩
        have h2 : p.getD (itp p d k) 0 = p.getD x 0 := hy.back.trans h1
        exact .inr ⟨d, by omega, h.inj _ _ (itp_lt h hk d) hx h2⟩
      | succ i => exact .inr ⟨i, by omega, h.inj _ _ (itp_lt h hk i) hx h1⟩
theorem IsCy.of_it {p : List Nat} (h : IsPm p) {k c : Nat} (hk : k < p.length) (hy : IsCy p k c) (i : Nat) : IsCy p (itp p i k) c where
  pos := hy.pos
  back := by rw [← itp_add, Nat.add_comm, itp_add, hy.back]
  min := fun j h1 h2 h3 => hy.min j h1 h2 (itp_inj h (itp_lt h hk _) hk i (by rw [← itp_add, Nat.add_comm, itp_add]; exact h3))
/-- What is known of the numbers before k. -/
theorem cyst_ok {p : List Nat} (h : IsPm p) : ∀ k, k ≤ p.length → Clo p (cyst p k).1 ∧ (∀ c ∈ (cyst p k).2, ∃ x, x < p.length ∧ IsCy p x c) ∧ (∀ x, x < p.length → (cyst p k).1[x]? = some true → ∃ c ∈ (cyst p k).2, IsCy p x c) ∧ (∀ x, x < k → (cyst p k).1[x]? = some true)
  | 0, _ => by
    refine ⟨fun x hx => ?_, fun c hc => by simp [cyst] at hc, fun x hx ht => ?_, fun x hx => absurd hx (Nat.not_lt_zero _)⟩
    · have hp := h.lt x hx
      simp only [cyst, List.getElem?_replicate, hx, hp, if_true]
    · simp [cyst, hx] at ht
  | k + 1, hk => by
    obtain ⟨h1, h2, h3, h4⟩ := cyst_ok h k (by omega)
    have hl := cyst_len p k
    by_cases hs : (cyst p k).1[k]? = some true
    · have e : cyst p (k + 1) = cyst p k := by rw [cyst, crun_seen hs]; rfl
      rw [e]
      exact ⟨h1, h2, h3, fun x hx => by by_cases e : x = k; · subst e; exact hs
                                        · exact h4 x (by omega)⟩
    · obtain ⟨c, hy⟩ := cy_ex h (show k < p.length by omega)
      have hr := crun_cy h hl h1 (by omega) hs hy c 0 (by omega)
      have hr2 : crun p (cyst p k).1 k = (mkd p (cyst p k).1 k c, c) := hr
      have e : cyst p (k + 1) = (mkd p (cyst p k).1 k c, (cyst p k).2 ++ [c]) := by rw [cyst, hr2]; dsimp only; rw [if_pos hy.pos]
      rw [e]
      refine ⟨mkd_clo h hl h1 (by omega) hy, fun c' hc' => ?_, fun x hx ht => ?_, fun x hx => ?_⟩
      · rcases List.mem_append.1 hc' with hc' | hc'
        · exact h2 c' hc'
        · rw [List.mem_singleton] at hc'; subst hc'; exact ⟨k, by omega, hy⟩
      · rcases (mkd_get (by omega) c).1 ht with ht | ⟨i, hi, rfl⟩
        · obtain ⟨c', hc', hy'⟩ := h3 x hx ht
          exact ⟨c', List.mem_append.2 (.inl hc'), hy'⟩
        · exact ⟨c, by simp, hy.of_it h (by omega) i⟩
      · refine (mkd_get (by omega) c).2 ?_
        by_cases e : x = k
        · subst e; exact .inr ⟨0, hy.pos, rfl⟩
        · exact .inl (h4 x (by omega))
theorem cyc_cy {p : List Nat} (h : IsPm p) {c : Nat} (hc : c ∈ cyc p) : ∃ x, x < p.length ∧ IsCy p x c := (cyst_ok h p.length (Nat.le_refl _)).2.1 c hc
theorem cyc_all {p : List Nat} (h : IsPm p) {x : Nat} (hx : x < p.length) : ∃ c ∈ cyc p, IsCy p x c :=
  have hk := cyst_ok h p.length (Nat.le_refl _)
  hk.2.2.1 x hx (hk.2.2.2 x hx)
theorem cyc_dvd {p : List Nat} (h : IsPm p) {K : Nat} (hK : ∀ x, x < p.length → itp p K x = x) {c : Nat} (hc : c ∈ cyc p) : c ∣ K := by
  obtain ⟨x, hx, hy⟩ := cyc_cy h hc
  exact hy.dvd (hK x hx)
/-- The order so far. -/
def ordL (l : List Nat) : Nat := l.foldl Nat.lcm 1
theorem foldl_lcm_dvd {K : Nat} : ∀ (l : List Nat) (a : Nat), a ∣ K → (∀ c ∈ l, c ∣ K) → l.foldl Nat.lcm a ∣ K
  | [], _, h, _ => h
  | c :: l, a, h, hl => foldl_lcm_dvd l _ (Nat.lcm_dvd h (hl c (by simp))) fun d hd => hl d (by simp [hd])
theorem foldl_lcm_start : ∀ (l : List Nat) (a : Nat), a ∣ l.foldl Nat.lcm a
  | [], _ => Nat.dvd_refl _
  | c :: l, a => Nat.dvd_trans (Nat.dvd_lcm_left a c) (foldl_lcm_start l _)
theorem foldl_lcm_mem : ∀ (l : List Nat) (a : Nat) (c : Nat), c ∈ l → c ∣ l.foldl Nat.lcm a
  | d :: l, a, c, h => by
    rcases List.mem_cons.1 h with rfl | h
    · exact Nat.dvd_trans (Nat.dvd_lcm_right a c) (foldl_lcm_start l _)
    · exact foldl_lcm_mem l _ c h
theorem ordL_dvd {K : Nat} {l : List Nat} (h : ∀ c ∈ l, c ∣ K) : ordL l ∣ K := foldl_lcm_dvd l 1 (Nat.one_dvd _) h
theorem ordL_mem {l : List Nat} {c : Nat} (h : c ∈ l) : c ∣ ordL l := foldl_lcm_mem l 1 c h
theorem ordL_congr {l l' : List Nat} (h : ∀ c, c ∈ l ↔ c ∈ l') : ordL l = ordL l' :=
  Nat.dvd_antisymm (ordL_dvd fun c hc => ordL_mem ((h c).1 hc)) (ordL_dvd fun c hc => ordL_mem ((h c).2 hc))
end Go.Proofs.Ytgpjcekpmhfljaa

/- Maps that respect beginnings: how often they bring all words back. -/
namespace Go.Proofs.Ytgpjcekpmhfljaa
open Go.RowKit
set_option linter.unusedVariables false
set_option linter.unusedSimpArgs false

/-- F leads words to words of the same length, common beginnings to common beginnings, different words to different ones. -/
structure Aut (d : Nat) (F : List Nat → List Nat) (n : Nat) : Prop where
  len : ∀ u, (∀ x ∈ u, x < d) → u.length ≤ n → (F u).length = u.length
  lt : ∀ u, (∀ x ∈ u, x < d) → u.length ≤ n → ∀ y ∈ F u, y < d
  pre : ∀ u x, (∀ y ∈ u, y < d) → x < d → u.length < n → ∃ y, F (u ++ [x]) = F u ++ [y]
  inj : ∀ u v, (∀ x ∈ u, x < d) → (∀ x ∈ v, x < d) → u.length ≤ n → u.length = v.length → F u = F v → u = v
def itF (F : List Nat → List Nat) : Nat → List Nat → List Nat
  | 0, u => u
  | j + 1, u => F (itF F j u)
theorem itF_add (F : List Nat → List Nat) (i : Nat) (u : List Nat) : ∀ j, itF F (j + i) u = itF F j (itF F i u)
  | 0 => by rw [Nat.zero_add]; rfl
  | j + 1 => by rw [show j + 1 + i = (j + i) + 1 by omega]; show F _ = F _; rw [itF_add F i u j]
theorem itF_mul (F : List Nat → List Nat) (c : Nat) (u : List Nat) : ∀ j, itF F (j * c) u = itF (itF F c) j u
  | 0 => by rw [Nat.zero_mul]; rfl
  | j + 1 => by rw [Nat.succ_mul, Nat.add_comm, itF_add]; show _ = itF F c (itF (itF F c) j u); rw [itF_mul F c u j]
theorem Aut.id (d n : Nat) : Aut d (fun u => u) n := ⟨fun _ _ _ => rfl, fun _ h _ => h, fun _ x _ _ _ => ⟨x, rfl⟩, fun _ _ _ _ _ _ h => h⟩
theorem Aut.comp {d n : Nat} {F G : List Nat → List Nat} (hF : Aut d F n) (hG : Aut d G n) : Aut d (fun u => F (G u)) n where
  len := fun u h hl => by rw [hF.len _ (hG.lt u h hl) (by rw [hG.len u h hl]; exact hl), hG.len u h hl]
  lt := fun u h hl => hF.lt _ (hG.lt u h hl) (by rw [hG.len u h hl]; exact hl)
  pre := fun u x h hx hl => by
    obtain ⟨y, hy⟩ := hG.pre u x h hx hl
    have h1 : ∀ z ∈ G (u ++ [x]), z < d := hG.lt _ (fun z hz => (List.mem_append.1 hz).elim (h z) fun hz => by rw [List.mem_singleton.1 hz]; exact hx) (by simp; omega)
    rw [hy] at h1
    obtain ⟨z, hz⟩ := hF.pre (G u) y (fun a ha => h1 a (List.mem_append.2 (.inl ha))) (h1 y (by simp)) (by rw [hG.len u h (by omega)]; exact hl)
    exact ⟨z, by rw [hy, hz]⟩
  inj := fun u v hu hv hl he e => hG.inj u v hu hv hl he (hF.inj _ _ (hG.lt u hu hl) (hG.lt v hv (by omega)) (by rw [hG.len u hu hl]; exact hl) (by rw [hG.len u hu hl, hG.len v hv (by omega), he]) e)
theorem Aut.it {d n : Nat} {F : List Nat → List Nat} (h : Aut d F n) : ∀ j, Aut d (itF F j) n
  | 0 => Aut.id d n
  | j + 1 => h.comp (h.it j)
def itN (t : Nat → Nat) : Nat → Nat → Nat
  | 0, x => x
  | j + 1, x => t (itN t j x)
theorem two_back (t : Nat → Nat) (hl : ∀ x, x < 2 → t x < 2) (hi : ∀ x y, x < 2 → y < 2 → t x = t y → x = y) (x : Nat) (hx : x < 2) : itN t 2 x = x := by
  have h0 := hl 0 (by omega); have h1 := hl 1 (by omega)
  have h01 : t 0 ≠ t 1 := fun e => absurd (hi 0 1 (by omega) (by omega) e) (by decide)
  have hx' : x = 0 ∨ x = 1 := by omega
  have c : (t 0 = 0 ∧ t 1 = 1) ∨ (t 0 = 1 ∧ t 1 = 0) := by omega
  rcases c with ⟨a, b⟩ | ⟨a, b⟩ <;> rcases hx' with rfl | rfl <;> simp [itN, a, b]
theorem three_back (t : Nat → Nat) (hl : ∀ x, x < 3 → t x < 3) (hi : ∀ x y, x < 3 → y < 3 → t x = t y → x = y) (x : Nat) (hx : x < 3) : itN t 6 x = x := by
  have h0 := hl 0 (by omega); have h1 := hl 1 (by omega); have h2 := hl 2 (by omega)
  have h01 : t 0 ≠ t 1 := fun e => absurd (hi 0 1 (by omega) (by omega) e) (by decide)
  have h02 : t 0 ≠ t 2 := fun e => absurd (hi 0 2 (by omega) (by omega) e) (by decide)
  have h12 : t 1 ≠ t 2 := fun e => absurd (hi 1 2 (by omega) (by omega) e) (by decide)
  have hx' : x = 0 ∨ x = 1 ∨ x = 2 := by omega
  have c : (t 0 = 0 ∧ t 1 = 1 ∧ t 2 = 2) ∨ (t 0 = 0 ∧ t 1 = 2 ∧ t 2 = 1) ∨ (t 0 = 1 ∧ t 1 = 0 ∧ t 2 = 2) ∨ (t 0 = 1 ∧ t 1 = 2 ∧ t 2 = 0) ∨ (t 0 = 2 ∧ t 1 = 0 ∧ t 2 = 1) ∨ (t 0 = 2 ∧ t 1 = 1 ∧ t 2 = 0) := by omega
  rcases c with ⟨a, b, c⟩ | ⟨a, b, c⟩ | ⟨a, b, c⟩ | ⟨a, b, c⟩ | ⟨a, b, c⟩ | ⟨a, b, c⟩ <;> rcases hx' with rfl | rfl | rfl <;> simp [itN, a, b, c]
/-- A number of times that brings each of d letters back. -/
def bk (d : Nat) : Nat := if d = 2 then 2 else 6
theorem let_back {d : Nat} (hd : d = 2 ∨ d = 3) (t : Nat → Nat) (hl : ∀ x, x < d → t x < d) (hi : ∀ x y, x < d → y < d → t x = t y → x = y) (x : Nat) (hx : x < d) : itN t (bk d) x = x := by
  rcases hd with rfl | rfl
  · exact two_back t hl hi x hx
  · exact three_back t hl hi x hx
theorem aut_last {d n : Nat} {G : List Nat → List Nat} (hd : d = 2 ∨ d = 3) (hG : Aut d G n) (v : List Nat) (hv : ∀ y ∈ v, y < d) (hl : v.length < n) (hf : G v = v) (x : Nat) (hx : x < d) : itF G (bk d) (v ++ [x]) = v ++ [x] := by
  obtain ⟨t, ht⟩ : ∃ t : Nat → Nat, ∀ x, x < d → G (v ++ [x]) = v ++ [t x] := by
    refine ⟨fun x => (G (v ++ [x])).getD v.length 0, fun x hx => ?_⟩
    obtain ⟨y, hy⟩ := hG.pre v x hv hx hl
    rw [hf] at hy
    show G (v ++ [x]) = v ++ [(G (v ++ [x])).getD v.length 0]
    rw [hy]
    simp
  have hm : ∀ x, x < d → ∀ z ∈ v ++ [x], z < d := fun x hx z hz => (List.mem_append.1 hz).elim (hv z) fun hz => by rw [List.mem_singleton.1 hz]; exact hx
  have htl : ∀ x, x < d → t x < d := fun x hx => by
    have := hG.lt (v ++ [x]) (hm x hx) (by simp; omega)
    rw [ht x hx] at this
    exact this (t x) (by simp)
  have hti : ∀ x y, x < d → y < d → t x = t y → x = y := fun x y hx hy e => by
    have := hG.inj (v ++ [x]) (v ++ [y]) (hm x hx) (hm y hy) (by simp; omega) (by simp) (by rw [ht x hx, ht y hy, e])
    simpa using this
  have hit : ∀ j, itF G j (v ++ [x]) = v ++ [itN t j x] ∧ itN t j x < d := fun j => by
    induction j with
    | zero => exact ⟨rfl, hx⟩
    | succ j ih => exact ⟨by show G _ = _; rw [ih.1, ht _ ih.2]; rfl, htl _ ih.2⟩
  rw [(hit _).1, let_back hd t htl hti x hx]
theorem aut_back {d n : Nat} {F : List Nat → List Nat} (hd : d = 2 ∨ d = 3) (h : Aut d F n) : ∀ (k : Nat) (u : List Nat), u.length = k → k ≤ n → (∀ y ∈ u, y < d) → itF F (bk d ^ k) u = u
  | 0, u, hl, _, _ => by
    obtain rfl := List.length_eq_zero_iff.1 hl
    have h1 := (h.it (bk d ^ 0)).len [] (by simp) (by simp)
    exact List.length_eq_zero_iff.1 h1
  | k + 1, u, hl, hk, hu => by
    obtain ⟨v, x, rfl⟩ : ∃ v x, u = v ++ [x] := ⟨u.dropLast, u.getLast (by intro e; rw [e] at hl; simp at hl), (List.dropLast_concat_getLast _).symm⟩
    have hv : v.length = k := by simpa using hl
    have ih := aut_back hd h k v hv (by omega) fun y hy => hu y (List.mem_append.2 (.inl hy))
    rw [Nat.pow_succ, Nat.mul_comm, itF_mul]
    exact aut_last hd (h.it _) v (fun y hy => hu y (List.mem_append.2 (.inl hy))) (by omega) ih x (hu x (by simp))
/-- What F makes of a level, in numbers. -/
def pmF (d : Nat) (F : List Nat → List Nat) (n : Nat) : List Nat := (List.range (pw d n)).map fun k => num d (F (wrd d n k))
theorem pmF_length (d : Nat) (F : List Nat → List Nat) (n : Nat) : (pmF d F n).length = pw d n := by simp [pmF]
theorem pmF_get {d : Nat} {F : List Nat → List Nat} {n k : Nat} (hk : k < pw d n) : (pmF d F n).getD k 0 = num d (F (wrd d n k)) := by
  simp [pmF, List.getD_eq_getElem?_getD, hk]
theorem pmF_it {d n : Nat} {F : List Nat → List Nat} (hd : 0 < d) (h : Aut d F n) {k : Nat} (hk : k < pw d n) : ∀ j, itp (pmF d F n) j k = num d (itF F j (wrd d n k))
  | 0 => (num_wrd d hd n k hk).symm
  | j + 1 => by
    have ih := pmF_it hd h hk j
    have hl : (itF F j (wrd d n k)).length = n := by rw [(h.it j).len _ (wrd_lt d hd n k) (by rw [wrd_length]; exact Nat.le_refl n), wrd_length]
    have hm := (h.it j).lt _ (wrd_lt d hd n k) (by rw [wrd_length]; exact Nat.le_refl n)
    show (pmF d F n).getD (itp (pmF d F n) j k) 0 = _
    rw [ih, pmF_get (num_lt d n _ hl hm), wrd_num d hd n _ hl hm]
    rfl
theorem pmF_pm {d n : Nat} {F : List Nat → List Nat} (hd : 0 < d) (h : Aut d F n) : IsPm (pmF d F n) where
  lt := fun k hk => by
    rw [pmF_length] at hk ⊢
    rw [pmF_get hk]
    exact num_lt d n _ (by rw [h.len _ (wrd_lt d hd n k) (by rw [wrd_length]; exact Nat.le_refl n), wrd_length]) (h.lt _ (wrd_lt d hd n k) (by rw [wrd_length]; exact Nat.le_refl n))
  inj := fun i j hi hj e => by
    rw [pmF_length] at hi hj
    rw [pmF_get hi, pmF_get hj] at e
    have hn := fun k => (show (F (wrd d n k)).length = n by rw [h.len _ (wrd_lt d hd n k) (by rw [wrd_length]; exact Nat.le_refl n), wrd_length])
    have hm := fun k => h.lt _ (wrd_lt d hd n k) (by rw [wrd_length]; exact Nat.le_refl n)
    have e2 : F (wrd d n i) = F (wrd d n j) := by rw [← wrd_num d hd n _ (hn i) (hm i), ← wrd_num d hd n _ (hn j) (hm j), e]
    have e3 := h.inj _ _ (wrd_lt d hd n i) (wrd_lt d hd n j) (by rw [wrd_length]; exact Nat.le_refl n) (by rw [wrd_length, wrd_length]) e2
    rw [← num_wrd d hd n i hi, ← num_wrd d hd n j hj, e3]
theorem pmF_back {d n : Nat} {F : List Nat → List Nat} (hd : d = 2 ∨ d = 3) (h : Aut d F n) {k : Nat} (hk : k < pw d n) : itp (pmF d F n) (bk d ^ n) k = k := by
  rw [pmF_it (by omega) h hk, aut_back hd h n _ (wrd_length d n k) (Nat.le_refl n) (wrd_lt d (by omega) n k), num_wrd d (by omega) n k hk]
end Go.Proofs.Ytgpjcekpmhfljaa

/- States are maps that respect beginnings. -/
namespace Go.Proofs.Ytgpjcekpmhfljaa
open Go.RowKit
set_option linter.unusedVariables false
set_option linter.unusedSimpArgs false

theorem img_inj {m : Mach} {l s : Nat} (gd : Good m l s) : ∀ (u v : List Nat) (q : Nat), q < s → (∀ x ∈ u, x < l) → (∀ x ∈ v, x < l) → u.length = v.length → img m q u = img m q v → u = v
  | [], [], _, _, _, _, _, _ => rfl
  | [], y :: v, _, _, _, _, hl, _ => by simp at hl
  | x :: u, [], _, _, _, _, hl, _ => by simp at hl
  | x :: u, y :: v, q, hq, hu, hv, hl, e => by
    have hx := hu x (by simp)
    have hy := hv y (by simp)
    have e1 : m.ot (q * 3 + x) :: img m (m.nx (q * 3 + x)) u = m.ot (q * 3 + y) :: img m (m.nx (q * 3 + y)) v := e
    injection e1 with e2 e3
    have exy : x = y := by
      apply Classical.byContradiction
      intro hn
      rcases Nat.lt_or_gt_of_ne hn with h | h
      · exact gd.inj q hq x y h hy e2
      · exact gd.inj q hq y x h hx e2.symm
    subst exy
    rw [img_inj gd u v _ (gd.nx q x hq hx) (fun z hz => hu z (by simp [hz])) (fun z hz => hv z (by simp [hz])) (by simpa using hl) e3]
theorem aut_img {m : Mach} {l s : Nat} (gd : Good m l s) {q : Nat} (hq : q < s) (n : Nat) : Aut l (img m q) n where
  len := fun u _ _ => img_length m u q
  lt := fun u hu _ => img_lt gd u q hq hu
  pre := fun u x _ _ _ => ⟨_, img_snoc m x u q⟩
  inj := fun u v hu hv _ hl e => img_inj gd u v q hq hu hv hl e
theorem perm_pmF (m : Mach) (l q n : Nat) : perm m l q n = pmF l (img m q) n := rfl
end Go.Proofs.Ytgpjcekpmhfljaa
