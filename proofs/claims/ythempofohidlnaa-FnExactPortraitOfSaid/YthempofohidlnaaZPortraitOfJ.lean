/- What the proof of PortraitOf leans on, part 10 of 12. -/
import Derived.Test.YthempofohidlnaaZPortraitOfI
import Derived.Deep.Cut
import Derived.Deep.CutRange
/- Slices of elements of several cells that a function made itself. -/
namespace Go.Proofs.Ythempofohidlnaa
open Go.RowKit
set_option linter.unusedVariables false
set_option linter.unusedSimpArgs false

/-- The slice value v holds n elements of sz cells each: just the cells cs, in a block of its own from 'base' on. -/
def OwnN (w : World) (base e sz : Nat) (v : Value) (n : Nat) (cs : List Value) : Prop := w.ownsRow base e sz v n cs
section
variable {w w' : World} {base e sz n : Nat} {v : Value} {cs : List Value}
theorem OwnN.len (h : OwnN w base e sz v n cs) : cs.length = n * sz := h.1
theorem OwnN.nil (w : World) (base e sz : Nat) : OwnN w base e sz (.slice none 0 0) 0 [] := World.ownsRow_nil w base e sz
theorem OwnN.new (w : World) (base e sz : Nat) (hb : base ≤ w.heap.size) : OwnN (w.alloc (.cells #[] e)) base e sz (.slice (some ⟨w.heap.size, 0, none⟩) 0 0) 0 [] := by
  have := World.ownsRow_lit (base := base) (e := e) (size := sz) w #[] 0 hb (by simp [maxLen]) (by simp)
  exact this
theorem OwnN.keep (h : OwnN w base e sz v n cs) (hk : ∀ k, v.ownBlock = some k → w'.heap[k]? = w.heap[k]?) : OwnN w' base e sz v n cs := by
  refine ⟨h.1, ?_⟩
  rcases h.2 with hn | ⟨g, cap, cur, rfl, hb, hg, rest⟩
  · exact .inl hn
  · exact .inr ⟨g, cap, cur, rfl, hb, (hk g rfl).trans hg, rest⟩
theorem OwnN.lt (h : OwnN w base e sz v n cs) : ∀ k, v.ownBlock = some k → base ≤ k ∧ k < w.heap.size := World.ownsRow.lt h
theorem OwnN.mono {b' : Nat} (h : OwnN w base e sz v n cs) (hb : b' ≤ base) : OwnN w b' e sz v n cs := by
  refine ⟨h.1, ?_⟩
  rcases h.2 with hn | ⟨g, cap, cur, rfl, hg0, rest⟩
  · exact .inl hn
  · exact .inr ⟨g, cap, cur, rfl, Nat.le_trans hb hg0, rest⟩
theorem OwnN.form (h : OwnN w base e sz v n cs) : (v = .slice none 0 0 ∧ n = 0) ∨ ∃ g cap, v = .slice (some ⟨g, 0, none⟩) n cap := by
  rcases h.2 with h | ⟨g, cap, cur, rfl, _⟩
  · exact .inl h
  · exact .inr ⟨g, cap, rfl⟩
theorem OwnN.blk (h : OwnN w base e sz v n cs) (hn : 0 < n) : ∃ g cap, v = .slice (some ⟨g, 0, none⟩) n cap := by
  rcases h.form with ⟨_, h0⟩ | h
  · omega
  · exact h
theorem OwnN.cellAt {g cap : Nat} (h : OwnN w base e sz (.slice (some ⟨g, 0, none⟩) n cap) n cs) (j : Nat) (u : Value) (hu : cs[j]? = some u) : w.cell? ⟨g, j, none⟩ = some u := by
  have hj : j < n * sz := by rw [← h.len]; exact (List.getElem?_eq_some_iff.1 hu).1
  rw [World.ownsRow.cellAt h j hj]; exact hu
theorem OwnN.frozenAt {g cap : Nat} (h : OwnN w base e sz (.slice (some ⟨g, 0, none⟩) n cap) n cs) (j : Nat) : w.frozen? ⟨g, j, none⟩ = false := World.ownsRow.frozenAt h j
theorem OwnN.set {g cap : Nat} (h : OwnN w base e sz (.slice (some ⟨g, 0, none⟩) n cap) n cs) (j : Nat) (u : Value) : OwnN (w.setCell ⟨g, j, none⟩ u) base e sz (.slice (some ⟨g, 0, none⟩) n cap) n (cs.set j u) := (World.ownsRow.stored h j u).1
/-- One element's cells, as a load of it wants them. -/
theorem OwnN.range {g cap : Nat} (h : OwnN w base e sz (.slice (some ⟨g, 0, none⟩) n cap) n cs) (o : Nat) (l : List Value) (hl : ∀ j, j < l.length → cs[o + j]? = l[j]?) : w.rangeAt g o l := fun j u hu => by
  have hj := (List.getElem?_eq_some_iff.1 hu).1
  exact h.cellAt (o + j) u ((hl j hj).trans hu)
end
def Asn.ownN (base e sz : Nat) (v : Value) (n : Nat) (cs : List Value) : Asn := ⟨fun k => v.ownBlock = some k, fun w => OwnN w base e sz v n cs, fun h hk => h.keep hk, fun h k hk => (h.lt k hk).2⟩

/-- One element appended, as the walk meets it: behind its box. -/
theorem appN {P : Program} {ops : Array Oper} {rest : List Oper} {o : Oper} {a : Act} {W : World} {Q : Exit → Act → World → Prop} (t e : TypeId) (z : Value) (sz bytes : Nat)
    (ht : P.underlying t = some (.slice e)) (hinfo : (P.info? e).map (fun i => (i.zero, i.size, i.bytes)) = some (some z, sz, bytes)) (hz : z.cells.size = sz) (hsz : 0 < sz) (hb : bytes ≤ 64)
    (hgd : o.guard = none) (s x : Operand) (ho : o.op = .call { callee := .builtin .append, args := #[s, x], argTypes := #[t, t] })
    (base : Nat) (v : Value) (n : Nat) (cs : List Value) (hs : a.eval s = v) (hown : OwnN W base e sz v n cs) (hbase : base ≤ W.heap.size) (news : List Value) (hnl : news.length = sz) (hc1 : ∀ u ∈ news, u.oneCell' = true)
    (hx : a.eval x = .slice (some ⟨W.heap.size, 0, none⟩) 1 1) (hlen : n ≤ 1000000000)
    (h : ∀ g cap w', OwnN w' base e sz (.slice (some ⟨g, 0, none⟩) (n + 1) cap) (n + 1) (cs ++ news) → Below base W w' → (∀ k, k < W.heap.size → v.ownBlock ≠ some k → w'.heap[k]? = W.heap[k]?) → W.heap.size < w'.heap.size → (v.ownBlock = some g ∨ W.heap.size < g) →
      wpList P ops Q rest (a.put o.dst (.slice (some ⟨g, 0, none⟩) (n + 1) cap)) w') :
    wpList P ops Q (o :: rest) a (W.alloc (.cells news.toArray e)) := by
  obtain ⟨i, hi, hz0, hz1, hz2⟩ := info_parts hinfo
  refine wpList_plain hgd fun K hK => ?_
  refine wp_append_lies (W.alloc (.cells news.toArray e)) s x t ho base e i z sz bytes ht hi hz0 hz1 hz2 hz hsz v n cs hs (World.ownsRow.alloc hown _) ⟨W.heap.size, 0, none⟩ 1 1 news hx (by rw [hnl, Nat.one_mul])
    (fun j u hu => ?_) hc1 (by omega) (by simp only [maxLen]; omega) (Nat.le_trans (Nat.mul_le_mul_left _ hb) (by omega)) (by simp; omega) (W.heap.size + 1) (by simp) ?_
  · rw [Addr.add_mid, Nat.zero_add, cell_of_row _ W.heap.size j _ _ _ (heap_alloc_new W _)]
    simpa using hu
  · intro g cap w' h1 h2 h3 h4
    have hsz' : W.heap.size < w'.heap.size := by have := h2.size; simp at this; omega
    have hold : ∀ k, k < W.heap.size → v.ownBlock ≠ some k → w'.heap[k]? = W.heap[k]? := fun k hk hne => by
      rw [h2.block k (by simp; omega) (fun e => hne e.symm)]
      exact Below.heap_alloc W _ k hk
    exact hK _ _ (h g cap w' h1 ⟨h2.os, h2.tape, h2.output, by omega, fun k hk => hold k (by omega) (fun e => by have := (hown.lt k e).1; omega)⟩ hold hsz' (h3.imp id (fun e => by omega)))

section
variable {w w' W w0 : World} {L : List Asn} {base : Nat} {a b c d e f : Asn}
theorem St.n0 {bs t sz n : Nat} {v : Value} {cs : List Value} (h : St base w0 (Asn.ownN bs t sz v n cs :: L) w) : OwnN w bs t sz v n cs := h.g0
theorem St.n1 {bs t sz n : Nat} {v : Value} {cs : List Value} (h : St base w0 (a :: Asn.ownN bs t sz v n cs :: L) w) : OwnN w bs t sz v n cs := h.g1
theorem St.n2 {bs t sz n : Nat} {v : Value} {cs : List Value} (h : St base w0 (a :: b :: Asn.ownN bs t sz v n cs :: L) w) : OwnN w bs t sz v n cs := h.g2
theorem St.n3 {bs t sz n : Nat} {v : Value} {cs : List Value} (h : St base w0 (a :: b :: c :: Asn.ownN bs t sz v n cs :: L) w) : OwnN w bs t sz v n cs := h.g3
theorem St.n4 {bs t sz n : Nat} {v : Value} {cs : List Value} (h : St base w0 (a :: b :: c :: d :: Asn.ownN bs t sz v n cs :: L) w) : OwnN w bs t sz v n cs := h.g4
theorem St.n5 {bs t sz n : Nat} {v : Value} {cs : List Value} (h : St base w0 (a :: b :: c :: d :: e :: Asn.ownN bs t sz v n cs :: L) w) : OwnN w bs t sz v n cs := h.g5
theorem St.nilN (h : St base w0 L w) (t sz : Nat) : St base w0 (Asn.ownN base t sz (.slice none 0 0) 0 [] :: L) w := h.push (a := Asn.ownN base t sz _ 0 []) (OwnN.nil _ _ _ _) fun k hk => by cases hk
theorem St.newN (h : St base w0 L w) (t sz : Nat) : St base w0 (Asn.ownN base t sz (.slice (some ⟨w.heap.size, 0, none⟩) 0 0) 0 [] :: L) (w.alloc (.cells #[] t)) :=
  h.allocPush (a := Asn.ownN base t sz _ 0 []) _ (OwnN.new w base t sz h.le) fun k hk => by
    have : w.heap.size = k := by simpa [Asn.ownN, Value.ownBlock] using hk
    exact this.symm
theorem St.appdN {t sz n n' gn m cap : Nat} {v : Value} {cs cs' : List Value} (h : St base w0 (Asn.ownN base t sz v n cs :: L) w) (hO : OwnN w' base t sz (.slice (some ⟨gn, 0, none⟩) m cap) n' cs') (hb : Below base w w') (hold : ∀ k, k < w.heap.size → v.ownBlock ≠ some k → w'.heap[k]? = w.heap[k]?)
    (hg : v.ownBlock = some gn ∨ w.heap.size ≤ gn) : St base w0 (Asn.ownN base t sz (.slice (some ⟨gn, 0, none⟩) m cap) n' cs' :: L) w' :=
  h.turn (a' := Asn.ownN base t sz _ n' cs') hO (fun k hk => by
    have e : gn = k := by simpa [Asn.ownN, Value.ownBlock] using hk
    subst e
    exact hg) (fun k hk => ((show OwnN w base t sz v n cs from h.star.1).lt k hk).1) hb fun k hk hne => hold k hk hne
theorem St.setN {t sz gn n cap : Nat} {cs : List Value} (h : St base w0 (Asn.ownN base t sz (.slice (some ⟨gn, 0, none⟩) n cap) n cs :: L) w) (i : Nat) (u : Value) : St base w0 (Asn.ownN base t sz (.slice (some ⟨gn, 0, none⟩) n cap) n (cs.set i u) :: L) (w.setCell ⟨gn, i, none⟩ u) :=
  have hb : base ≤ gn := ((show OwnN w base t sz _ n cs from h.star.1).lt gn rfl).1
  h.turn (a' := Asn.ownN base t sz _ n (cs.set i u)) (OwnN.set h.star.1 i u) (fun k hk => .inl hk) (fun k hk => ((show OwnN w base t sz _ n cs from h.star.1).lt k hk).1) ((Below.refl _ _).setCell hb u)
    fun k _ hk => heap_setCell_other w ⟨gn, i, none⟩ k u fun e => hk (show Value.ownBlock _ = some k by rw [e]; rfl)
theorem St.callN {t sz n : Nat} {v : Value} {cs : List Value} (h : St base w0 L w) (hb : Below w.heap.size w w') (ha : OwnN w' w.heap.size t sz v n cs) : St base w0 (Asn.ownN base t sz v n cs :: L) w' :=
  h.callPush (a := Asn.ownN base t sz v n cs) hb (ha.mono h.le) fun k hk => (ha.lt k hk).1
theorem St.appNw {ops : Array Oper} {rest : List Oper} {o : Oper} {act : Act} {Q : Exit → Act → World → Prop} (t e : TypeId) (z : Value) (sz bytes : Nat)
    (ht : Try.prog.underlying t = some (.slice e)) (hinfo : (Try.prog.info? e).map (fun i => (i.zero, i.size, i.bytes)) = some (some z, sz, bytes)) (hz : z.cells.size = sz) (hsz : 0 < sz) (hb : bytes ≤ 64)
    (hgd : o.guard = none) (s x : Operand) (ho : o.op = .call { callee := .builtin .append, args := #[s, x], argTypes := #[t, t] })
    (v : Value) (n : Nat) (cs : List Value) (hs : act.eval s = v) (hS : St base w0 (Asn.ownN base e sz v n cs :: L) W) (news : List Value) (hnl : news.length = sz) (hc1 : ∀ u ∈ news, u.oneCell' = true)
    (hx : act.eval x = .slice (some ⟨W.heap.size, 0, none⟩) 1 1) (hlen : n ≤ 1000000000)
    (h : ∀ g cap w', St base w0 (Asn.ownN base e sz (.slice (some ⟨g, 0, none⟩) (n + 1) cap) (n + 1) (cs ++ news) :: L) w' → wpList Try.prog ops Q rest (act.put o.dst (.slice (some ⟨g, 0, none⟩) (n + 1) cap)) w') :
    wpList Try.prog ops Q (o :: rest) act (W.alloc (.cells news.toArray e)) := by
  refine appN t e z sz bytes ht hinfo hz hsz hb hgd s x ho base v n cs hs hS.star.1 hS.le news hnl hc1 hx hlen ?_
  intro g cap w' h1 h2 h3 h4 h5
  exact h g cap w' (hS.appdN h1 h2 h3 (h5.imp id Nat.le_of_lt))
end
end Go.Proofs.Ythempofohidlnaa

/- The reference's machines with any number of states. -/
namespace Go.Proofs.Ythempofohidlnaa
open Go.RowKit
set_option linter.unusedVariables false
set_option linter.unusedSimpArgs false

/-- An element of several cells appended, at a step of a region that draws: it lies in a box. -/
theorem St.stepN {ops : Array Oper} {o : Oper} {act : Act} {W w0 : World} {K : Act → World → Prop} {Q : Exit → Act → World → Prop} {E : Prop} {L : List Asn} {base : Nat} (t e tb : TypeId) (z : Value) (sz bytes : Nat)
    (ht : Try.prog.underlying t = some (.slice e)) (hinfo : (Try.prog.info? e).map (fun i => (i.zero, i.size, i.bytes)) = some (some z, sz, bytes)) (hz : z.cells.size = sz) (hsz : 0 < sz) (hb : bytes ≤ 64)
    (hgd : o.guard = none) (s x : Operand) (ho : o.op = .call { callee := .builtin .append, args := #[s, x], argTypes := #[t, t] })
    (v : Value) (n : Nat) (cs : List Value) (hs : act.eval s = v) {B : Nat} {news : List Value} (hS : St base w0 (Asn.ownN base e sz v n cs :: Asn.blk B news.toArray tb :: L) W) (hnl : news.length = sz) (hc1 : ∀ u ∈ news, u.oneCell' = true)
    (hx : act.eval x = .slice (some ⟨B, 0, none⟩) 1 1) (hlen : n ≤ 1000000)
    (h : ∀ g cap w', St base w0 (Asn.ownN base e sz (.slice (some ⟨g, 0, none⟩) (n + 1) cap) (n + 1) (cs ++ news) :: Asn.blk B news.toArray tb :: L) w' → K (act.put o.dst (.slice (some ⟨g, 0, none⟩) (n + 1) cap)) w') :
    if Region.wanted o (yielded ops act.tmps) = true then Oper.wp Try.prog o act W K Q else E := by
  obtain ⟨i, hi, hz0, hz1, hz2⟩ := info_parts hinfo
  have hw : Region.wanted o (yielded ops act.tmps) = true := by simp [Region.wanted, hgd]
  rw [if_pos hw]
  have hown : OwnN W base e sz v n cs := hS.star.1
  refine wp_append_lies W s x t ho base e i z sz bytes ht hi hz0 hz1 hz2 hz hsz v n cs hs hown ⟨B, 0, none⟩ 1 1 news hx (by rw [hnl, Nat.one_mul])
    (fun j u hu => ?_) hc1 (by omega) (by simp only [maxLen]; omega) (Nat.le_trans (Nat.mul_le_mul_left _ hb) (by omega)) hS.le _ rfl ?_
  · rw [Addr.add_mid, Nat.zero_add, cell_of_row W B j _ _ _ hS.star.2.2.1]
    simpa using hu
  · intro g cap w' h1 h2 h3 h4
    have hold : ∀ k, k < W.heap.size → v.ownBlock ≠ some k → w'.heap[k]? = W.heap[k]? := fun k hk hne => h2.block k hk (fun e => hne e.symm)
    exact h g cap w' (hS.appdN h1 ⟨h2.os, h2.tape, h2.output, h2.size, fun k hk => hold k (by have := hS.le; omega) (fun e => by have := (hown.lt k e).1; omega)⟩ hold (h3.imp id (fun e => Nat.le_of_eq e.symm)))

theorem OwnN.oneCell {w : World} {b e sz n : Nat} {v : Value} {cs : List Value} (h : OwnN w b e sz v n cs) : v.oneCell' = true := by
  rcases h.2 with ⟨rfl, _⟩ | ⟨g, cap, cur, rfl, _⟩ <;> rfl
/-- A struct or an array in a block of its own is handed back. -/
theorem ret_blk {P : Program} {fn : Func} {R : Ending → World → Prop} {a : Act} {w : World} {p ty : Nat} (h : fn.results = #[.cell p ty]) {g t : Nat} {cs : Array Value} {d : TypeDesc}
    (hp : a.tmps.getD p undef = .pointer (some ⟨g, 0, none⟩)) (hb : w.heap[g]? = some (.cells cs t (0, 0))) (hu : P.underlying ty = some d) (hd : (match d with | .struct _ | .array _ _ => true | _ => false) = true)
    (hi : (P.info? ty).map (·.size) = some cs.size) (hdf : a.defers = []) (hR : R (.returned (.agg cs)) w) : bodyPost P fn R .ret a w :=
  bodyPost_ret (results_cell_row h a.tmps w g t _ _ d hp hb hu hd hi) hdf hR

/-- The rows of a function as cells, three a row. -/
def rcs (k : IntKind) (f : Nat → Nat → Nat) (L n : Nat) : List Value := (List.range (n * 3)).map fun p => .int k ((if p % 3 < L then f (p / 3) (p % 3) else 0 : Nat) : Int)
def rc1 (k : IntKind) (f : Nat → Nat → Nat) (L q : Nat) : List Value := (List.range 3).map fun x => .int k ((if x < L then f q x else 0 : Nat) : Int)
theorem rcs_length (k : IntKind) (f : Nat → Nat → Nat) (L n : Nat) : (rcs k f L n).length = n * 3 := by simp [rcs]
theorem rc1_one (k : IntKind) (f : Nat → Nat → Nat) (L q : Nat) : ∀ u ∈ rc1 k f L q, u.oneCell' = true := by
  intro u hu
  obtain ⟨x, _, rfl⟩ := List.mem_map.1 hu
  rfl
theorem rc1_lit (k : IntKind) (f : Nat → Nat → Nat) (L q : Nat) : ∃ a b c : Nat, rc1 k f L q = [.int k (a : Int), .int k (b : Int), .int k (c : Int)] := ⟨_, _, _, rfl⟩
theorem rc1_get (k : IntKind) (f : Nat → Nat → Nat) (L q x : Nat) (hx : x < 3) : (rc1 k f L q)[x]? = some (.int k ((if x < L then f q x else 0 : Nat) : Int)) := by simp [rc1, hx]
theorem rcs_snoc (k : IntKind) (f : Nat → Nat → Nat) (L n : Nat) : rcs k f L (n + 1) = rcs k f L n ++ rc1 k f L n := by
  unfold rcs rc1
  rw [show (n + 1) * 3 = n * 3 + 3 by omega, List.range_add, List.map_append, List.map_map]
  congr 1
  apply List.map_congr_left
  intro x hx
  have hx3 := List.mem_range.1 hx
  simp only [Function.comp]
  rw [show (n * 3 + x) % 3 = x by omega, show (n * 3 + x) / 3 = n by omega]
theorem rcs_get (k : IntKind) (f : Nat → Nat → Nat) (L n q x : Nat) (hq : q < n) (hx : x < 3) : (rcs k f L n)[q * 3 + x]? = some (.int k ((if x < L then f q x else 0 : Nat) : Int)) := by
  unfold rcs
  rw [List.getElem?_map, List.getElem?_range (by omega), Option.map_some, show (q * 3 + x) % 3 = x by omega, show (q * 3 + x) / 3 = q by omega]
theorem rcs_row (k : IntKind) (f : Nat → Nat → Nat) (L n q : Nat) (hq : q < n) : ∀ j, j < (rc1 k f L q).length → (rcs k f L n)[q * 3 + j]? = (rc1 k f L q)[j]? := fun j hj => by
  have hj3 : j < 3 := by simpa [rc1] using hj
  rw [rcs_get k f L n q j hq hj3, rc1_get k f L q j hj3]
theorem rcs_in (k : IntKind) (f : Nat → Nat → Nat) (L n q x : Nat) (hq : q < n) (hx : x < L) (hL : L ≤ 3) : (rcs k f L n)[q * 3 + x]? = some (.int k (f q x : Nat)) := by
  rw [rcs_get k f L n q x hq (by omega), if_pos hx]

theorem info_r3 : (Try.prog.info? 138).map (fun i => (i.zero, i.size, i.bytes)) = some (some (.agg #[.int .i64 0, .int .i64 0, .int .i64 0]), 3, 24) := by kernel_rfl
theorem info_b3 : (Try.prog.info? 29).map (fun i => (i.zero, i.size, i.bytes)) = some (some (.agg #[.int .u8 0, .int .u8 0, .int .u8 0]), 3, 3) := by kernel_rfl
theorem sz_r3 : (Try.prog.info? 138).map (·.size) = some 3 := by kernel_rfl
theorem sz_large : (Try.prog.info? 137).map (·.size) = some 3 := by kernel_rfl

/-- A large machine as a value: what it holds. -/
def LG (w : World) (base : Nat) (vN vO : Value) (T : Tab) : Prop :=
  OwnN w base 138 3 vN T.n (rcs .i64 T.nx T.L T.n) ∧ OwnN w base 29 3 vO T.n (rcs .u8 T.ot T.L T.n)
theorem LG.below {w w' : World} {base : Nat} {vN vO : Value} {T : Tab} (h : LG w base vN vO T) (hb : Below w.heap.size w w') : LG w' base vN vO T :=
  ⟨h.1.keep fun k hk => hb.block k (h.1.lt k hk).2, h.2.keep fun k hk => hb.block k (h.2.lt k hk).2⟩

/-- A row that is filled. -/
def fil3 (f : Nat → Nat → Nat) (q x : Nat) : Array Value := #[.int .i64 ((if 0 < x then f q 0 else 0 : Nat) : Int), .int .i64 ((if 1 < x then f q 1 else 0 : Nat) : Int), .int .i64 ((if 2 < x then f q 2 else 0 : Nat) : Int)]
theorem fil3_set (f : Nat → Nat → Nat) (q x : Nat) (hx : x < 3) : (fil3 f q x).setIfInBounds x (.int .i64 (f q x : Nat)) = fil3 f q (x + 1) := by
  have : x = 0 ∨ x = 1 ∨ x = 2 := by omega
  rcases this with rfl | rfl | rfl <;> simp [fil3, Array.setIfInBounds]
theorem fil3_all (f : Nat → Nat → Nat) (q L : Nat) : fil3 f q L = (rc1 .i64 f L q).toArray := rfl
theorem fil3_get (f : Nat → Nat → Nat) (q x j : Nat) (hj : j < 3) : ∃ u, (fil3 f q x)[j]? = some u := ⟨_, Array.getElem?_eq_getElem (by simpa [fil3] using hj)⟩

theorem mf_row {m : Mach} {l s : Nat} (g : Good m l s) (q : Nat) (hq : q < s) : ∀ j, j < 3 → mf m (50 + q * 3 + j) = .int .u8 ((if j < l then (tabOf m l s).ot q j else 0 : Nat) : Int) := fun j hj => by
  rw [mf_ot]
  by_cases h : j < l
  · rw [if_pos h]; rfl
  · rw [if_neg h, (g.z q j (by have := g.s16; omega) hj (fun hh => h hh.2)).2]

end Go.Proofs.Ythempofohidlnaa

/- The reference's least equal states of a large machine. -/
namespace Go.Proofs.Ythempofohidlnaa
open Go.RowKit
set_option linter.unusedVariables false
set_option linter.unusedSimpArgs false

/-- Equal rows of bytes. -/
theorem rc1_iff (f : Nat → Nat → Nat) (L a b : Nat) (hL : L ≤ 3) : rc1 .u8 f L a = rc1 .u8 f L b ↔ (alls L fun x => f a x == f b x) = true := by
  rw [alls_iff]
  constructor
  · intro h x hx
    have h1 := rc1_get .u8 f L a x (by omega)
    rw [h, rc1_get .u8 f L b x (by omega), if_pos hx, if_pos hx] at h1
    simp at h1; simp; omega
  · intro h
    unfold rc1
    apply List.map_congr_left
    intro x _
    by_cases hx : x < L
    · have := h x hx
      simp at this
      rw [if_pos hx, if_pos hx, this]
    · rw [if_neg hx, if_neg hx]
theorem lit3_iff {a b c a' b' c' : Nat} : ([Value.int .u8 (a : Int), .int .u8 (b : Int), .int .u8 (c : Int)] = [.int .u8 (a' : Int), .int .u8 (b' : Int), .int .u8 (c' : Int)]) ↔ a = a' ∧ b = b' ∧ c = c' := by
  constructor
  · intro h; simp at h; omega
  · rintro ⟨rfl, rfl, rfl⟩; rfl
theorem rc1_lit256 (f : Nat → Nat → Nat) (L q : Nat) (h : ∀ x, x < L → f q x < 256) : ∃ a b c : Nat, rc1 .u8 f L q = [.int .u8 (a : Int), .int .u8 (b : Int), .int .u8 (c : Int)] ∧ a < 256 ∧ b < 256 ∧ c < 256 := by
  have hx : ∀ x, (if x < L then f q x else 0) < 256 := fun x => by
    by_cases hx : x < L
    · rw [if_pos hx]; exact h x hx
    · rw [if_neg hx]; omega
  exact ⟨_, _, _, rfl, hx 0, hx 1, hx 2⟩
theorem clsL_stable {T : Tab} {k : Nat} (h : Stable T k) : clsL T (k + 1) T.n = clsL T k T.n := by
  unfold clsL
  apply List.map_congr_left
  intro q hq
  exact h q (List.mem_range.1 hq)
/-- A list filled up to q, with x at q. -/
theorem filL_at (f : Nat → Nat) (q n x : Nat) (hq : q < n) : ∀ j, j < n → ((nats (filL f q n)).set q (.int .i64 (x : Int)))[j]? = some (.int .i64 ((if j = q then x else if j < q then f j else 0 : Nat) : Int)) := fun j hj => by
  rw [List.getElem?_set]
  by_cases e : q = j
  · subst e; rw [if_pos rfl, if_pos (by rw [nats_length, filL_length]; exact hj), if_pos rfl]
  · rw [if_neg e, if_neg (Ne.symm e)]
    simp [nats, filL, hj]
theorem filL_done (f : Nat → Nat) (q n x : Nat) (h : x = f q) : (nats (filL f q n)).set q (.int .i64 (x : Int)) = nats (filL f (q + 1) n) := by subst h; exact filL_set f q n

set_option maxHeartbeats 8000000 in
set_option maxRecDepth 100000 in
theorem l07Classes_any (w : World) (base : Nat) (vN vO : Value) (T : Tab) (hT : T.Ok) (hL : T.L ≤ 3) (hL0 : 0 < T.L) (hn : T.n < 100000) (hot : ∀ q x, q < T.n → x < T.L → T.ot q x < 256) (hG : LG w base vN vO T) :
    Calls Try.prog 152 #[.agg #[.int .i64 T.L, vN, vO]] w fun e w' => ∃ v, e = .returned v ∧ Own w' w.heap.size 2 v (nats ((List.range T.n).map (fix T))) ∧ Below w.heap.size w w' := by
  have hpos := hT.pos
  obtain ⟨gN, cN, rfl⟩ := hG.1.blk hpos
  obtain ⟨gO, cO, rfl⟩ := hG.2.blk hpos
  have hGW := hid (fun W (hb : Below w.heap.size w W) => hG.below hb)
  have hcN := hid (fun W (hb : Below w.heap.size w W) q x (hq : q < T.n) (hx : x < T.L) => (hG.below hb).1.cellAt (q * 3 + x) _ (rcs_in .i64 T.nx T.L T.n q x hq hx hL))
  have hrO := hid (fun W (hb : Below w.heap.size w W) q (hq : q < T.n) => (hG.below hb).2.range (q * 3) (rc1 .u8 T.ot T.L q) (rcs_row .u8 T.ot T.L T.n q hq))
  have hrw := hid (fun a b => rc1_iff T.ot T.L a b hL)
  have hS := hid ((St.start w).newBlk #[.int .i64 T.L, .slice (some ⟨gN, 0, none⟩) T.n cN, .slice (some ⟨gO, 0, none⟩) T.n cO] 137)
  have hmk := fun W : World => run_make_row' (P := Try.prog) 22 2 (.int .i64 0) 8 Try.underlying22 info_i64 rfl .i64 .i64 T.n (by omega) (by omega) W
  have hmc := hid (toList_madeCells_one (.int .i64 0) T.n)
  generalize madeCells #[.int .i64 0] T.n = mc at *
  have hmcs := hid (show mc.size = T.n by rw [← Array.length_toList, hmc.out, List.length_replicate])
  have hcb := hid (fun k => cnt1_le T (k + 1) T.n)
  have hcp := hid (fun k => cnt1_pos T k T.n hpos)
  have hst := hid (fun k => stable_or T k)
  have hsc := hid (fun k (h : Stable T (k + 1)) => stable_cnt h)
  have hfx := hid (fun k hk h => clsL_fix hT (k := k) hk h)
  have hnx := hid (fun q x (hq : q < T.n) (hx : x < T.L) => hT.nx q x hq hx)
  have hc0 := hid (show clsL T 0 T.n = filL (cls T 0) 0 T.n by unfold clsL filL; apply List.map_congr_left; intro j _; simp [cls])
  have hlk := hid (fun k r q => like_iff T (cls T k) r q)
  have hci := hid (fun k r q => cls_iff T k r q)
  have hcle := hid (fun k q => cls_le T k q)
  have hcs' := hid (fun k q (h : ∀ j, j < q → like T (cls T k) j q = false) => (show cls T (k + 1) q = q from by rw [cls_succ]; exact fst_eq _ _ _ (Nat.le_refl _) h (fun h' => absurd h' (Nat.lt_irrefl _))))
  have hlit := hid (fun q (hq : q < T.n) => rc1_lit256 T.ot T.L q (fun x hx => hot q x hq hx))
  have hcst := hid (fun k (h : Stable T k) => clsL_stable h)
  have hgd := guard_b3
  have hall := hid (fun L' p => alls_iff L' p)
  replace hT := hid hT
  clear hG
  generalize hnn : T.n = n at *
  replace hnn := hid hnn
  generalize hLL : T.L = L at *
  replace hLL := hid hLL
  have hcl : w.heap.size < w.heap.size + 1 := Nat.lt_succ_self _
  have e0 : (w.alloc (.cells #[.int .i64 L, .slice (some ⟨gN, 0, none⟩) n cN, .slice (some ⟨gO, 0, none⟩) n cO] 137)).cell? ⟨w.heap.size, 1, none⟩ = some (.slice (some ⟨gN, 0, none⟩) n cN) := cell_of_row _ _ 1 _ _ _ hS.out.k0
  go_enter Try.func152, Try.ntmps152
  go_wp2
  have yS := hid (hS.out.newArr mc n hmcs.out 2 (by omega))
  rw [hmc.out, filL_zero (cls T 0) n, ← hc0.out, heap_alloc_size] at yS
  clear hS e0
  generalize (w.alloc (.cells #[.int .i64 L, .slice (some ⟨gN, 0, none⟩) n cN, .slice (some ⟨gO, 0, none⟩) n cO] 137)).alloc (.cells mc 2) = w1 at *
  go_loopg [4, 5] n (fun gk v ks wr => ∃ k K : Nat, ks = .int .i64 K ∧ k ≤ K ∧ (k = 0 → K = 0) ∧ (k ≠ 0 → K = cnt1 T k n) ∧ gk = n - k ∧ St w.heap.size w [Asn.own w.heap.size 2 v (nats (clsL T k n)), Asn.blk w.heap.size #[.int .i64 L, .slice (some ⟨gN, 0, none⟩) n cN, .slice (some ⟨gO, 0, none⟩) n cO] 137] wr)
  case atStart => exact ⟨0, 0, rfl, Nat.le_refl _, fun _ => rfl, fun h => absurd rfl h, rfl, yS.out⟩
  case round =>
    obtain ⟨k, K, rfl, hkK, hK0, hK1, rfl, rS⟩ := hrel
    clear yS
    replace hK0 := hid hK0; replace hK1 := hid hK1
    obtain ⟨g1, c1, rfl, _, _⟩ := rS.o0.blk (fun e => by have h1 := congrArg List.length e; rw [nats_length, clsL_length, List.length_nil] at h1; omega)
    rw [nats_length, clsL_length] at rS ⊢
    have yS := hid (rS.newArr mc n hmcs.out 2 (by omega))
    rw [hmc.out, filL_zero (cls T (k + 1)) n] at yS
    clear rS
    go_wp2
    generalize wr.alloc (.cells mc 2) = wa at *
    generalize wr.heap.size = g2 at *
    go_loopw [7, 8] (fun ct i wr => ∃ q : Nat, q ≤ n ∧ i = .int .i64 q ∧ ct = .int .i64 (cnt1 T (k + 1) q : Nat) ∧ St w.heap.size w [Asn.own w.heap.size 2 (.slice (some ⟨g2, 0, none⟩) n n) (nats (filL (cls T (k + 1)) q n)), Asn.own w.heap.size 2 (.slice (some ⟨g1, 0, none⟩) n c1) (nats (clsL T k n)), Asn.blk w.heap.size #[.int .i64 L, .slice (some ⟨gN, 0, none⟩) n cN, .slice (some ⟨gO, 0, none⟩) n cO] 137] wr) (fun _ i _ => n - (intOf i).toNat)
    case atStart => exact ⟨0, Nat.zero_le _, rfl, rfl, yS.out⟩
    case round =>
      obtain ⟨q, hq, rfl, rfl, zS⟩ := hrel
      clear yS
      replace zS := hid zS
      by_cases hqn : q < n
      · have dq : decide ((q : Int) < (n : Int)) = true := decide_eq_true (by omega)
        obtain ⟨u, hu⟩ := filL_get (cls T (k + 1)) q n q hqn
        have co := Own.cellAt zS.out.o0 q u hu
        have fo := Own.frozenAt zS.out.o0 (by rw [nats_length, filL_length]) q
        have tS := hid (zS.out.setOwn (by rw [nats_length, filL_length]) q (.int .i64 (q : Int)) hqn)
        have hct := cnt1_le T (k + 1) q
        have hcs := hid (show cnt1 T (k + 1) (q + 1) = cnt1 T (k + 1) q + if cls T (k + 1) q = q then 1 else 0 from rfl)
        clear hu zS
        generalize cnt1 T (k + 1) q = ct at *
        go_upto_region 8 with (fail)
        clear co fo
        generalize wr.setCell ⟨g2, q, none⟩ (.int .i64 (q : Int)) = wb at *
        go_wp2
        go_loopw [9] (fun i wr => ∃ r : Nat, r ≤ q ∧ i = .int .i64 r ∧ Hid (∀ j, j < r → like T (cls T k) j q = false) ∧ St w.heap.size w [Asn.own w.heap.size 2 (.slice (some ⟨g2, 0, none⟩) n n) ((nats (filL (cls T (k + 1)) q n)).set q (.int .i64 (q : Int))), Asn.own w.heap.size 2 (.slice (some ⟨g1, 0, none⟩) n c1) (nats (clsL T k n)), Asn.blk w.heap.size #[.int .i64 L, .slice (some ⟨gN, 0, none⟩) n cN, .slice (some ⟨gO, 0, none⟩) n cO] 137] wr) (fun i _ => q - (intOf i).toNat)
        case atStart => exact ⟨0, Nat.zero_le _, rfl, fun j hj => absurd hj (by omega), tS.out⟩
        case round =>
          obtain ⟨r, hr, rfl, hno, uS⟩ := hrel
          clear tS
          replace uS := hid uS
          have hat := hid (filL_at (cls T (k + 1)) q n q hqn)
          by_cases hrq : r < q
          · have hrn : r < n := by omega
            have e1 := Own.cellAt uS.out.o1 q _ (clsL_get T k n q hqn)
            have e2 := Own.cellAt uS.out.o1 r _ (clsL_get T k n r hrn)
            have e3 : wr.cell? ⟨w.heap.size, 2, none⟩ = some (.slice (some ⟨gO, 0, none⟩) n cO) := cell_of_row _ _ 2 _ _ _ uS.out.k2
            have rq := hid (hrO.out wr uS.out.bel q hqn)
            have rr := hid (hrO.out wr uS.out.bel r hrn)
            have hoe := hid (hrw.out r q)
            have hl := hid (hlk.out k r q)
            obtain ⟨a0, a1, a2, hra, ha⟩ := hlit.out q hqn
            obtain ⟨b0, b1, b2, hrb, hb⟩ := hlit.out r hrn
            rw [hra, hrb, lit3_iff] at hoe
            rw [hra] at rq
            rw [hrb] at rr
            clear hra hrb
            have ea0 : wr.cell? ⟨gO, q * 3, none⟩ = some (.int .u8 (a0 : Int)) := rq.out 0 _ rfl
            have ea1 : wr.cell? ⟨gO, q * 3 + 1, none⟩ = some (.int .u8 (a1 : Int)) := rq.out 1 _ rfl
            have ea2 : wr.cell? ⟨gO, q * 3 + 2, none⟩ = some (.int .u8 (a2 : Int)) := rq.out 2 _ rfl
            have eb0 : wr.cell? ⟨gO, r * 3, none⟩ = some (.int .u8 (b0 : Int)) := rr.out 0 _ rfl
            have eb1 : wr.cell? ⟨gO, r * 3 + 1, none⟩ = some (.int .u8 (b1 : Int)) := rr.out 1 _ rfl
            have eb2 : wr.cell? ⟨gO, r * 3 + 2, none⟩ = some (.int .u8 (b2 : Int)) := rr.out 2 _ rfl
            generalize hcq : cls T k q = cq at *
            generalize hcr : cls T k r = cr at *
            replace hcq := hid hcq; replace hcr := hid hcr
            have hnext : Hid (like T (cls T k) r q = false → ∀ j, j < r + 1 → like T (cls T k) j q = false) := fun h j hj => by
              by_cases e : j = r
              · subst e; exact h
              · exact hno.out j (by omega)
            have dr : decide ((r : Int) < (q : Int)) = true := decide_eq_true (by omega)
            by_cases hcc : cq = cr
            · subst hcc
              have hbz : ((cq : Int) == (cq : Int)) = true := by simp
              obtain ⟨ro, hro⟩ : ∃ ro : Bool, Hid (Tells ro (a0 = b0 ∧ a1 = b1 ∧ a2 = b2)) := ⟨decide _, decide_eq_true_iff⟩
              have heq := fun W : World => eq_b3 W a0 a1 a2 b0 b1 b2 ha hb ro hro.out
              clear ha hb
              go_upto_region 11 with (fail)
              go_quiet (fail)
              clear ea0 ea1 ea2 eb0 eb1 eb2 e1 e2 e3 heq rq rr hbz
              replace uS := hid (uS.out.drewN nq)
              generalize wr.drewN nq = wc at *
              go_wp2
              go_loopw [10, 11] (fun sm i wr => ∃ x : Nat, x ≤ L ∧ i = .int .i64 x ∧ sm = .bool (ro && alls x fun y => cls T k (T.nx q y) == cls T k (T.nx r y)) ∧ St w.heap.size w [Asn.own w.heap.size 2 (.slice (some ⟨g2, 0, none⟩) n n) ((nats (filL (cls T (k + 1)) q n)).set q (.int .i64 (q : Int))), Asn.own w.heap.size 2 (.slice (some ⟨g1, 0, none⟩) n c1) (nats (clsL T k n)), Asn.blk w.heap.size #[.int .i64 L, .slice (some ⟨gN, 0, none⟩) n cN, .slice (some ⟨gO, 0, none⟩) n cO] 137] wr) (fun _ i _ => L - (intOf i).toNat)
              case atStart => exact ⟨0, Nat.zero_le _, rfl, by simp [alls], uS.out⟩
              case round =>
                obtain ⟨x, hx, rfl, rfl, vS⟩ := hrel
                clear uS
                replace vS := hid vS
                have e0 : wr.cell? ⟨w.heap.size, 0, none⟩ = some (.int .i64 (L : Int)) := cell_of_row _ _ 0 _ _ _ vS.out.k2
                have hsx := hid (alls_succ x fun y => cls T k (T.nx q y) == cls T k (T.nx r y))
                cases hsv : (ro && alls x fun y => cls T k (T.nx q y) == cls T k (T.nx r y)) with
                | false =>
                  have hlf := hid (hnext.out (by
                    cases hlv : like T (cls T k) r q with
                    | false => rfl
                    | true =>
                      obtain ⟨_, ho1, hx1⟩ := hl.out.1 hlv
                      have h1 : ro = true := hro.out.out.2 (by
                        obtain ⟨u1, u2, u3⟩ := hoe.out.2 ((hall.out _ _).2 fun x hx => by simpa using ho1 x hx)
                        exact ⟨u1.symm, u2.symm, u3.symm⟩)
                      have h2 : (alls x fun y => cls T k (T.nx q y) == cls T k (T.nx r y)) = true := (hall.out _ _).2 fun y hy => by simpa using (hx1 y (by omega)).symm
                      rw [h1, h2] at hsv
                      cases hsv))
                  clear hsv
                  by_cases hxL : x < L
                  · have dx : decide ((x : Int) < (L : Int)) = true := decide_eq_true (by omega)
                    go_wp2
                    go_roundw
                    case rel => exact ⟨r + 1, by omega, by go_num, hlf, vS.out⟩
                    case measure => simp [intOf]; omega
                  · have dx : decide ((x : Int) < (L : Int)) = false := decide_eq_false (by omega)
                    go_wp2
                    go_roundw
                    case rel => exact ⟨r + 1, by omega, by go_num, hlf, vS.out⟩
                    case measure => simp [intOf]; omega
                | true =>
                  rw [Bool.and_eq_true] at hsv
                  have hro1 := hsv.1
                  subst hro1
                  by_cases hxL : x < L
                  · have dx : decide ((x : Int) < (L : Int)) = true := decide_eq_true (by omega)
                    rw [hsv.2] at hsx
                    clear hsv
                    have e1 : wr.cell? ⟨w.heap.size, 1, none⟩ = some (.slice (some ⟨gN, 0, none⟩) n cN) := cell_of_row _ _ 1 _ _ _ vS.out.k2
                    have e2 := hcN.out wr vS.out.bel q x hqn hxL
                    have e3 := hcN.out wr vS.out.bel r x hrn hxL
                    have h1 := hnx.out q x hqn hxL
                    have h2 := hnx.out r x hrn hxL
                    have e4 := Own.cellAt vS.out.o1 _ _ (clsL_get T k n _ h1)
                    have e5 := Own.cellAt vS.out.o1 _ _ (clsL_get T k n _ h2)
                    generalize T.nx q x = a at *
                    generalize T.nx r x = b at *
                    generalize cls T k a = ca at *
                    generalize cls T k b = cb at *
                    have hbeq : (((ca : Nat) : Int) == ((cb : Nat) : Int)) = (ca == cb) := by
                      by_cases e : ca = cb
                      · subst e; simp
                      · have h1 : (ca == cb) = false := by simpa using e
                        rw [h1]
                        have : ((ca : Nat) : Int) ≠ ((cb : Nat) : Int) := by omega
                        simpa using this
                    replace hbeq := hid hbeq
                    have x3 : (x : Int) < 3 := by omega
                    have x0 : (0 : Int) ≤ (x : Int) := Int.natCast_nonneg _
                    go_upto_region 15 with (fail)
                    go_quiet (fail)
                    go_wp2
                    go_roundw
                    case rel => exact ⟨x + 1, by omega, by go_num, by rw [hsx.out]; simp; first | exact hbeq.out | (rw [← hbeq.out]; simp), vS.out.drewN _⟩
                    case measure => simp [intOf]; omega
                  · obtain rfl : L = x := by omega
                    have dx : decide ((L : Int) < (L : Int)) = false := decide_eq_false (by omega)
                    have hlv := hid (show like T (cls T k) r q = true from hl.out.2 ⟨by first | trivial | rfl, fun x hx => by
                        obtain ⟨u1, u2, u3⟩ := hro.out.out.1 rfl
                        have := (hall.out _ _).1 (hoe.out.1 ⟨u1.symm, u2.symm, u3.symm⟩) x hx
                        simpa using this, fun x hx => by have := (hall.out _ _).1 hsv.2 x hx; simpa using (by simpa using this : cls T k (T.nx q x) = cls T k (T.nx r x)).symm⟩)
                    clear hsv
                    have hce := hid ((hci.out k r q).2 hlv.out)
                    have hrr := hid (hcle.out (k + 1) r)
                    have e1 := Own.cellAt vS.out.o0 r _ (hat.out r hrn)
                    rw [if_neg (show ¬ r = q by omega), if_pos hrq] at e1
                    have e2 := Own.cellAt vS.out.o0 q _ (hat.out q hqn)
                    rw [if_pos rfl] at e2
                    have fo := Own.frozenAt vS.out.o0 (by rw [List.length_set, nats_length, filL_length]) q
                    have hdn := hid (filL_done (cls T (k + 1)) q n (cls T (k + 1) r) hce.out)
                    have hsk := hid (show cls T (k + 1) q ≠ q from by have h1 := hce.out; have h2 := hrr.out; omega)
                    have hcrr : cls T (k + 1) r < q := by have h2 := hrr.out; omega
                    generalize hcv : cls T (k + 1) r = cv at *
                    replace hcv := hid hcv
                    have vS2 := hid (vS.out.setOwn (by rw [List.length_set, nats_length, filL_length]) q (.int .i64 (cv : Int)) hqn)
                    rw [List.set_set, hdn.out] at vS2
                    rw [if_neg hsk.out] at hcs
                    have hne : ((cv : Int) == (q : Int)) = false := by simp; omega
                    go_wp2
                    go_roundw
                    case rel => exact ⟨q + 1, by omega, by go_num, by rw [hcs.out]; rfl, vS2.out⟩
                    case measure => simp [intOf]; omega
            · have hcz : ((cq : Int) == (cr : Int)) = false := by simp; omega
              have hlf := hid (hnext.out (by
                cases hlv : like T (cls T k) r q with
                | false => rfl
                | true => exact absurd (hl.out.1 hlv).1.symm hcc))
              have e0 : ∀ d, (wr.drewN d).cell? ⟨w.heap.size, 0, none⟩ = some (.int .i64 (L : Int)) := fun d => cell_of_row _ _ 0 _ _ _ uS.out.k2
              replace e0 := hid e0
              go_upto_region 11 with (fail)
              go_quiet (fail)
              have e00 := e0.out nq
              clear e1 e2 e3 ea0 ea1 ea2 eb0 eb1 eb2 ha hb rq rr hcc
              replace uS := hid (uS.out.drewN nq)
              generalize wr.drewN nq = wc at *
              go_wp2
              go_loopw [10, 11] (fun sm i wr => i = .int .i64 0 ∧ sm = .bool false ∧ wr = wc) (fun _ _ _ => 0)
              case atStart => exact ⟨rfl, rfl, rfl⟩
              case round =>
                obtain ⟨rfl, rfl, rfl⟩ := hrel
                go_wp2
                go_roundw
                case rel => exact ⟨r + 1, by omega, by go_num, hlf, uS.out⟩
                case measure => simp [intOf]; omega
          · obtain rfl : q = r := by omega
            have dr : decide ((q : Int) < (q : Int)) = false := decide_eq_false (by omega)
            have hqq := hid (hcs'.out k q hno.out)
            have e2 := Own.cellAt uS.out.o0 q _ (hat.out q hqn)
            rw [if_pos rfl] at e2
            have hdn := hid (filL_done (cls T (k + 1)) q n q hqq.out.symm)
            rw [hdn.out] at uS
            rw [if_pos hqq.out] at hcs
            have hne : ((q : Int) == (q : Int)) = true := by simp
            go_wp2
            go_roundw
            case rel => exact ⟨q + 1, by omega, by go_num, by rw [hcs.out]; go_num, uS.out⟩
            case measure => simp [intOf]; omega
      · obtain rfl : n = q := by omega
        have dq : decide ((n : Int) < (n : Int)) = false := decide_eq_false (by omega)
        have hS2 := zS.out
        rw [← hnn.out, filL_all, hnn.out] at hS2
        replace hS2 := hid hS2
        clear zS
        have hcn1 := hcb.out k
        have hcn2 := hcp.out k
        by_cases hcK : cnt1 T (k + 1) n = K
        · have hk0 : k ≠ 0 := fun e => by have := hK0.out e; omega
          have hKk := hK1.out hk0
          have hstab := hid (show Stable T k from by
            obtain ⟨k', rfl⟩ : ∃ k', k = k' + 1 := ⟨k - 1, by omega⟩
            apply Classical.byContradiction
            intro h
            have h1 := hst.out k' h
            have h2 : cnt1 T (k' + 2) n = K := hcK
            omega)
          have hf := hid (hfx.out k (by omega) hstab.out)
          have hf2 := hid (hcst.out k hstab.out)
          have hz : ((K : Int) == (K : Int)) = true := by simp
          subst hcK
          have hres := hid (show clsL T (k + 1) n = (List.range n).map (fix T) by rw [hf2.out, hf.out])
          generalize cnt1 T (k + 1) n = K at *
          clear hKk
          go_wp2
          go_ret
          exact ⟨_, rfl, by rw [← hres.out]; exact hS2.out.o0, hS2.out.bel⟩
        · have hz : (((cnt1 T (k + 1) n : Nat) : Int) == (K : Int)) = false := by simp; omega
          have hk1 : k + 1 ≤ cnt1 T (k + 1) n := by
            by_cases hk0 : k = 0
            · omega
            · have hKk := hK1.out hk0
              obtain ⟨k', rfl⟩ : ∃ k', k = k' + 1 := ⟨k - 1, by omega⟩
              by_cases hs : Stable T (k' + 1)
              · have h1 := hsc.out k' hs
                have h2 : cnt1 T (k' + 1 + 1) n ≠ K := hcK
                have h3 : cnt1 T (k' + 1 + 1) n = cnt1 T (k' + 1) n := h1
                omega
              · have h1 := hst.out k' hs
                have h3 : cnt1 T (k' + 1) n < cnt1 T (k' + 1 + 1) n := h1
                omega
          have hmm : n - (k + 1) < n - k := by omega
          replace hk1 := hid hk1
          generalize hKK : cnt1 T (k + 1) n = K2 at *
          replace hKK := hid hKK
          clear hcK
          go_wp2
          go_roundg (n - (k + 1))
          case measure => exact hmm
          case rel => exact ⟨k + 1, K2, rfl, hk1.out, fun h => absurd h (by omega), fun _ => hKK.out.symm, rfl, hS2.out.f1.drop⟩
end Go.Proofs.Ythempofohidlnaa

/- The machine of a state of a large machine: the reference's search. -/
namespace Go.Proofs.Ythempofohidlnaa
open Go.RowKit
set_option linter.unusedVariables false
set_option linter.unusedSimpArgs false

/-- The numbers of what has been met. -/
def nmL (st : List Nat) (n : Nat) : List Int := (List.range n).map fun c => if c ∈ st then ((st.idxOf c : Nat) : Int) else -1
theorem nmL_length (st : List Nat) (n : Nat) : (nmL st n).length = n := by simp [nmL]
theorem nmL_get (st : List Nat) (n c : Nat) (h : c < n) : (ints (nmL st n))[c]? = some (.int .i64 (if c ∈ st then ((st.idxOf c : Nat) : Int) else -1)) := by simp [ints, nmL, h]
theorem nmL_add (st : List Nat) (n c : Nat) (hc : c ∉ st) : (ints (nmL st n)).set c (.int .i64 (st.length : Nat)) = ints (nmL (st ++ [c]) n) := by
  apply List.ext_getElem?
  intro i
  rw [List.getElem?_set]
  by_cases h : i < n
  · rw [nmL_get _ _ _ h, nmL_get _ _ _ h]
    by_cases e : c = i
    · subst e
      rw [if_pos rfl, if_pos (by rw [ints_length, nmL_length]; exact h), if_pos (by simp), List.idxOf_append, if_neg hc]
      simp
    · rw [if_neg e]
      by_cases hm : i ∈ st
      · rw [if_pos hm, if_pos (by simp [hm]), List.idxOf_append, if_pos hm]
      · rw [if_neg hm, if_neg (by simp [hm]; exact fun e' => e e'.symm)]
  · have h1 : ∀ l, (ints (nmL l n))[i]? = none := fun l => List.getElem?_eq_none (by rw [ints_length, nmL_length]; omega)
    rw [h1, h1]
    by_cases e : c = i
    · rw [if_pos e, if_neg (by rw [ints_length, nmL_length]; omega)]
    · rw [if_neg e]
/-- A list that is filled with -1. -/
def filM (q n : Nat) : List Int := (List.range n).map fun j => if j < q then -1 else 0
theorem filM_length (q n : Nat) : (filM q n).length = n := by simp [filM]
theorem filM_zero (n : Nat) : List.replicate n (Value.int .i64 0) = ints (filM 0 n) := by
  apply List.ext_getElem?
  intro i
  by_cases h : i < n
  · simp [ints, filM, h]
  · simp [ints, filM, h]
theorem filM_set (q n : Nat) : (ints (filM q n)).set q (.int .i64 (-1)) = ints (filM (q + 1) n) := by
  apply List.ext_getElem?
  intro i
  rw [List.getElem?_set]
  by_cases hi : q = i
  · subst hi
    by_cases h : q < n
    · rw [if_pos rfl, if_pos (by simp [ints, filM]; exact h)]
      simp [ints, filM, h]
    · rw [if_pos rfl, if_neg (by simp [ints, filM]; omega)]
      simp [ints, filM, h]
  · rw [if_neg hi]
    by_cases h : i < n
    · simp only [ints, filM, List.getElem?_map, List.getElem?_range h, Option.map_some]
      by_cases hl : i < q
      · rw [if_pos hl, if_pos (by omega)]
      · rw [if_neg hl, if_neg (by omega)]
    · simp [ints, filM, h]
theorem filM_all (n : Nat) : filM n n = nmL [] n := by
  unfold filM nmL
  apply List.map_congr_left
  intro j hj
  rw [if_pos (List.mem_range.1 hj)]
  simp

/-- The reference's machine as far as it is written: the row i has its outputs already. -/
def gthS (T : Tab) (c : Nat → Nat) (st : List Nat) (i x : Nat) : Mach := ⟨T.L, st.length, (gthP T c st i x).nx, (gthP T c st (i + 1) 0).ot⟩
theorem gthS_row (T : Tab) (c : Nat → Nat) (st : List Nat) (i : Nat) (hL : T.L ≤ 3) : gthS T c st i T.L = gthP T c st (i + 1) 0 := by
  have h := gthP_row T c st i hL
  unfold gthS
  rw [h]
  rfl
theorem gthS_step (T : Tab) (c : Nat → Nat) (st : List Nat) (i x s : Nat) (hx : x < T.L) (hL : T.L ≤ 3) (hs : st[i]? = some s) :
    gthS T c st i (x + 1) = { (gthS T c st i x) with nx := upd (gthS T c st i x).nx (i * 3 + x) (st.idxOf (c (T.nx s x))) } := by
  have h := gthP_step T c st i x s hx hL hs
  unfold gthS
  rw [h]
theorem gthS_out (T : Tab) (c : Nat → Nat) (st : List Nat) (i s a0 a1 a2 : Nat) (hs : st[i]? = some s) (h0 : a0 = if 0 < T.L then T.ot s 0 else 0) (h1 : a1 = if 1 < T.L then T.ot s 1 else 0) (h2 : a2 = if 2 < T.L then T.ot s 2 else 0) :
    gthS T c st i 0 = { (gthP T c st i 0) with ot := upd (upd (upd (gthP T c st i 0).ot (i * 3 + 0) a0) (i * 3 + 1) a1) (i * 3 + 2) a2 } := by
  have hg : st.getD i 0 = s := by rw [List.getD_eq_getElem?_getD, hs]; rfl
  unfold gthS gthP upd
  dsimp only
  congr 1
  funext p
  by_cases e : p / 3 = i
  · have hp : p = i * 3 + 0 ∨ p = i * 3 + 1 ∨ p = i * 3 + 2 := by omega
    rcases hp with rfl | rfl | rfl
    · rw [if_neg (show ¬ i * 3 + 0 = i * 3 + 2 by omega), if_neg (show ¬ i * 3 + 0 = i * 3 + 1 by omega), if_pos rfl, h0, show (i * 3 + 0) / 3 = i by omega, show (i * 3 + 0) % 3 = 0 by omega, hg]
      by_cases hl : 0 < T.L
      · rw [if_pos hl, if_pos ⟨.inl (by omega), hl⟩]
      · rw [if_neg hl, if_neg (fun h => hl h.2)]
    · rw [if_neg (show ¬ i * 3 + 1 = i * 3 + 2 by omega), if_pos rfl, h1, show (i * 3 + 1) / 3 = i by omega, show (i * 3 + 1) % 3 = 1 by omega, hg]
      by_cases hl : 1 < T.L
      · rw [if_pos hl, if_pos ⟨.inl (by omega), hl⟩]
      · rw [if_neg hl, if_neg (fun h => hl h.2)]
    · rw [if_pos rfl, h2, show (i * 3 + 2) / 3 = i by omega, show (i * 3 + 2) % 3 = 2 by omega, hg]
      by_cases hl : 2 < T.L
      · rw [if_pos hl, if_pos ⟨.inl (by omega), hl⟩]
      · rw [if_neg hl, if_neg (fun h => hl h.2)]
  · rw [if_neg (show ¬ p = i * 3 + 2 by omega), if_neg (show ¬ p = i * 3 + 1 by omega), if_neg (show ¬ p = i * 3 + 0 by omega)]
    by_cases h : (p / 3 < i + 1 ∨ p / 3 = i + 1 ∧ p % 3 < 0) ∧ p % 3 < T.L
    · rw [if_pos h, if_pos ⟨by omega, h.2⟩]
    · rw [if_neg h, if_neg (fun h' => h ⟨by omega, h'.2⟩)]
def fromB (T : Tab) (q : Nat) : Bool := decide ((fin T (fix T) q).length ≤ 16)
theorem ret_mach_v {fn : Func} {R : Ending → World → Prop} {a : Act} {w : World} {p q : Nat} (h : fn.results = #[.cell p 34, .tmp q]) {g t : Nat} {m : Mach} {v : Value}
    (hp : a.tmps.getD p undef = .pointer (some ⟨g, 0, none⟩)) (hq : a.tmps.getD q undef = v) (hm : MB w t g m) (hdf : a.defers = []) (hR : R (.returned (.tuple #[.agg (mcells m), v])) w) : bodyPost Try.prog fn R .ret a w := by
  refine bodyPost_ret (v := .tuple #[.agg (mcells m), v]) ?_ hdf hR
  have hp' : a.tmps[p]?.getD undef = .pointer (some ⟨g, 0, none⟩) := by simpa using hp
  have hq' : a.tmps[q]?.getD undef = v := by simpa using hq
  have := run_loadVar_row (P := Try.prog) w g t 34 (mcells m) (0, 0) _ hm.heap Try.underlying34 rfl (by rw [size_mcells]; exact sz_mach)
  simp [results, h, hp', hq', asAddr, this]

set_option maxHeartbeats 8000000 in
set_option maxRecDepth 100000 in
theorem l07Start_any (w : World) (base q : Nat) (vN vO : Value) (T : Tab) (hT : T.Ok) (hL : T.L ≤ 3) (hL0 : 0 < T.L) (hn : T.n < 100000) (hot : ∀ q x, q < T.n → x < T.L → T.ot q x < 256) (hG : LG w base vN vO T) (hq : q < T.n) :
    Calls Try.prog 125 #[.agg #[.int .i64 T.L, vN, vO], .int .i64 q] w fun e w' => e = .returned (.tuple #[.agg (mcells (fromM T q)), .bool (fromB T q)]) ∧ Below w.heap.size w w' := by
  have hz := zero_mach
  have hpos := hT.pos
  have hcl := hid (fun W hW => l07Classes_any W base vN vO T hT hL hL0 hn hot hW)
  obtain ⟨gN, cN, rfl⟩ := hG.1.blk hpos
  obtain ⟨gO, cO, rfl⟩ := hG.2.blk hpos
  have hGW := hid (fun W (hb : Below w.heap.size w W) => hG.below hb)
  have hcN := hid (fun W (hb : Below w.heap.size w W) q x (hq : q < T.n) (hx : x < T.L) => (hG.below hb).1.cellAt (q * 3 + x) _ (rcs_in .i64 T.nx T.L T.n q x hq hx hL))
  have hrO := hid (fun W (hb : Below w.heap.size w W) q (hq : q < T.n) => (hG.below hb).2.range (q * 3) (rc1 .u8 T.ot T.L q) (rcs_row .u8 T.ot T.L T.n q hq))
  have hS := hid (((St.start w).newBlk #[.int .i64 T.L, .slice (some ⟨gN, 0, none⟩) T.n cN, .slice (some ⟨gO, 0, none⟩) T.n cO] 137).newMB ⟨0, 0, fun _ => 0, fun _ => 0⟩ 34)
  rw [heap_alloc_size] at hS
  have hNew := hid (fun L W (h : St w.heap.size w L W) => h.newMB ⟨0, 0, fun _ => 0, fun _ => 0⟩ 34)
  have hmk := fun W : World => run_make_row' (P := Try.prog) 22 2 (.int .i64 0) 8 Try.underlying22 info_i64 rfl .i64 .i64 T.n (by omega) (by omega) W
  have hmc := hid (toList_madeCells_one (.int .i64 0) T.n)
  generalize madeCells #[.int .i64 0] T.n = mc at *
  have hmcs := hid (show mc.size = T.n by rw [← Array.length_toList, hmc.out, List.length_replicate])
  have hfl := hid (fun j (hj : j < T.n) => (show (nats ((List.range T.n).map (fix T)))[j]? = some (.int .i64 (fix T j : Nat)) by simp [nats, hj]))
  have hfn := hid (show (nats ((List.range T.n).map (fix T))).length = T.n by simp [nats])
  have hflt := hid (fun j (hj : j < T.n) => fix_lt (T := T) j hj)
  have huq := hid (bfs_uniq hT (fun q hq => fix_lt q hq) q hq)
  have hum := hid (fun s hs st (h : Uniq T.n st) x hx => Uniq.meets (T := T) (c := fix T) hT (fun q hq => fix_lt q hq) (s := s) hs h x hx)
  have hfin := hid (fun i hi => fin_of hT (c := fix T) (fun q hq => fix_lt q hq) (q := q) (i := i) hq hi)
  have hclo := hid (fin_closed hT (c := fix T) (fun q hq => fix_lt q hq) hq)
  have hsm := hid (fun i s hi => bfs_some T (fix T) (q := q) (i := i) (s := s) hi)
  have hnx := hid (fun q x (hq : q < T.n) (hx : x < T.L) => hT.nx q x hq hx)
  have hlit := hid (fun q (hq : q < T.n) => rc1_lit256 T.ot T.L q (fun x hx => hot q x hq hx))
  have hstp := hid (fun st i x s hx hs => gthS_step T (fix T) st i x s hx hL hs)
  have hrow := hid (fun st i => gthS_row T (fix T) st i hL)
  have hgo := hid (fun st i s a0 a1 a2 hs h0 h1 h2 => gthS_out T (fix T) st i s a0 a1 a2 hs h0 h1 h2)
  have hgz := hid (fun st => gthP_zero T (fix T) st)
  replace hT := hid hT
  clear hG
  generalize hFL : nats ((List.range T.n).map (fix T)) = FL at *
  replace hFL := hid hFL
  generalize hLL : T.L = L at *
  replace hLL := hid hLL
  generalize hnn : T.n = n at *
  replace hnn := hid hnn
  generalize hzs : mcells ⟨0, 0, fun _ => 0, fun _ => 0⟩ = zs at *
  replace hzs := hid hzs
  go_enter Try.func125, Try.ntmps125
  go_upto_region 1 with (fail)
  generalize (w.alloc (.cells #[.int .i64 L, .slice (some ⟨gN, 0, none⟩) n cN, .slice (some ⟨gO, 0, none⟩) n cO] 137)).alloc (.cells zs 34) = wa at *
  go_cut [6, 7] from 16 to 21 (fun c d wr => ∃ gC cC gM, c = .slice (some ⟨gC, 0, none⟩) n cC ∧ d = .slice (some ⟨gM, 0, none⟩) n n ∧ St w.heap.size w [Asn.own w.heap.size 2 (.slice (some ⟨gM, 0, none⟩) n n) (ints (filM 0 n)), Asn.own w.heap.size 2 (.slice (some ⟨gC, 0, none⟩) n cC) FL, Asn.mb 34 (w.heap.size + 1) ⟨0, 0, fun _ => 0, fun _ => 0⟩, Asn.blk w.heap.size #[.int .i64 L, .slice (some ⟨gN, 0, none⟩) n cN, .slice (some ⟨gO, 0, none⟩) n cO] 137] wr)
  case first =>
    have hrg := hid (fun (W : World) (h : W.heap[w.heap.size]? = some (.cells #[.int .i64 L, .slice (some ⟨gN, 0, none⟩) n cN, .slice (some ⟨gO, 0, none⟩) n cO] 137 (0, 0))) => (show W.rangeAt w.heap.size 0 [.int .i64 L, .slice (some ⟨gN, 0, none⟩) n cN, .slice (some ⟨gO, 0, none⟩) n cO] from fun j u hu => by rw [Nat.zero_add, cell_of_row _ _ j _ _ _ h]; simpa using hu))
    replace hS := hid hS.out.drew
    have hT0 := hrg.out _ hS.out.k1
    refine wp_region_heldL (L := [(1, (fun w' : World => w'.rangeAt w.heap.size 0 [.int .i64 L, .slice (some ⟨gN, 0, none⟩) n cN, .slice (some ⟨gO, 0, none⟩) n cO])), (5, (fun w' : World => w'.rangeAt w.heap.size 0 [.int .i64 L, .slice (some ⟨gN, 0, none⟩) n cN, .slice (some ⟨gO, 0, none⟩) n cO]))]) (by kernel_rfl) (HeldL.cons (fun _ => hT0) (HeldL.cons (fun _ => hT0) HeldL.nil)) (fun hHeld => ?_)
    clear hT0
    generalize wa.drew = wb at *
    refine wpAnyL_takeP (i := 0) 1 [] (v := (.agg #[.int .i64 L, .slice (some ⟨gN, 0, none⟩) n cN, .slice (some ⟨gO, 0, none⟩) n cO])) (fun w' : World => w'.rangeAt w.heap.size 0 [.int .i64 L, .slice (some ⟨gN, 0, none⟩) n cN, .slice (some ⟨gO, 0, none⟩) n cO]) rfl (by kernel_rfl) (by kernel_rfl) (by kernel_rfl) (by rfl) (by kernel_rfl) (by simp) (fun _ _ _ h => h) (Or.inl ⟨by rfl, ?_⟩) (by assumption) ?_
    · (intro W hW; exact exec_load _ rfl rfl (run_loadVar_mid _ _ _ _ _ _ hW Try.underlying137 rfl sz_large))
    intro hHeld'
    clear hHeld; have hHeld := hHeld'; clear hHeld'
    try simp only [Act.put, List.setIfInBounds_toArray, List.set_cons_zero, List.set_cons_succ]
    refine wpAnyL_take0 (i := 2) (v := ?_) rfl (by kernel_rfl) (by kernel_rfl) (by kernel_rfl) (by rfl) (fun _ _ _ h => h) (Or.inl ⟨by rfl, ?_⟩) (by assumption) ?_
    rotate_left
    · (intro W _; go_simp; (with_reducible rfl))
    intro hHeld'
    clear hHeld; have hHeld := hHeld'; clear hHeld'
    try simp only [Act.put, List.setIfInBounds_toArray, List.set_cons_zero, List.set_cons_succ]
    refine wpAnyL_takeP (i := 3) 5 [4] (v := ?_) (fun w' : World => w'.rangeAt w.heap.size 0 [.int .i64 L, .slice (some ⟨gN, 0, none⟩) n cN, .slice (some ⟨gO, 0, none⟩) n cO]) rfl (by kernel_rfl) (by kernel_rfl) (by kernel_rfl) (by rfl) (by kernel_rfl) (by simp) (fun _ _ _ h => h) (Or.inl ⟨by rfl, ?_⟩) (by assumption) ?_
    rotate_left
    · (intro W hW; (have h1 : W.cell? ⟨w.heap.size, 1, none⟩ = some (.slice (some ⟨gN, 0, none⟩) n cN) := hW 1 _ rfl); go_simp; (with_reducible rfl))
    intro hHeld'
    clear hHeld; have hHeld := hHeld'; clear hHeld'
    try simp only [Act.put, List.setIfInBounds_toArray, List.set_cons_zero, List.set_cons_succ]
    refine wpAnyL_take0 (i := 4) (v := ?_) rfl (by kernel_rfl) (by kernel_rfl) (by kernel_rfl) (by rfl) (fun _ _ _ h => h) (Or.inl ⟨by rfl, ?_⟩) (by assumption) ?_
    rotate_left
    · (intro W _; go_simp; (with_reducible rfl))
    intro hHeld'
    clear hHeld; have hHeld := hHeld'; clear hHeld'
    try simp only [Act.put, List.setIfInBounds_toArray, List.set_cons_zero, List.set_cons_succ]
    refine wpAnyL_ready (rs := [1, 5]) (by kernel_rfl) (by simp) ?_
    refine AllReadyL.cons rfl (fun K hK => ?_) ?_
    · go_simp
      go_at_call 152
      (with_reducible refine (hcl.out _ (hGW.out _ hS.out.bel)).mono ?_)
      rintro e w1 ⟨vC, rfl, hO, hb⟩
      obtain ⟨gC, cC, rfl, _, _⟩ := hO.blk (fun e => by have h1 := congrArg List.length e; rw [hfn.out, List.length_nil] at h1; omega)
      rw [hfn.out] at hO
      rw [hfn.out]
      replace hS := hid (hS.out.callOwn hb hO)
      clear hO hb
      go_simp
      refine hK.out _ _ (HeldL.cons (fun _ => hrg.out _ hS.out.k2) (HeldL.cons (fun _ => hrg.out _ hS.out.k2) HeldL.nil)) (fun hHeld' => ?_)
      clear hK K hHeld; have hHeld := hHeld'; clear hHeld'
      try simp only [Act.put, List.setIfInBounds_toArray, List.set_cons_zero, List.set_cons_succ]
      refine wpAnyL_take0 (i := 6) (v := ?_) rfl (by kernel_rfl) (by kernel_rfl) (by kernel_rfl) (by rfl) (fun _ _ _ h => h) (Or.inl ⟨by rfl, ?_⟩) (by assumption) ?_
      rotate_left
      · (intro W _; go_simp; (with_reducible rfl))
      intro hHeld'
      clear hHeld; have hHeld := hHeld'; clear hHeld'
      try simp only [Act.put, List.setIfInBounds_toArray, List.set_cons_zero, List.set_cons_succ]
      refine wpAnyL_ready (rs := [5]) (by kernel_rfl) (by simp) ?_
      refine AllReadyL.cons rfl (fun K hK => ?_) AllReadyL.nil
      go_simp
      replace hS := hid (hS.out.newArr mc n hmcs.out 2 (by omega))
      rw [hmc.out, filM_zero] at hS
      refine hK.out _ _ (HeldL.cons (fun h => absurd h (by decide +kernel)) (HeldL.cons (fun h => absurd h (by decide +kernel)) HeldL.nil)) (fun hHeld' => ?_)
      clear hK K hHeld; have hHeld := hHeld'; clear hHeld'
      try simp only [Act.put, List.setIfInBounds_toArray, List.set_cons_zero, List.set_cons_succ]
      refine wpAnyL_take0 (i := 7) (v := ?_) rfl (by kernel_rfl) (by kernel_rfl) (by kernel_rfl) (by rfl) (fun _ _ _ h => h) (Or.inl ⟨by rfl, ?_⟩) (by assumption) ?_
      rotate_left
      · (intro W _; go_simp; (with_reducible rfl))
      intro hHeld'
      clear hHeld; have hHeld := hHeld'; clear hHeld'
      try simp only [Act.put, List.setIfInBounds_toArray, List.set_cons_zero, List.set_cons_succ]
      refine wpAnyL_done (by kernel_rfl) ?_ _
      go_wp2
      go_meet
      case rel => exact ⟨gC, cC, _, rfl, rfl, hS.out⟩
    refine AllReadyL.cons rfl (fun K hK => ?_) AllReadyL.nil
    go_simp
    replace hS := hid (hS.out.newArr mc n hmcs.out 2 (by omega))
    rw [hmc.out, filM_zero] at hS
    generalize wb.heap.size = gM at *
    generalize wb.alloc (.cells mc 2) = wc at *
    refine hK.out _ _ (HeldL.cons (fun _ => hrg.out _ hS.out.k2) (HeldL.cons (fun _ => hrg.out _ hS.out.k2) HeldL.nil)) (fun hHeld' => ?_)
    clear hK K hHeld; have hHeld := hHeld'; clear hHeld'
    try simp only [Act.put, List.setIfInBounds_toArray, List.set_cons_zero, List.set_cons_succ]
    refine wpAnyL_ready (rs := [1]) (by kernel_rfl) (by simp) ?_
    refine AllReadyL.cons rfl (fun K hK => ?_) AllReadyL.nil
    go_simp
    go_at_call 152
    (with_reducible refine (hcl.out _ (hGW.out _ hS.out.bel)).mono ?_)
    rintro e w1 ⟨vC, rfl, hO, hb⟩
    obtain ⟨gC, cC, rfl, _, _⟩ := hO.blk (fun e => by have h1 := congrArg List.length e; rw [hfn.out, List.length_nil] at h1; omega)
    rw [hfn.out] at hO
    rw [hfn.out]
    replace hS := hid (hS.out.callOwn hb hO)
    clear hO hb
    go_simp
    refine hK.out _ _ (HeldL.cons (fun _ => hrg.out _ hS.out.k3) (HeldL.cons (fun _ => hrg.out _ hS.out.k3) HeldL.nil)) (fun hHeld' => ?_)
    clear hK K hHeld; have hHeld := hHeld'; clear hHeld'
    try simp only [Act.put, List.setIfInBounds_toArray, List.set_cons_zero, List.set_cons_succ]
    refine wpAnyL_take0 (i := 6) (v := ?_) rfl (by kernel_rfl) (by kernel_rfl) (by kernel_rfl) (by rfl) (fun _ _ _ h => h) (Or.inl ⟨by rfl, ?_⟩) (by assumption) ?_
    rotate_left
    · (intro W _; go_simp; (with_reducible rfl))
    intro hHeld'
    clear hHeld; have hHeld := hHeld'; clear hHeld'
    try simp only [Act.put, List.setIfInBounds_toArray, List.set_cons_zero, List.set_cons_succ]
    refine wpAnyL_take0 (i := 7) (v := ?_) rfl (by kernel_rfl) (by kernel_rfl) (by kernel_rfl) (by rfl) (fun _ _ _ h => h) (Or.inl ⟨by rfl, ?_⟩) (by assumption) ?_
    rotate_left
    · (intro W _; go_simp; (with_reducible rfl))
    intro hHeld'
    clear hHeld; have hHeld := hHeld'; clear hHeld'
    try simp only [Act.put, List.setIfInBounds_toArray, List.set_cons_zero, List.set_cons_succ]
    refine wpAnyL_done (by kernel_rfl) ?_ _
    go_wp2
    go_meet
    case rel => exact ⟨gC, cC, gM, rfl, rfl, hS.out.f1⟩
  case rest =>
    obtain ⟨gC, cC, gM, rfl, rfl, rS⟩ := hcut
    clear hcl hS
    replace rS := hid rS
    go_wp2
    go_loopw [8] (fun i wr => ∃ j : Nat, j ≤ n ∧ i = .int .i64 j ∧ St w.heap.size w [Asn.own w.heap.size 2 (.slice (some ⟨gM, 0, none⟩) n n) (ints (filM j n)), Asn.own w.heap.size 2 (.slice (some ⟨gC, 0, none⟩) n cC) FL, Asn.mb 34 (w.heap.size + 1) ⟨0, 0, fun _ => 0, fun _ => 0⟩, Asn.blk w.heap.size #[.int .i64 L, .slice (some ⟨gN, 0, none⟩) n cN, .slice (some ⟨gO, 0, none⟩) n cO] 137] wr) (fun i _ => n - (intOf i).toNat)
    case atStart => exact ⟨0, Nat.zero_le _, rfl, rS.out⟩
    case round =>
      obtain ⟨j, hj, rfl, rS⟩ := hrel
      replace rS := hid rS
      by_cases hjn : j < n
      · have dj : decide ((j : Int) < (n : Int)) = true := decide_eq_true (by omega)
        obtain ⟨u, hu⟩ : ∃ u, (ints (filM j n))[j]? = some u := ⟨_, List.getElem?_eq_getElem (by rw [ints_length, filM_length]; exact hjn)⟩
        have co := Own.cellAt rS.out.o0 j u hu
        have fo := Own.frozenAt rS.out.o0 (by rw [ints_length, filM_length]) j
        have hset := hid (filM_set j n)
        have rS2 := hid (rS.out.setOwn (by rw [ints_length, filM_length]) j (.int .i64 (-1)) hjn)
        rw [hset.out] at rS2
        clear hu
        go_wp2
        go_roundw
        case rel => exact ⟨j + 1, by omega, by go_num, rS2.out⟩
        case measure => simp [intOf]; omega
      · obtain rfl : n = j := by omega
        have dj : decide ((n : Int) < (n : Int)) = false := decide_eq_false (by omega)
        have yS := rS.out
        rw [filM_all] at yS
        replace yS := hid yS
        clear rS
        have hfq := hflt.out q hq
        have cq := Own.cellAt yS.out.o1 q _ (hfl.out q hq)
        go_upto_region 7 with (fail)
        clear cq
        have zS := hid (yS.out.newOwn [.int .i64 (fix T q : Nat)] 2 (by simp))
        clear yS
        have hFE : (Array.mk [Value.int .i64 (fix T q : Nat)]) = #[Value.int .i64 (fix T q : Nat)] := rfl
        generalize wr.heap.size = gQ at *
        generalize wr.alloc (.cells #[.int .i64 (fix T q : Nat)] 2) = wa at *
        clear hFE
        have cq := Own.cellAt zS.out.o2 q _ (hfl.out q hq)
        have co := Own.cellAt zS.out.o1 (fix T q) _ (nmL_get [] n _ hfq)
        have fo := Own.frozenAt zS.out.o1 (by rw [ints_length, nmL_length]) (fix T q)
        have hset := hid (show (ints (nmL [] n)).set (fix T q) (.int .i64 0) = ints (nmL [fix T q] n) from nmL_add [] n (fix T q) (by simp))
        have tS := hid (zS.out.f1.setOwn (by rw [ints_length, nmL_length]) (fix T q) (.int .i64 0) hfq)
        rw [hset.out] at tS
        clear zS
        have h0 : bfs T (fix T) q 0 = [fix T q] := rfl
        replace tS := hid (show St w.heap.size w [Asn.own w.heap.size 2 (.slice (some ⟨gQ, 0, none⟩) 1 1) (nats (bfs T (fix T) q 0)), Asn.own w.heap.size 2 (.slice (some ⟨gM, 0, none⟩) n n) (ints (nmL (bfs T (fix T) q 0) n)), Asn.own w.heap.size 2 (.slice (some ⟨gC, 0, none⟩) n cC) FL, Asn.mb 34 (w.heap.size + 1) ⟨0, 0, fun _ => 0, fun _ => 0⟩, Asn.blk w.heap.size #[.int .i64 L, .slice (some ⟨gN, 0, none⟩) n cN, .slice (some ⟨gO, 0, none⟩) n cO] 137] _ from tS.out.f1)
        clear h0
        generalize fix T q = fq at *
        go_wp2
        clear cq co fo
        go_loopw [9, 10] (fun v i wr => ∃ i' N g1 c1, i = .int .i64 (i' : Nat) ∧ v = .slice (some ⟨g1, 0, none⟩) N c1 ∧ i' ≤ N ∧ (bfs T (fix T) q i').length = N ∧ St w.heap.size w [Asn.own w.heap.size 2 (.slice (some ⟨g1, 0, none⟩) N c1) (nats (bfs T (fix T) q i')), Asn.own w.heap.size 2 (.slice (some ⟨gM, 0, none⟩) n n) (ints (nmL (bfs T (fix T) q i') n)), Asn.own w.heap.size 2 (.slice (some ⟨gC, 0, none⟩) n cC) FL, Asn.mb 34 (w.heap.size + 1) ⟨0, 0, fun _ => 0, fun _ => 0⟩, Asn.blk w.heap.size #[.int .i64 L, .slice (some ⟨gN, 0, none⟩) n cN, .slice (some ⟨gO, 0, none⟩) n cO] 137] wr) (fun _ i _ => n - (intOf i).toNat)
        case atStart => exact ⟨0, 1, gQ, 1, rfl, rfl, by omega, rfl, tS.out⟩
        case round =>
          obtain ⟨i, N, g1, c1, rfl, rfl, hiN, hN, rS⟩ := hrel
          clear tS
          have hNn := (huq.out i).len
          rw [hN] at hNn
          replace hN := hid hN
          replace rS := hid rS
          by_cases hlt : i < N
          · have dlt : decide ((i : Int) < (N : Int)) = true := decide_eq_true (by omega)
            obtain ⟨s, hs⟩ : ∃ s, (bfs T (fix T) q i)[i]? = some s := ⟨_, List.getElem?_eq_getElem (by rw [hN.out]; exact hlt)⟩
            have hsn := (huq.out i).2 s (List.mem_of_getElem? hs)
            have hms := hid (hsm.out i s hs)
            have huqm := hid (fun x hx => hum.out s hsn _ (huq.out i) x hx)
            have hpre := hid (fun x => (show (meets T (fix T) s (bfs T (fix T) q i) x)[i]? = some s from by
              obtain ⟨r, hr⟩ := meets_pre T (fix T) s (bfs T (fix T) q i) x
              rw [hr, List.getElem?_append_left (by rw [hN.out]; exact hlt)]
              exact hs))
            clear hs
            go_wp2
            go_loopw [9, 11] (fun v j wr => ∃ x N g1 c1, j = .int .i64 (x : Nat) ∧ v = .slice (some ⟨g1, 0, none⟩) N c1 ∧ x ≤ L ∧ i < N ∧ (meets T (fix T) s (bfs T (fix T) q i) x).length = N ∧ St w.heap.size w [Asn.own w.heap.size 2 (.slice (some ⟨g1, 0, none⟩) N c1) (nats (meets T (fix T) s (bfs T (fix T) q i) x)), Asn.own w.heap.size 2 (.slice (some ⟨gM, 0, none⟩) n n) (ints (nmL (meets T (fix T) s (bfs T (fix T) q i) x) n)), Asn.own w.heap.size 2 (.slice (some ⟨gC, 0, none⟩) n cC) FL, Asn.mb 34 (w.heap.size + 1) ⟨0, 0, fun _ => 0, fun _ => 0⟩, Asn.blk w.heap.size #[.int .i64 L, .slice (some ⟨gN, 0, none⟩) n cN, .slice (some ⟨gO, 0, none⟩) n cO] 137] wr) (fun _ j _ => L - (intOf j).toNat)
            case atStart => exact ⟨0, N, g1, c1, rfl, rfl, Nat.zero_le _, hlt, hN.out, rS.out⟩
            case round =>
              obtain ⟨x, N2, g2, c2, rfl, rfl, hx, hiN2, hN2, yS⟩ := hrel
              clear rS
              have e0 : wr.cell? ⟨w.heap.size, 0, none⟩ = some (.int .i64 (L : Int)) := cell_of_row _ _ 0 _ _ _ yS.k4
              replace yS := hid yS
              by_cases hxL : x < L
              · have dx : decide ((x : Int) < (L : Int)) = true := decide_eq_true (by omega)
                have e1 : wr.cell? ⟨w.heap.size, 1, none⟩ = some (.slice (some ⟨gN, 0, none⟩) n cN) := cell_of_row _ _ 1 _ _ _ yS.out.k4
                have e2 := yS.out.o0.cellAt i (.int .i64 (s : Nat)) (by simp [nats, hpre.out x])
                have e3 := hcN.out wr yS.out.bel s x hsn hxL
                have hrn := hnx.out s x hsn hxL
                have hsucc := hid (show meets T (fix T) s (bfs T (fix T) q i) (x + 1) = meet (meets T (fix T) s (bfs T (fix T) q i) x) (fix T (T.nx s x)) from rfl)
                have e4 := yS.out.o2.cellAt _ _ (hfl.out _ hrn)
                have hfr := hflt.out _ hrn
                have hN2n := (huqm.out x hx).len
                rw [hN2] at hN2n
                generalize T.nx s x = r at *
                generalize hmx : meets T (fix T) s (bfs T (fix T) q i) x = ms at *
                replace hmx := hid hmx
                generalize fix T r = fr at *
                have e5 := yS.out.o1.cellAt _ _ (nmL_get ms n fr hfr)
                have x3 : (x : Int) < 3 := by omega
                have x0 : (0 : Int) ≤ (x : Int) := Int.natCast_nonneg _
                have hN2' := hid hN2
                clear hN2
                by_cases hmem : fr ∈ ms
                · rw [if_pos hmem] at e5
                  have hsame := hid (show meet ms fr = ms from if_pos hmem)
                  have hix := List.idxOf_lt_length_of_mem hmem
                  rw [hN2'.out] at hix
                  clear hmem
                  generalize ms.idxOf fr = ix at *
                  have dn : decide ((ix : Int) < 0) = false := decide_eq_false (by omega)
                  go_upto_region 14 with (fail)
                  go_quiet (fail)
                  go_wp2
                  go_roundw
                  case rel => exact ⟨x + 1, N2, g2, c2, by go_num, rfl, by omega, hiN2, by rw [hsucc.out, hsame.out]; exact hN2'.out, by rw [hsucc.out, hsame.out]; exact yS.out.drewN _⟩
                  case measure => simp [intOf]; omega
                · rw [if_neg hmem] at e5
                  have hsame := hid (show meet ms fr = ms ++ [fr] from if_neg hmem)
                  have hadd := hid (nmL_add ms n fr hmem)
                  rw [hN2'.out] at hadd
                  have hlnat := hid (show (nats ms).length = N2 by rw [nats_length]; exact hN2'.out)
                  have hsnoc := hid (show nats (ms ++ [fr]) = nats ms ++ [.int .i64 (fr : Int)] by simp [nats])
                  clear hmem
                  go_upto_region 14 with (fail)
                  go_quiet (fail)
                  clear e0 e1 e2 e3 e4
                  replace yS := hid (yS.out.drewN nq)
                  have e6 : (wr.drewN nq).cell? ⟨gM, fr, none⟩ = some (.int .i64 (-1)) := e5
                  clear e5
                  generalize wr.drewN nq = wb at *
                  have fo := yS.out.o1.frozenAt (by rw [ints_length, nmL_length]) fr
                  have zS := hid (yS.out.f1.setOwn (by rw [ints_length, nmL_length]) fr (.int .i64 (N2 : Int)) hfr)
                  rw [hadd.out] at zS
                  clear yS
                  go_upto_region 17 with (fail)
                  clear e6 fo
                  generalize wb.setCell ⟨gM, fr, none⟩ (.int .i64 (N2 : Int)) = wc at *
                  go_wp2_with (first
                    | ((with_reducible refine gate (N := 80) rfl ?_); refine St.app 22 2 (.int .i64 0) 8 Try.underlying22 info_i64 rfl (by omega) rfl _ _ rfl _ _ rfl zS.out.f1 _ rfl rfl N2 hlnat.out (by omega) ?_; intro gn cn w4 zS'; replace zS := hid zS'; clear zS'))
                  go_roundw
                  case rel => exact ⟨x + 1, N2 + 1, gn, cn, by go_num, rfl, by omega, by omega, by rw [hsucc.out, hsame.out, List.length_append, hN2'.out]; rfl, by rw [hsucc.out, hsame.out, hsnoc.out]; exact zS.out⟩
                  case measure => simp [intOf]; omega
              · obtain rfl : L = x := by omega
                have dx : decide ((L : Int) < (L : Int)) = false := decide_eq_false (by omega)
                go_wp2
                go_roundw
                case rel => exact ⟨i + 1, N2, g2, c2, by go_num, rfl, by omega, by rw [hms.out]; exact hN2, by rw [hms.out]; exact yS.out⟩
                case measure => simp [intOf]; omega
          · obtain rfl : N = i := by omega
            have dlt : decide ((N : Int) < (N : Int)) = false := decide_eq_false (by omega)
            have hf := hid (hfin.out N hN.out)
            have hA := hid (show fromM T q = if (bfs T (fix T) q N).length ≤ 16 then gth T (fix T) (bfs T (fix T) q N) else ⟨0, 0, fun _ => 0, fun _ => 0⟩ by unfold fromM; rw [hf.out])
            have hC := hid (show fromB T q = decide ((bfs T (fix T) q N).length ≤ 16) by unfold fromB; rw [hf.out])
            rw [hN.out] at hA hC
            by_cases h16 : N ≤ 16
            · rw [if_pos h16] at hA
              rw [decide_eq_true h16] at hC
              have hclo2 := hid (fun s hs x hx => (by have h := hclo.out; rw [hf.out] at h; exact h s hs x hx : fix T (T.nx s x) ∈ bfs T (fix T) q N))
              have huqN := hid (huq.out N)
              generalize hst : bfs T (fix T) q N = st at *
              replace hst := hid hst
              have d16 : decide ((N : Int) > 16) = false := decide_eq_false (by omega)
              have e0 : wr.cell? ⟨w.heap.size, 0, none⟩ = some (.int .i64 (L : Int)) := cell_of_row _ _ 0 _ _ _ rS.out.k4
              have hle := hid rS.out.le
              clear hf
              go_upto_region 21 with (first
                | ((with_reducible refine gate (N := 89) rfl ?_); refine build_mach rfl _ _ rfl (L : Int) (N : Int) rfl rfl ?_)
                | ((with_reducible refine gateOp (op := .store 34 (.tmp 13) (.tmp 89)) rfl ?_); have zS := hid (hNew.out _ _ rS.out); refine store_mach rfl _ _ rfl wr.heap.size rfl ⟨(L : Int), (N : Int), fun _ => 0, fun _ => 0⟩ rfl 34 _ zS.out.m0 ?_; intro W1 p3 ho hsz hbl; replace zS := hid (zS.out.setM hle.out p3 ho hbl); clear p3 ho hsz hbl))
              clear rS e0
              have hz0 := hid (show gthP T (fix T) st 0 0 = ⟨(L : Int), (N : Int), fun _ => 0, fun _ => 0⟩ by rw [hgz.out st, hN.out])
              rw [← hz0.out] at zS
              generalize wr.heap.size = bM at *
              go_wp2
              go_loopw [14] (fun i wr => ∃ i' : Nat, i' ≤ N ∧ i = .int .i64 i' ∧ St w.heap.size w [Asn.mb 34 bM (gthP T (fix T) st i' 0), Asn.own w.heap.size 2 (.slice (some ⟨g1, 0, none⟩) N c1) (nats st), Asn.own w.heap.size 2 (.slice (some ⟨gM, 0, none⟩) n n) (ints (nmL st n)), Asn.own w.heap.size 2 (.slice (some ⟨gC, 0, none⟩) n cC) FL, Asn.mb 34 (w.heap.size + 1) ⟨0, 0, fun _ => 0, fun _ => 0⟩, Asn.blk w.heap.size #[.int .i64 L, .slice (some ⟨gN, 0, none⟩) n cN, .slice (some ⟨gO, 0, none⟩) n cO] 137] wr) (fun i _ => N - (intOf i).toNat)
              case atStart => exact ⟨0, Nat.zero_le _, rfl, zS.out⟩
              case round =>
                obtain ⟨i, hi, rfl, rS⟩ := hrel
                clear zS
                replace rS := hid rS
                by_cases hiN : i < N
                · have di : decide ((i : Int) < (N : Int)) = true := decide_eq_true (by omega)
                  obtain ⟨s, hs⟩ : ∃ s, st[i]? = some s := ⟨_, List.getElem?_eq_getElem (by rw [hN.out]; exact hiN)⟩
                  have hsm2 : s ∈ st := List.mem_of_getElem? hs
                  have hsn := huqN.out.2 s hsm2
                  have hcs := hid (fun x hx => hclo2.out s hsm2 x hx)
                  obtain ⟨b0, b1, b2, hrb, hb⟩ := hlit.out s hsn
                  have hgo2 := hid (hgo.out st i s b0 b1 b2 hs (by
                    have h := rc1_get .u8 T.ot L s 0 (by omega); rw [hrb] at h; simp at h; omega) (by
                    have h := rc1_get .u8 T.ot L s 1 (by omega); rw [hrb] at h; simp at h; omega) (by
                    have h := rc1_get .u8 T.ot L s 2 (by omega); rw [hrb] at h; simp at h; omega))
                  have hstp2 := hid (fun x hx => hstp.out st i x s hx hs)
                  have hsq := hid hs
                  clear hs hsm2 hb
                  have e1 : wr.cell? ⟨w.heap.size, 2, none⟩ = some (.slice (some ⟨gO, 0, none⟩) n cO) := cell_of_row _ _ 2 _ _ _ rS.out.k5
                  have e2 := rS.out.o1.cellAt i (.int .i64 (s : Nat)) (by simp [nats, hsq.out])
                  have rg := hid (hrO.out wr rS.out.bel s hsn)
                  rw [hrb] at rg
                  have hi0 : (0 : Int) ≤ (i : Int) := Int.natCast_nonneg _
                  have hi1 : (i : Int) < 16 := by omega
                  go_upto_region 24 with (fail)
                  refine wp_region_still_tail 11 (by kernel_rfl) (by kernel_rfl) ?_
                  simp only [List.take_succ_cons, List.take_zero, List.drop_succ_cons, List.drop_zero]
                  repeat (first
                    | ((with_reducible refine still_gate 104 rfl ?_); refine still_row rfl 29 _ rfl gO (s * 3) rfl _ _ rg.out Try.underlying29 rfl sz_b3 ?_)
                    | still_step)
                  try refine wpStill_nil ?_
                  change wpList _ _ _ _ _ wr.drew
                  replace rS := hid rS.out.drew
                  clear e1 e2 rg hrb
                  generalize wr.drew = wa at *
                  have hth := hid (rowIs_there (show wa.rowIs bM 34 98 _ from rS.out.m0) (50 + i * 3) 3 (by omega))
                  have hbM := hid (show w.heap.size ≤ bM from hle.out)
                  refine wpList_store_mid rfl 29 _ _ rfl bM (50 + i * 3) #[.int .u8 (b0 : Int), .int .u8 (b1 : Int), .int .u8 (b2 : Int)] rfl rfl hth.out sz_b3 (by simp [Value.oneCell']) ?_
                  have yS := hid (show St w.heap.size w (Asn.mb 34 bM (gthS T (fix T) st i 0) :: _) (wa.setCells bM (50 + i * 3) [.int .u8 (b0 : Int), .int .u8 (b1 : Int), .int .u8 (b2 : Int)]) from by rw [hgo2.out]; exact ((rS.out.setOt hbM.out i 0 b0 (by omega) (by omega)).setOt hbM.out i 1 b1 (by omega) (by omega)).setOt hbM.out i 2 b2 (by omega) (by omega))
                  clear rS hth
                  generalize wa.setCells bM (50 + i * 3) [.int .u8 (b0 : Int), .int .u8 (b1 : Int), .int .u8 (b2 : Int)] = wb at *
                  go_wp2
                  go_loopw [15] (fun j wr => ∃ x : Nat, x ≤ L ∧ j = .int .i64 x ∧ St w.heap.size w [Asn.mb 34 bM (gthS T (fix T) st i x), Asn.own w.heap.size 2 (.slice (some ⟨g1, 0, none⟩) N c1) (nats st), Asn.own w.heap.size 2 (.slice (some ⟨gM, 0, none⟩) n n) (ints (nmL st n)), Asn.own w.heap.size 2 (.slice (some ⟨gC, 0, none⟩) n cC) FL, Asn.mb 34 (w.heap.size + 1) ⟨0, 0, fun _ => 0, fun _ => 0⟩, Asn.blk w.heap.size #[.int .i64 L, .slice (some ⟨gN, 0, none⟩) n cN, .slice (some ⟨gO, 0, none⟩) n cO] 137] wr) (fun j _ => L - (intOf j).toNat)
                  case atStart => exact ⟨0, Nat.zero_le _, rfl, yS.out⟩
                  case round =>
                    obtain ⟨x, hx, rfl, zS⟩ := hrel
                    clear yS
                    have e0 : wr.cell? ⟨w.heap.size, 0, none⟩ = some (.int .i64 (L : Int)) := cell_of_row _ _ 0 _ _ _ zS.k5
                    replace zS := hid zS
                    by_cases hxL : x < L
                    · have dx : decide ((x : Int) < (L : Int)) = true := decide_eq_true (by omega)
                      have e1 : wr.cell? ⟨w.heap.size, 1, none⟩ = some (.slice (some ⟨gN, 0, none⟩) n cN) := cell_of_row _ _ 1 _ _ _ zS.out.k5
                      have e2 := zS.out.o1.cellAt i (.int .i64 (s : Nat)) (by simp [nats, hsq.out])
                      have e3 := hcN.out wr zS.out.bel s x hsn hxL
                      have hrn := hnx.out s x hsn hxL
                      have e4 := zS.out.o3.cellAt _ _ (hfl.out _ hrn)
                      have hfr := hflt.out _ hrn
                      have e5 := zS.out.o2.cellAt _ _ (nmL_get st n _ hfr)
                      rw [if_pos (hcs.out x hxL)] at e5
                      have hix := List.idxOf_lt_length_of_mem (hcs.out x hxL)
                      rw [hN.out] at hix
                      have hst3 := hid (hstp2.out x hxL)
                      generalize T.nx s x = r at *
                      generalize fix T r = fr at *
                      generalize st.idxOf fr = ix at *
                      have xm : ((ix : Int) % 256) = ix := by omega
                      have xm2 : IntKind.u8.wrap (ix : Int) = (ix : Int) := u8_in ix (by omega)
                      have x3 : (x : Int) < 3 := by omega
                      have x0 : (0 : Int) ≤ (x : Int) := Int.natCast_nonneg _
                      go_upto_region 28 with (fail)
                      refine wp_region_still_tail 22 (by kernel_rfl) (by kernel_rfl) ?_
                      simp only [List.take_succ_cons, List.take_zero, List.drop_succ_cons, List.drop_zero]
                      repeat still_step
                      try refine wpStill_nil ?_
                      change wpList _ _ _ _ _ wr.drew
                      replace zS := hid zS.out.drew
                      clear e0 e1 e2 e3 e4 e5
                      generalize wr.drew = wc at *
                      obtain ⟨vn, cn⟩ : ∃ u, wc.cell? ⟨bM, 2 + i * 3 + x, none⟩ = some u := ⟨_, zS.out.m0.cnx i x (by omega) (by omega)⟩
                      have fn : wc.frozen? ⟨bM, 2 + i * 3 + x, none⟩ = false := World.rowIs.frozen zS.out.m0 _
                      have tS := hid (zS.out.setNx hbM.out i x ix (by omega) (by omega))
                      rw [← hst3.out] at tS
                      clear zS
                      go_wp2
                      go_roundw
                      case rel => exact ⟨x + 1, by omega, by go_num, tS.out⟩
                      case measure => simp [intOf]; omega
                    · obtain rfl : L = x := by omega
                      have dx : decide ((L : Int) < (L : Int)) = false := decide_eq_false (by omega)
                      have hrw := hid (hrow.out st i)
                      go_wp2
                      go_roundw
                      case rel => exact ⟨i + 1, by omega, by go_num, by rw [← hrw.out]; exact zS.out⟩
                      case measure => simp [intOf]; omega
                · obtain rfl : N = i := by omega
                  have di : decide ((N : Int) < (N : Int)) = false := decide_eq_false (by omega)
                  have hgm := hid (show gthP T (fix T) st N 0 = gth T (fix T) st by unfold gth; rw [hN.out])
                  rw [hgm.out] at rS
                  generalize gth T (fix T) st = gm at *
                  go_wp2_with (first
                    | ((with_reducible refine gate (N := 135) rfl ?_); refine load_mach rfl _ rfl bM rfl gm rS.out.m0 ?_)
                    | ((with_reducible refine gateOp (op := .store 34 (.tmp 4) (.tmp 135)) rfl ?_); refine store_mach rfl _ _ rfl (w.heap.size + 1) rfl gm rfl 34 _ rS.out.m4 ?_; intro W3 p2 ho hsz hbl; have pB := hid (hbl _ _ (Nat.le_succ _) rS.out.bel); replace p2 := hid p2; clear ho hsz hbl))
                  exact ret_mach_v (v := .bool true) rfl rfl rfl p2.out rfl ⟨by rw [hA.out, hC.out], pB.out⟩
            · rw [if_neg h16] at hA
              rw [decide_eq_false h16] at hC
              have d16 : decide ((N : Int) > 16) = true := decide_eq_true (by omega)
              replace rS := hid rS.out.f3
              clear hf hN
              go_wp2_with (first
                | ((with_reducible refine gate (N := 84) rfl ?_); refine build_zero rfl rfl ?_)
                | ((with_reducible refine gateOp (op := .store 34 (.tmp 4) (.tmp 84)) rfl ?_); refine store_mach rfl _ _ rfl (w.heap.size + 1) rfl ⟨0, 0, fun _ => 0, fun _ => 0⟩ rfl 34 _ rS.out.m0 ?_; intro W3 p2 ho hsz hbl; have pB := hid (hbl _ _ (Nat.le_succ _) rS.out.bel); replace p2 := hid p2; clear ho hsz hbl))
              exact ret_mach_v (v := .bool false) rfl rfl rfl p2.out rfl ⟨by rw [hA.out, hC.out], pB.out⟩
end Go.Proofs.Ythempofohidlnaa

/- LevelPermutation: the program's and the reference's come to the same; the law's body. -/
namespace Go.Proofs.Ythempofohidlnaa
open Go.RowKit
set_option linter.unusedVariables false
set_option linter.unusedSimpArgs false

open Classical in
/-- What LevelPermutation answers. -/
noncomputable def levelAns (m : Mach) (q n : Int) : List Int × Int :=
  if IsM m then if (0 ≤ q ∧ q < m.S) ∧ 0 ≤ n ∧ n ≤ 5 then ((perm m m.L.toNat q.toNat n.toNat).map Int.ofNat, 0) else ([], 2) else ([], 1)
theorem levelAns_1 {m : Mach} {q n : Int} (h : ¬ IsM m) : levelAns m q n = ([], 1) := by unfold levelAns; rw [if_neg h]
theorem levelAns_2 {m : Mach} {q n : Int} {l s : Nat} (g : Good m l s) (h : ¬ ((0 ≤ q ∧ q < (s : Int)) ∧ 0 ≤ n ∧ n ≤ 5)) : levelAns m q n = ([], 2) := by unfold levelAns; rw [if_pos g.isM, g.S, if_neg h]
theorem levelAns_0 {m : Mach} {l s : Nat} (g : Good m l s) (q n : Nat) (hq : q < s) (hn : n ≤ 5) : levelAns m q n = ((perm m l q n).map Int.ofNat, 0) := by
  unfold levelAns
  rw [if_pos g.isM, g.S, g.L, if_pos (by omega)]
  rfl

theorem levelAns_len (m : Mach) (q n : Int) : (levelAns m q n).1.length < 999999 := by
  by_cases hm : IsM m
  · obtain ⟨l, s, g⟩ := hm.good
    by_cases h : (0 ≤ q ∧ q < (s : Int)) ∧ 0 ≤ n ∧ n ≤ 5
    · obtain ⟨q, rfl⟩ := Int.eq_ofNat_of_zero_le h.1.1
      obtain ⟨n, rfl⟩ := Int.eq_ofNat_of_zero_le h.2.1
      rw [levelAns_0 g q n (by omega) (by omega)]
      have := pw_small l n g.l3 (by omega)
      rw [List.length_map, perm_length]; omega
    · rw [levelAns_2 g h]; simp
  · rw [levelAns_1 hm]; simp
/-- Two that answer alike. -/
def AnsL (w : World) (A : List Int × Int) (e : Ending) (w' : World) : Prop := ∃ v, e = .returned (.tuple #[v, .int .i64 A.2]) ∧ Own w' w.heap.size 2 v (ints A.1) ∧ Below w.heap.size w w'


theorem codeI_one {m : Mach} {l s : Nat} {q : Int} (g : Good m l s) (hq : 0 ≤ q ∧ q < (s : Int)) : codeI m { data := #[] } [q] = 0 := codeI_0 g (isWd_nil _) (fun x hx => by simp at hx; subst hx; exact hq)
theorem codeI_bad {m : Mach} {l s : Nat} {q : Int} (g : Good m l s) (hq : ¬ (0 ≤ q ∧ q < (s : Int))) : codeI m { data := #[] } [q] = 2 := codeI_2 g (isWd_nil _) (fun h => hq (h q (by simp)))

end Go.Proofs.Ythempofohidlnaa

/- MachineOfState: what the program and the reference answer. -/
namespace Go.Proofs.Ythempofohidlnaa
open Go.RowKit
set_option linter.unusedVariables false
set_option linter.unusedSimpArgs false


open Classical in
/-- What MachineOfState answers. -/
noncomputable def mosAns (m : Mach) (q : Int) : Mach × Int := if codeI m { data := #[] } [q] = 0 then (fromM (tabOf m m.L.toNat m.S.toNat) q.toNat, 0) else (⟨0, 0, fun _ => 0, fun _ => 0⟩, codeI m { data := #[] } [q])
theorem mosAns_0 {m : Mach} {l s q : Nat} (g : Good m l s) (hq : q < s) : mosAns m q = (fromM (tabOf m l s) q, 0) := by
  unfold mosAns; rw [if_pos (codeI_one g ⟨by omega, by omega⟩), g.L, g.S]; rfl
theorem mosAns_2 {m : Mach} {l s : Nat} {q : Int} (g : Good m l s) (hq : ¬ (0 ≤ q ∧ q < (s : Int))) : mosAns m q = (⟨0, 0, fun _ => 0, fun _ => 0⟩, 2) := by
  unfold mosAns; rw [codeI_bad g hq, if_neg (by decide)]
theorem mosAns_1 {m : Mach} {q : Int} (hm : ¬ IsM m) : mosAns m q = (⟨0, 0, fun _ => 0, fun _ => 0⟩, 1) := by
  unfold mosAns; rw [codeI_1 hm, if_neg (by decide)]

set_option maxHeartbeats 1000000 in
theorem l07State_any (w : World) (m : Mach) (hk : m.Ok) (q : Int) :
    Calls Try.prog 67 #[.agg (mcells m), .int .i64 q] w fun e w' => e = .returned (.int .i64 (codeI m { data := #[] } [q])) ∧ Below w.heap.size w w' := by
  have hS := hid ((St.start w).newMB m 34)
  by_cases hm : IsM m
  · obtain ⟨l, s, g⟩ := hm.good
    have hi := hid (show Tells true (IsM m) from ⟨fun _ => hm, fun _ => rfl⟩)
    have gS := hid g.S
    have s1 := g.s1
    have s16 := g.s16
    by_cases hq : 0 ≤ q ∧ q < (s : Int)
    · rw [codeI_one g hq]
      have hin := hid (fun W => l01In_any q 0 ((s : Int) - 1) true (decide_eq_true (by omega)).symm W)
      replace hk := hid hk; clear hm hq g
      go_enter Try.func67, Try.ntmps67
      go_wp2_with (first
        | ((with_reducible refine gate (N := 6) rfl ?_); refine load_mach rfl _ rfl w.heap.size rfl m hS.out.m0 ?_)
        | (go_at_call 57; (with_reducible refine (l01Is_any _ m hk.out true hi.out.out).mono ?_); rintro e w1 ⟨rfl, hb⟩; replace hS := hid (hS.out.call hb); have cS := hS.out.m0.cS; rw [gS.out] at cS; clear hb hi)
        | (go_at_call 58; (with_reducible refine (hin.out _).mono ?_); rintro e w3 ⟨rfl, rfl⟩))
      go_ret
      exact ⟨rfl, hS.out.bel⟩
    · rw [codeI_bad g hq]
      have hin := hid (fun W => l01In_any q 0 ((s : Int) - 1) false (decide_eq_false (fun h => hq (by omega))).symm W)
      replace hk := hid hk; clear hm hq g
      go_enter Try.func67, Try.ntmps67
      go_wp2_with (first
        | ((with_reducible refine gate (N := 6) rfl ?_); refine load_mach rfl _ rfl w.heap.size rfl m hS.out.m0 ?_)
        | (go_at_call 57; (with_reducible refine (l01Is_any _ m hk.out true hi.out.out).mono ?_); rintro e w1 ⟨rfl, hb⟩; replace hS := hid (hS.out.call hb); have cS := hS.out.m0.cS; rw [gS.out] at cS; clear hb hi)
        | (go_at_call 58; (with_reducible refine (hin.out _).mono ?_); rintro e w3 ⟨rfl, rfl⟩))
      go_ret
      exact ⟨rfl, hS.out.bel⟩
  · rw [codeI_1 hm]
    have hi := hid (show Tells false (IsM m) from ⟨fun h => (by cases h), fun h => absurd h hm⟩)
    replace hk := hid hk; clear hm
    go_enter Try.func67, Try.ntmps67
    go_wp2_with (first
      | ((with_reducible refine gate (N := 6) rfl ?_); refine load_mach rfl _ rfl w.heap.size rfl m hS.out.m0 ?_)
      | (go_at_call 57; (with_reducible refine (l01Is_any _ m hk.out false hi.out.out).mono ?_); rintro e w1 ⟨rfl, hb⟩; replace hS := hid (hS.out.call hb); clear hb hi))
    go_ret
    exact ⟨rfl, hS.out.bel⟩
theorem codeI_cases (m : Mach) (q : Int) : codeI m { data := #[] } [q] = 1 ∨ codeI m { data := #[] } [q] = 2 ∨ ∃ l s q', Good m l s ∧ q = ((q' : Nat) : Int) ∧ q' < s ∧ codeI m { data := #[] } [q] = 0 := by
  by_cases hm : IsM m
  · obtain ⟨l, s, g⟩ := hm.good
    by_cases hq : 0 ≤ q ∧ q < (s : Int)
    · obtain ⟨q', rfl⟩ := Int.eq_ofNat_of_zero_le hq.1
      exact .inr (.inr ⟨l, s, q', g, rfl, by omega, codeI_one g hq⟩)
    · exact .inr (.inl (codeI_bad g hq))
  · exact .inl (codeI_1 hm)


end Go.Proofs.Ythempofohidlnaa
