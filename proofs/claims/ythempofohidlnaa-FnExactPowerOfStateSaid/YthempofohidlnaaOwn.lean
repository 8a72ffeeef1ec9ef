/- Slices of one-cell elements that a function made itself: what they hold, how they grow, what keeps them. -/
import Derived.Test.YthempofohidlnaaWord
import Derived.Deep.AppendLies
import Derived.Laws.OwnMore
namespace Go.Proofs.Ythempofohidlnaa
open Go.RowKit
set_option linter.unusedVariables false
set_option linter.unusedSimpArgs false

/-- The slice value v holds just the cells cs, in a block of its own from 'base' on. -/
def Own (w : World) (base e : Nat) (v : Value) (cs : List Value) : Prop := w.ownsRow base e 1 v cs.length cs

section
variable {w w' : World} {base e : Nat} {v : Value} {cs : List Value}
theorem Own.nil (w : World) (base e : Nat) : Own w base e (.slice none 0 0) [] := World.ownsRow_nil w base e 1
theorem Own.lit (w : World) (base e : Nat) (cs : List Value) (hb : base ≤ w.heap.size) (hm : cs.length ≤ 1000000) :
    Own (w.alloc (.cells cs.toArray e)) base e (.slice (some ⟨w.heap.size, 0, none⟩) cs.length cs.length) cs := by
  have := World.ownsRow_lit (base := base) (e := e) (size := 1) w cs.toArray cs.length hb (by simp only [maxLen]; omega) (by simp)
  simpa [Own] using this
theorem Own.new (w : World) (base e : Nat) (hb : base ≤ w.heap.size) : Own (w.alloc (.cells #[] e)) base e (.slice (some ⟨w.heap.size, 0, none⟩) 0 0) [] := Own.lit w base e [] hb (by simp)
theorem Own.made (w : World) (base e : Nat) (z : Value) (n : Nat) (hb : base ≤ w.heap.size) (hm : n ≤ 1000000) :
    Own (w.alloc (.cells (madeCells #[z] n) e)) base e (.slice (some ⟨w.heap.size, 0, none⟩) n n) (List.replicate n z) := by
  have hs : (madeCells #[z] n).toList = List.replicate n z := toList_madeCells_one z n
  have hsz : (madeCells #[z] n).size = n := by rw [← Array.length_toList, hs, List.length_replicate]
  have := World.ownsRow_lit (base := base) (e := e) (size := 1) w (madeCells #[z] n) n hb (by simp only [maxLen]; omega) (by rw [hsz, Nat.mul_one])
  unfold Own
  rw [List.length_replicate, ← hs]
  exact this
theorem Own.keep (h : Own w base e v cs) (hk : ∀ k, v.ownBlock = some k → w'.heap[k]? = w.heap[k]?) : Own w' base e v cs := by
  refine ⟨h.1, ?_⟩
  rcases h.2 with hn | ⟨g, cap, cur, rfl, hb, hg, rest⟩
  · exact .inl hn
  · exact .inr ⟨g, cap, cur, rfl, hb, (hk g rfl).trans hg, rest⟩
theorem Own.lt (h : Own w base e v cs) : ∀ k, v.ownBlock = some k → base ≤ k ∧ k < w.heap.size := World.ownsRow.lt h
theorem Own.below (h : Own w base e v cs) (hb : Below w.heap.size w w') : Own w' base e v cs := h.keep fun k hk => hb.block k (h.lt k hk).2
theorem Own.alloc (h : Own w base e v cs) (o : Obj) : Own (w.alloc o) base e v cs := h.keep fun k hk => Below.heap_alloc w o k (h.lt k hk).2
theorem Own.drew (h : Own w base e v cs) : Own w.drew base e v cs := h
theorem Own.drewN (h : Own w base e v cs) (n : Nat) : Own (w.drewN n) base e v cs := h
theorem Own.mono {b' : Nat} (h : Own w base e v cs) (hb : b' ≤ base) : Own w b' e v cs := by
  refine ⟨h.1, ?_⟩
  rcases h.2 with hn | ⟨g, cap, cur, rfl, hg0, rest⟩
  · exact .inl hn
  · exact .inr ⟨g, cap, cur, rfl, Nat.le_trans hb hg0, rest⟩
/-- Its form, and its cells. -/
theorem Own.form (h : Own w base e v cs) : ∃ A cap, v = .slice A cs.length cap ∧ cs.length ≤ cap ∧ ((A = none ∧ cs = [] ∧ cap = 0) ∨ ∃ g, A = some ⟨g, 0, none⟩ ∧ base ≤ g ∧ g < w.heap.size ∧ ∀ j u, cs[j]? = some u → w.cell? ⟨g, j, none⟩ = some u) := by
  rcases h.2 with ⟨rfl, hn⟩ | ⟨g, cap, cur, rfl, hb, hg, hnc, hcm, hcs, htake⟩
  · exact ⟨none, 0, by rw [hn], by omega, .inl ⟨rfl, List.eq_nil_of_length_eq_zero hn, rfl⟩⟩
  · refine ⟨some ⟨g, 0, none⟩, cap, rfl, hnc, .inr ⟨g, rfl, hb, (Array.getElem?_eq_some_iff.1 hg).1, fun j u hu => ?_⟩⟩
    have := h.cells (g := g) rfl j u hu
    have hadd : (⟨g, 0, none⟩ : Addr).add j = ⟨g, j, none⟩ := by unfold Addr.add; split <;> simp_all
    rwa [hadd] at this
/-- Its cells, where it has a block. -/
theorem Own.cellAt {g n cap : Nat} (h : Own w base e (.slice (some ⟨g, 0, none⟩) n cap) cs) (j : Nat) (u : Value) (hu : cs[j]? = some u) : w.cell? ⟨g, j, none⟩ = some u := by
  obtain ⟨A, cap', hv, _, hA⟩ := h.form
  injection hv with hv1 hv2 hv3
  rcases hA with ⟨hA, _, _⟩ | ⟨g', hA, _, _, hc⟩
  · rw [hA] at hv1; cases hv1
  · rw [hA] at hv1
    injection hv1 with hv1
    injection hv1 with hv1 _ _
    subst hv1
    exact hc j u hu
theorem Own.blk (h : Own w base e v cs) (hne : cs ≠ []) : ∃ g cap, v = .slice (some ⟨g, 0, none⟩) cs.length cap ∧ base ≤ g ∧ g < w.heap.size := by
  obtain ⟨A, cap, rfl, _, hA⟩ := h.form
  rcases hA with ⟨_, hn, _⟩ | ⟨g, rfl, hg, hlt, _⟩
  · exact absurd hn hne
  · exact ⟨g, cap, rfl, hg, hlt⟩
end

/-- One element appended, as the walk meets it: behind the box of the element. -/
theorem app1 {P : Program} {ops : Array Oper} {rest : List Oper} {o : Oper} {a : Act} {W : World} {Q : Exit → Act → World → Prop} (t e : TypeId) (z : Value) (bytes : Nat)
    (ht : P.underlying t = some (.slice e)) (hinfo : (P.info? e).map (fun i => (i.zero, i.size, i.bytes)) = some (some z, 1, bytes)) (hz : z.cells.size = 1) (hb : bytes ≤ 64)
    (hgd : o.guard = none) (s x : Operand) (ho : o.op = .call { callee := .builtin .append, args := #[s, x], argTypes := #[t, t] })
    (base : Nat) (v : Value) (cs : List Value) (hs : a.eval s = v) (hown : Own W base e v cs) (hbase : base ≤ W.heap.size) (c : Value) (hc1 : c.oneCell' = true)
    (hx : a.eval x = .slice (some ⟨W.heap.size, 0, none⟩) 1 1) (hlen : cs.length ≤ 1000000000)
    (h : ∀ g cap w', Own w' base e (.slice (some ⟨g, 0, none⟩) (cs.length + 1) cap) (cs ++ [c]) → Below base W w' → (∀ k, k < W.heap.size → v.ownBlock ≠ some k → w'.heap[k]? = W.heap[k]?) → W.heap.size < w'.heap.size → (v.ownBlock = some g ∨ W.heap.size < g) →
      wpList P ops Q rest (a.put o.dst (.slice (some ⟨g, 0, none⟩) (cs.length + 1) cap)) w') :
    wpList P ops Q (o :: rest) a (W.alloc (.cells #[c] e)) := by
  obtain ⟨i, hi, hz0, hz1, hz2⟩ := info_parts hinfo
  have hcell : (W.alloc (.cells #[c] e)).cell? ⟨W.heap.size, 0, none⟩ = some c := by
    have := World.cell?_alloc_at (w := W) #[c] e W.heap.size 0 rfl
    simp
  refine wpList_plain hgd fun K hK => ?_
  refine wp_append_lies (W.alloc (.cells #[c] e)) s x t ho base e i z 1 bytes ht hi hz0 hz1 hz2 hz (by omega) v cs.length cs hs (hown.alloc _) ⟨W.heap.size, 0, none⟩ 1 1 [c] hx rfl
    (fun j u hu => ?_) (fun u hu => by simp at hu; rw [hu]; exact hc1) (by omega) (by simp only [maxLen]; omega) (Nat.le_trans (Nat.mul_le_mul_left _ hb) (by omega)) (by simp; omega) (W.heap.size + 1) (by simp) ?_
  · cases j with
    | zero =>
      have hadd : (⟨W.heap.size, 0, none⟩ : Addr).add 0 = ⟨W.heap.size, 0, none⟩ := by simp [Addr.add]
      rw [hadd]
      simp at hu
      rw [← hu]
      exact hcell
    | succ j => simp at hu
  · intro g cap w' h1 h2 h3 h4
    have hsz : W.heap.size < w'.heap.size := by have := h2.size; simp at this; omega
    have hold : ∀ k, k < W.heap.size → v.ownBlock ≠ some k → w'.heap[k]? = W.heap[k]? := fun k hk hne => by
      rw [h2.block k (by simp; omega) (fun e => hne e.symm)]
      exact Below.heap_alloc W _ k hk
    have hlen' : (cs ++ [c]).length = cs.length + 1 := by simp
    exact hK _ _ (h g cap w' (by unfold Own; rw [hlen']; exact h1) ⟨h2.os, h2.tape, h2.output, by omega, fun k hk => hold k (by omega) (fun e => by have := (hown.lt k e).1; omega)⟩ hold hsz (h3.imp id (fun e => by omega)))

/-- Bytes of one's own as a text. -/
theorem Own.conv {w : World} {base : Nat} {v : Value} {u : List Nat} (h : Own w base 5 v (u.map fun x : Nat => .int .u8 (48 + (x : Int)))) : (convert 120 9 v).run Try.prog w = .ok (.string (wstr u)) w := by
  obtain ⟨A, cap, rfl, hcap, hA⟩ := h.form
  rcases hA with ⟨rfl, hn, rfl⟩ | ⟨g, rfl, _, _, hc⟩
  · obtain rfl : u = [] := by simpa using hn
    exact run_convert_bytes_nil w 120 5 Try.underlying120 Try.underlying5 _ _ 9 Try.underlying9
  · refine run_convert_bytes_arg w 120 5 Try.underlying120 Try.underlying5 g 0 _ cap (u.map fun x : Nat => 48 + (x : Int)) (by simp) (fun i hi => ?_) 9 Try.underlying9
    have hi' : i < u.length := by simpa using hi
    rw [Nat.zero_add]
    rw [hc i (.int .u8 (48 + (u[i] : Int))) (by simp [hi'])]
    simp [List.getD_eq_getElem?_getD, List.getElem?_eq_getElem hi']
end Go.Proofs.Ythempofohidlnaa
