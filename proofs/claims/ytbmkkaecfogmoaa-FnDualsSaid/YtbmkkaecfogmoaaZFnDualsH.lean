/- What the proof of FnDuals leans on, part 8 of 26. -/
import Derived.Test.YtbmkkaecfogmoaaZFnDualsG
import Derived.Deep.AppendLies
import Derived.Laws.OwnMore
import Derived.Deep.RegionHeld3
import Derived.RegionTactic
import Derived.BigRegion
import Derived.Deep.CutBlock
/- Slices of one-cell elements that a function made itself: what they hold, how they grow, what keeps them. -/
namespace Go.Proofs.Ytbmkkaecfogmoaa
open Go.RowKit
set_option linter.unusedVariables false
set_option linter.unusedSimpArgs false

/-- The slice value v holds just the cells cs, in a block of its own from 'base' on. -/
def Own (w : World) (base e : Nat) (v : Value) (cs : List Value) : Prop := w.ownsRow base e 1 v cs.length cs

section
variable {w w' : World} {base e : Nat} {v : Value} {cs : List Value}
theorem Own.nil (w : World) (base e : Nat) : Own w base e (.slice none 0 0) [] := World.ownsRow_nil w base e 1
theorem Own.lit (w : World) (base e : Nat) (cs : List Value) (hb : base ≤ w.heap.size) (hm : cs.length ≤ 1000000) :
    Own (w.alloc (.cells cs.toArray e)) base e (.slice (some ⟨w.heap.size, 0, none⟩) cs.length cs.length) cs := by
  have := World.ownsRow_lit (base := base) (e := e) (size := 1) w cs.toArray cs.length hb (by simp only [maxLen]; omega) (by simp)
  simpa [Own] using this
theorem Own.new (w : World) (base e : Nat) (hb : base ≤ w.heap.size) : Own (w.alloc (.cells #[] e)) base e (.slice (some ⟨w.heap.size, 0, none⟩) 0 0) [] := Own.lit w base e [] hb (by simp)
theorem Own.made (w : World) (base e : Nat) (z : Value) (n : Nat) (hb : base ≤ w.heap.size) (hm : n ≤ 1000000) :
    Own (w.alloc (.cells (madeCells #[z] n) e)) base e (.slice (some ⟨w.heap.size, 0, none⟩) n n) (List.replicate n z) := by
  have hs : (madeCells #[z] n).toList = List.replicate n z := toList_madeCells_one z n
  have hsz : (madeCells #[z] n).size = n := by rw [← Array.length_toList, hs, List.length_replicate]
  have := World.ownsRow_lit (base := base) (e := e) (size := 1) w (madeCells #[z] n) n hb (by simp only [maxLen]; omega) (by rw [hsz, Nat.mul_one])
  unfold Own
  rw [List.length_replicate, ← hs]
  exact this
theorem Own.keep (h : Own w base e v cs) (hk : ∀ k, v.ownBlock = some k → w'.heap[k]? = w.heap[k]?) : Own w' base e v cs := by
  refine ⟨h.1, ?_⟩
  rcases h.2 with hn | ⟨g, cap, cur, rfl, hb, hg, rest⟩
  · exact .inl hn
  · exact .inr ⟨g, cap, cur, rfl, hb, (hk g rfl).trans hg, rest⟩
theorem Own.lt (h : Own w base e v cs) : ∀ k, v.ownBlock = some k → base ≤ k ∧ k < w.heap.size := World.ownsRow.lt h
theorem Own.below (h : Own w base e v cs) (hb : Below w.heap.size w w') : Own w' base e v cs := h.keep fun k hk => hb.block k (h.lt k hk).2
theorem Own.alloc (h : Own w base e v cs) (o : Obj) : Own (w.alloc o) base e v cs := h.keep fun k hk => Below.heap_alloc w o k (h.lt k hk).2
theorem Own.drew (h : Own w base e v cs) : Own w.drew base e v cs := h
theorem Own.drewN (h : Own w base e v cs) (n : Nat) : Own (w.drewN n) base e v cs := h
theorem Own.mono {b' : Nat} (h : Own w base e v cs) (hb : b' ≤ base) : Own w b' e v cs := by
  refine ⟨h.1, ?_⟩
  rcases h.2 with hn | ⟨g, cap, cur, rfl, hg0, rest⟩
  · exact .inl hn
  · exact .inr ⟨g, cap, cur, rfl, Nat.le_trans hb hg0, rest⟩
/-- Its form, and its cells. -/
theorem Own.form (h : Own w base e v cs) : ∃ A cap, v = .slice A cs.length cap ∧ cs.length ≤ cap ∧ ((A = none ∧ cs = [] ∧ cap = 0) ∨ ∃ g, A = some ⟨g, 0, none⟩ ∧ base ≤ g ∧ g < w.heap.size ∧ ∀ j u, cs[j]? = some u → w.cell? ⟨g, j, none⟩ = some u) := by
  rcases h.2 with ⟨rfl, hn⟩ | ⟨g, cap, cur, rfl, hb, hg, hnc, hcm, hcs, htake⟩
  · exact ⟨none, 0, by rw [hn], by omega, .inl ⟨rfl, List.eq_nil_of_length_eq_zero hn, rfl⟩⟩
  · refine ⟨some ⟨g, 0, none⟩, cap, rfl, hnc, .inr ⟨g, rfl, hb, (Array.getElem?_eq_some_iff.1 hg).1, fun j u hu => ?_⟩⟩
    have := h.cells (g := g) rfl j u hu
    have hadd : (⟨g, 0, none⟩ : Addr).add j = ⟨g, j, none⟩ := by unfold Addr.add; split <;> simp_all
    rwa [hadd] at this
/-- Its cells, where it has a block. -/
theorem Own.cellAt {g n cap : Nat} (h : Own w base e (.slice (some ⟨g, 0, none⟩) n cap) cs) (j : Nat) (u : Value) (hu : cs[j]? = some u) : w.cell? ⟨g, j, none⟩ = some u := by
  obtain ⟨A, cap', hv, _, hA⟩ := h.form
  injection hv with hv1 hv2 hv3
  rcases hA with ⟨hA, _, _⟩ | ⟨g', hA, _, _, hc⟩
  · rw [hA] at hv1; cases hv1
  · rw [hA] at hv1
    injection hv1 with hv1
    injection hv1 with hv1 _ _
    subst hv1
    exact hc j u hu
theorem Own.blk (h : Own w base e v cs) (hne : cs ≠ []) : ∃ g cap, v = .slice (some ⟨g, 0, none⟩) cs.length cap ∧ base ≤ g ∧ g < w.heap.size := by
  obtain ⟨A, cap, rfl, _, hA⟩ := h.form
  rcases hA with ⟨_, hn, _⟩ | ⟨g, rfl, hg, hlt, _⟩
  · exact absurd hn hne
  · exact ⟨g, cap, rfl, hg, hlt⟩
end

/-- One element appended, as the walk meets it: behind the box of the element. -/
theorem app1 {P : Program} {ops : Array Oper} {rest : List Oper} {o : Oper} {a : Act} {W : World} {Q : Exit → Act → World → Prop} (t e : TypeId) (z : Value) (bytes : Nat)
    (ht : P.underlying t = some (.slice e)) (hinfo : (P.info? e).map (fun i => (i.zero, i.size, i.bytes)) = some (some z, 1, bytes)) (hz : z.cells.size = 1) (hb : bytes ≤ 64)
    (hgd : o.guard = none) (s x : Operand) (ho : o.op = .call { callee := .builtin .append, args := #[s, x], argTypes := #[t, t] })
    (base : Nat) (v : Value) (cs : List Value) (hs : a.eval s = v) (hown : Own W base e v cs) (hbase : base ≤ W.heap.size) (c : Value) (hc1 : c.oneCell' = true)
    (hx : a.eval x = .slice (some ⟨W.heap.size, 0, none⟩) 1 1) (hlen : cs.length ≤ 1000000000)
    (h : ∀ g cap w', Own w' base e (.slice (some ⟨g, 0, none⟩) (cs.length + 1) cap) (cs ++ [c]) → Below base W w' → (∀ k, k < W.heap.size → v.ownBlock ≠ some k → w'.heap[k]? = W.heap[k]?) → W.heap.size < w'.heap.size → (v.ownBlock = some g ∨ W.heap.size < g) →
      wpList P ops Q rest (a.put o.dst (.slice (some ⟨g, 0, none⟩) (cs.length + 1) cap)) w') :
    wpList P ops Q (o :: rest) a (W.alloc (.cells #[c] e)) := by
  obtain ⟨i, hi, hz0, hz1, hz2⟩ := info_parts hinfo
  have hcell : (W.alloc (.cells #[c] e)).cell? ⟨W.heap.size, 0, none⟩ = some c := by
    have := World.cell?_alloc_at (w := W) #[c] e W.heap.size 0 rfl
    simp
  refine wpList_plain hgd fun K hK => ?_
  refine wp_append_lies (W.alloc (.cells #[c] e)) s x t ho base e i z 1 bytes ht hi hz0 hz1 hz2 hz (by omega) v cs.length cs hs (hown.alloc _) ⟨W.heap.size, 0, none⟩ 1 1 [c] hx rfl
    (fun j u hu => ?_) (fun u hu => by simp at hu; rw [hu]; exact hc1) (by omega) (by simp only [maxLen]; omega) (Nat.le_trans (Nat.mul_le_mul_left _ hb) (by omega)) (by simp; omega) (W.heap.size + 1) (by simp) ?_
  · cases j with
    | zero =>
      have hadd : (⟨W.heap.size, 0, none⟩ : Addr).add 0 = ⟨W.heap.size, 0, none⟩ := by simp [Addr.add]
      rw [hadd]
      simp at hu
      rw [← hu]
      exact hcell
    | succ j => simp at hu
  · intro g cap w' h1 h2 h3 h4
    have hsz : W.heap.size < w'.heap.size := by have := h2.size; simp at this; omega
    have hold : ∀ k, k < W.heap.size → v.ownBlock ≠ some k → w'.heap[k]? = W.heap[k]? := fun k hk hne => by
      rw [h2.block k (by simp; omega) (fun e => hne e.symm)]
      exact Below.heap_alloc W _ k hk
    have hlen' : (cs ++ [c]).length = cs.length + 1 := by simp
    exact hK _ _ (h g cap w' (by unfold Own; rw [hlen']; exact h1) ⟨h2.os, h2.tape, h2.output, by omega, fun k hk => hold k (by omega) (fun e => by have := (hown.lt k e).1; omega)⟩ hold hsz (h3.imp id (fun e => by omega)))

/-- Bytes of one's own as a text. -/
theorem Own.conv {w : World} {base : Nat} {v : Value} {u : List Nat} (h : Own w base 5 v (u.map fun x : Nat => .int .u8 (48 + (x : Int)))) : (convert 22 9 v).run Try.prog w = .ok (.string (wstr u)) w := by
  obtain ⟨A, cap, rfl, hcap, hA⟩ := h.form
  rcases hA with ⟨rfl, hn, rfl⟩ | ⟨g, rfl, _, _, hc⟩
  · obtain rfl : u = [] := by simpa using hn
    exact run_convert_bytes_nil w 22 5 Try.underlying22 Try.underlying5 _ _ 9 Try.underlying9
  · refine run_convert_bytes_arg w 22 5 Try.underlying22 Try.underlying5 g 0 _ cap (u.map fun x : Nat => 48 + (x : Int)) (by simp) (fun i hi => ?_) 9 Try.underlying9
    have hi' : i < u.length := by simpa using hi
    rw [Nat.zero_add]
    rw [hc i (.int .u8 (48 + (u[i] : Int))) (by simp [hi'])]
    simp [List.getD_eq_getElem?_getD, List.getElem?_eq_getElem hi']
end Go.Proofs.Ytbmkkaecfogmoaa

/- Regions that draw their order: a load may be taken first where its cell is as it was as long as the operation that waits for it has not come up. (The kit's OrdersHeld law, with a condition that falls away when it has served.) -/
namespace Go.Proofs.Ytbmkkaecfogmoaa
open Go.RowKit
set_option linter.unusedVariables false
set_option linter.unusedSimpArgs false

/-- What is kept of the world, each as long as one operation has not come up. -/
def HeldL (L : List (Nat × (World → Prop))) (listed : Array Bool) (w : World) : Prop := ∀ p, p ∈ L → listed.getD p.1 true = false → p.2 w

section
variable {P : Program} {ops : Array Oper} {Q : Exit → Act → World → Prop} {md : Region.Mode} {L : List (Nat × (World → Prop))}

def wpAnyL (P : Program) (md : Region.Mode) (ops : Array Oper) (Q : Exit → Act → World → Prop) (L : List (Nat × (World → Prop))) : Nat → Array Bool → Act → World → Prop
  | 0, listed, a, w => Region.ready md ops listed = [] ∧ Q .normal a w
  | fuel + 1, listed, a, w =>
    (Region.ready md ops listed = [] → Q .normal a w) ∧
    ∀ i, i ∈ Region.ready md ops listed → wpOp P ops Q i (fun a' w' => HeldL L (listed.setIfInBounds i true) w' ∧ wpAnyL P md ops Q L fuel (listed.setIfInBounds i true) a' w') a w

theorem wpAny_of_L : ∀ (fuel : Nat) (listed : Array Bool) (a : Act) (w : World), wpAnyL P md ops Q L fuel listed a w → wpAny P md ops Q fuel listed a w
  | 0, _, _, _, h => h
  | fuel + 1, _, _, _, h => ⟨h.1, fun i hi => wpOp_mono (fun a' w' h' => wpAny_of_L fuel _ a' w' h'.2) (h.2 i hi)⟩

/-- When the condition T may be leaned on. -/
def Leans (md : Region.Mode) (ops : Array Oper) (L : List (Nat × (World → Prop))) (i : Nat) (T : World → Prop) (listed : Array Bool) : Prop :=
  (∀ w, T w) ∨ ∃ k ok, (k, T) ∈ L ∧ k ≠ i ∧ ops[k]? = some ok ∧ (∃ e, e ∈ ok.after ∧ Region.binds md e = true ∧ e.on = i) ∧ listed.getD k true = false

theorem Leans.holds {i : Nat} {T : World → Prop} {listed : Array Bool} {w : World} (h : Leans md ops L i T listed) (hS : HeldL L listed w) : T w := by
  rcases h with h | ⟨k, ok, hm, _, _, _, hl⟩
  · exact h w
  · exact hS (k, T) hm hl

theorem wpAnyL_first {i : Nat} {oi : Oper} {v : Value} {T : World → Prop} (hi : ops[i]? = some oi) (hsel : ∀ (j : Nat) (o : Oper) cs b, ops[j]? = some o → o.op ≠ .select cs b)
    (hQ : ∀ c a w, Q (.panic c) (a.put oi.dst v) w → Q (.panic c) a w) (hne : ∀ p, p ∈ L → p.1 ≠ i) :
    ∀ (fuel : Nat) (listed : Array Bool) (a : Act) (w : World),
      (∀ j oj, ops[j]? = some oj → j ≠ i → listed.getD j true = false → (∀ e ∈ oj.after, Region.binds md e = true → e.on ≠ i) → oi.apart ops oj = true) →
      i ∈ Region.ready md ops listed → Leans md ops L i T listed → YieldsIf P ops T oi v a → HeldL L listed w →
      HeldL L (listed.setIfInBounds i true) w → wpAnyL P md ops Q L fuel (listed.setIfInBounds i true) (a.put oi.dst v) w → wpAnyL P md ops Q L (fuel + 1) listed a w := by
  intro fuel
  induction fuel with
  | zero =>
    intro listed a w _ hr hT hy hS hS' H
    refine ⟨fun h => (by rw [h] at hr; cases hr), fun j hj => ?_⟩
    by_cases hji : j = i
    · subst hji; exact hy.wpOp hi (hT.holds hS) ⟨hS', H⟩
    · have := ready_mono hj hji
      rw [H.1] at this
      cases this
  | succ fuel ih =>
    intro listed a w hfree hr hT hy hS hS' H
    refine ⟨fun h => (by rw [h] at hr; cases hr), fun j hj => ?_⟩
    by_cases hji : j = i
    · subst hji; exact hy.wpOp hi (hT.holds hS) ⟨hS', H⟩
    · have h1 := H.2 j (ready_mono hj hji)
      obtain ⟨hjun, oj, hoj, hall⟩ := mem_ready.1 hj
      have hnot : ∀ e ∈ oj.after, Region.binds md e = true → e.on ≠ i := fun e he hb heq => by
        have h1 := hall e he hb
        have h0 := (mem_ready.1 hr).1
        rw [heq] at h1
        rcases Nat.lt_or_ge i listed.size with h' | h'
        · simp [h'] at h0 h1; rw [h0] at h1; cases h1
        · simp [Array.getElem?_eq_none h'] at h1
      have h2 := wpOp_putIf hoj (hfree j oj hoj hji hjun hnot) (fun cs b => hsel i oi cs b hi) (fun cs b => hsel j oj cs b hoj) hQ hy h1
      have hfree' : ∀ k ok, ops[k]? = some ok → k ≠ i → (listed.setIfInBounds j true).getD k true = false →
          (∀ e ∈ ok.after, Region.binds md e = true → e.on ≠ i) → oi.apart ops ok = true := fun k ok hk hki hun hno => by
        refine hfree k ok hk hki ?_ hno
        by_cases hjk : j = k
        · subst hjk; exact hjun
        · rw [getD_set_ne true hjk] at hun; exact hun
      have hT' : Leans md ops L i T (listed.setIfInBounds j true) := by
        rcases hT with h | ⟨k, ok, hm, hki, hk, ⟨e, he, hb, heq⟩, hl⟩
        · exact .inl h
        · refine .inr ⟨k, ok, hm, hki, hk, ⟨e, he, hb, heq⟩, ?_⟩
          have hjk : j ≠ k := fun ejk => by
            subst ejk
            rw [hoj] at hk
            injection hk with hk
            subst hk
            exact hnot e he hb heq
          rw [getD_set_ne true hjk]; exact hl
      refine wpOp_mono (fun a' w' h3 => ?_) h2
      have hS2 : HeldL L ((listed.setIfInBounds j true).setIfInBounds i true) w' := by rw [Array.setIfInBounds_comm _ _ hji]; exact h3.2.1
      have hS1 : HeldL L (listed.setIfInBounds j true) w' := fun p hp hl => hS2 p hp (by rw [getD_set_ne true (Ne.symm (hne p hp))]; exact hl)
      refine ⟨hS1, ih (listed.setIfInBounds j true) a' w' hfree' (ready_mono hr (Ne.symm hji)) hT' h3.1 hS1 hS2 ?_⟩
      rw [Array.setIfInBounds_comm _ _ hji]
      exact h3.2.2

theorem HeldL.more {listed : Array Bool} {w : World} {i : Nat} (hne : ∀ p, p ∈ L → p.1 ≠ i) (h : HeldL L listed w) : HeldL L (listed.setIfInBounds i true) w := fun p hp hl => h p hp (by rwa [getD_set_ne true (Ne.symm (hne p hp))] at hl)

/-- Take number i first: it hangs on no world. -/
theorem wpAnyL_take0 {i : Nat} {oi : Oper} {v : Value} {fuel : Nat} {listed : Array Bool} {a : Act} {w : World} (hi : ops[i]? = some oi)
    (hs : Region.noSelect ops = true) (hf : Region.free md ops listed i = true) (hr : (Region.ready md ops listed).contains i = true) (hne : L.all (fun p => p.1 != i) = true)
    (hQ : ∀ c a w, Q (.panic c) (a.put oi.dst v) w → Q (.panic c) a w) (hy : YieldsIf P ops (fun _ => True) oi v a) (hS : HeldL L listed w)
    (h : HeldL L (listed.setIfInBounds i true) w → wpAnyL P md ops Q L fuel (listed.setIfInBounds i true) (a.put oi.dst v) w) : wpAnyL P md ops Q L (fuel + 1) listed a w :=
  have hne' : ∀ p, p ∈ L → p.1 ≠ i := fun p hp e => by have := List.all_eq_true.1 hne p hp; simp [e] at this
  have hS' := hS.more hne'
  wpAnyL_first hi (Region.noSelect_spec hs) hQ hne' fuel listed a w (Region.free_spec hi hf) (by simpa using hr) (.inl fun _ => trivial) hy hS hS' (h hS')

/-- Take number i first: a load, whose cell is as it was as long as number k waits. -/
theorem wpAnyL_takeT {i : Nat} (k : Nat) {oi ok : Oper} {v : Value} {fuel : Nat} {listed : Array Bool} {a : Act} {w : World} (T : World → Prop) (hi : ops[i]? = some oi) (hk : ops[k]? = some ok)
    (hs : Region.noSelect ops = true) (hf : Region.free md ops listed i = true) (hr : (Region.ready md ops listed).contains i = true) (hne : L.all (fun p => p.1 != i) = true) (hki : (k != i) = true)
    (hwait : ok.after.any (fun e => Region.binds md e && e.on == i) = true) (hun : listed.getD k true = false) (hm : (k, T) ∈ L)
    (hQ : ∀ c a w, Q (.panic c) (a.put oi.dst v) w → Q (.panic c) a w) (hy : YieldsIf P ops T oi v a) (hS : HeldL L listed w)
    (h : HeldL L (listed.setIfInBounds i true) w → wpAnyL P md ops Q L fuel (listed.setIfInBounds i true) (a.put oi.dst v) w) : wpAnyL P md ops Q L (fuel + 1) listed a w :=
  have hne' : ∀ p, p ∈ L → p.1 ≠ i := fun p hp e => by have := List.all_eq_true.1 hne p hp; simp [e] at this
  have hS' := hS.more hne'
  have hw : ∃ e, e ∈ ok.after ∧ Region.binds md e = true ∧ e.on = i := by
    obtain ⟨e, he, hb⟩ := Array.any_eq_true'.1 hwait
    simp only [Bool.and_eq_true, beq_iff_eq] at hb
    exact ⟨e, he, hb⟩
  wpAnyL_first hi (Region.noSelect_spec hs) hQ hne' fuel listed a w (Region.free_spec hi hf) (by simpa using hr) (.inr ⟨k, ok, hm, by simpa using hki, hk, hw, hun⟩) hy hS hS' (h hS')

/-- Whichever comes up. -/
def AllReadyL (P : Program) (md : Region.Mode) (ops : Array Oper) (Q : Exit → Act → World → Prop) (L : List (Nat × (World → Prop))) (fuel : Nat) (listed : Array Bool) (a : Act) (w : World) (rs : List Nat) : Prop :=
  ∀ i, i ∈ rs → wpOp P ops Q i (fun a' w' => HeldL L (listed.setIfInBounds i true) w' ∧ wpAnyL P md ops Q L fuel (listed.setIfInBounds i true) a' w') a w
theorem AllReadyL.nil {fuel : Nat} {listed : Array Bool} {a : Act} {w : World} : AllReadyL P md ops Q L fuel listed a w [] := fun _ h => by cases h
theorem AllReadyL.cons {fuel : Nat} {listed : Array Bool} {a : Act} {w : World} {i : Nat} {o : Oper} {rs : List Nat} (ho : ops[i]? = some o)
    (h : ∀ K' : Act → World → Prop, Shut (∀ a w, HeldL L (listed.setIfInBounds i true) w → (HeldL L (listed.setIfInBounds i true) w → wpAnyL P md ops Q L fuel (listed.setIfInBounds i true) a w) → K' a w) → if Region.wanted o (yielded ops a.tmps) = true then Oper.wp P o a w K' Q else K' (a.put o.dst undef) w)
    (hs : AllReadyL P md ops Q L fuel listed a w rs) : AllReadyL P md ops Q L fuel listed a w (i :: rs) := fun j hj => by
  rcases List.mem_cons.1 hj with rfl | hj
  · exact wpOp_step ho (fun K' hK => h K' (fun a w hS hW => hK a w ⟨hS, hW hS⟩))
  · exact hs j hj
theorem wpAnyL_ready {rs : List Nat} {fuel : Nat} {listed : Array Bool} {a : Act} {w : World} (hr : Region.ready md ops listed = rs) (hne : rs ≠ [])
    (h : AllReadyL P md ops Q L fuel listed a w rs) : wpAnyL P md ops Q L (fuel + 1) listed a w :=
  ⟨fun h0 => absurd (hr ▸ h0) hne, fun i hi => h i (hr ▸ hi)⟩
theorem wpAnyL_done {listed : Array Bool} {a : Act} {w : World} (hr : Region.ready md ops listed = []) (h : Q .normal a w) : ∀ fuel, wpAnyL P md ops Q L fuel listed a w
  | 0 => ⟨hr, h⟩
  | _ + 1 => ⟨fun _ => h, by rw [hr]; intro _ h; cases h⟩
/-- The beginning. -/
theorem wp_region_heldL {id : Nat} {a : Act} {w : World} (hm : P.follows .mixedOrders = true) (hS : HeldL L (Array.replicate ops.size false) w.drew)
    (h : HeldL L (Array.replicate ops.size false) w.drew → wpAnyL P .any ops Q L ops.size (Array.replicate ops.size false) a w.drew) : (Code.region id ops true).wp P Q a w :=
  wp_region_any hm (wpAny_of_L _ _ _ _ (h hS))
theorem HeldL.nil {listed : Array Bool} {w : World} : HeldL [] listed w := fun p hp => by cases hp
theorem HeldL.cons {k : Nat} {T : World → Prop} {listed : Array Bool} {w : World} (h1 : listed.getD k true = false → T w) (h : HeldL L listed w) : HeldL ((k, T) :: L) listed w := fun p hp hl => by
  rcases List.mem_cons.1 hp with rfl | hp
  · exact h1 hl
  · exact h p hp hl
end

/-! A load may also be taken first under the condition of an operation that waits for it through others. -/
/-- Each of the path waits for the next one, the last for i; none has come up. -/
def pathB (md : Region.Mode) (ops : Array Oper) (listed : Array Bool) (i : Nat) : List Nat → Bool
  | [] => true
  | k :: r => (k != i) && !(listed.getD k true) && (match ops[k]? with | some ok => ok.after.any (fun e => Region.binds md e && e.on == (r.headD i)) | none => false) && pathB md ops listed i r
def PathOk (md : Region.Mode) (ops : Array Oper) (listed : Array Bool) (i : Nat) : List Nat → Prop
  | [] => True
  | k :: r => k ≠ i ∧ listed.getD k true = false ∧ (∃ ok, ops[k]? = some ok ∧ ∃ e, e ∈ ok.after ∧ Region.binds md e = true ∧ e.on = r.headD i) ∧ PathOk md ops listed i r
theorem pathB_ok {md : Region.Mode} {ops : Array Oper} {listed : Array Bool} {i : Nat} : ∀ (p : List Nat), pathB md ops listed i p = true → PathOk md ops listed i p
  | [], _ => trivial
  | k :: r, h => by
    unfold pathB at h
    simp only [Bool.and_eq_true, bne_iff_ne, Bool.not_eq_true'] at h
    obtain ⟨⟨⟨h1, h2⟩, h3⟩, h4⟩ := h
    refine ⟨h1, h2, ?_, pathB_ok r h4⟩
    cases hk : ops[k]? with
    | none => rw [hk] at h3; cases h3
    | some ok =>
      rw [hk] at h3
      obtain ⟨e, he, hb⟩ := Array.any_eq_true'.1 h3
      simp only [Bool.and_eq_true, beq_iff_eq] at hb
      exact ⟨ok, rfl, e, he, hb⟩
theorem PathOk.head {md : Region.Mode} {ops : Array Oper} {listed : Array Bool} {i : Nat} (hi : listed.getD i true = false) : ∀ (p : List Nat), PathOk md ops listed i p → listed.getD (p.headD i) true = false
  | [], _ => hi
  | _ :: _, h => h.2.1
/-- One that is ready is not of the path. -/
theorem PathOk.ready {md : Region.Mode} {ops : Array Oper} {listed : Array Bool} {i j : Nat} (hi : listed.getD i true = false) (hj : j ∈ Region.ready md ops listed) : ∀ (p : List Nat), PathOk md ops listed i p → j ∉ p
  | [], _ => by simp
  | k :: r, h => by
    intro hm
    rcases List.mem_cons.1 hm with e | hm
    · subst e
      obtain ⟨_, oj, hoj, hall⟩ := mem_ready.1 hj
      obtain ⟨ok, hok, e, he, hb, hon⟩ := h.2.2.1
      rw [hoj] at hok
      injection hok with hok
      subst hok
      have h1 := hall e he hb
      rw [hon] at h1
      have h2 := PathOk.head hi r h.2.2.2
      generalize r.headD i = z at h1 h2
      rcases Nat.lt_or_ge z listed.size with h' | h'
      · simp [h'] at h1 h2; rw [h2] at h1; cases h1
      · simp [Array.getElem?_eq_none h'] at h2
    · exact PathOk.ready hi hj r h.2.2.2 hm
theorem PathOk.set {md : Region.Mode} {ops : Array Oper} {listed : Array Bool} {i j : Nat} : ∀ (p : List Nat), j ∉ p → PathOk md ops listed i p → PathOk md ops (listed.setIfInBounds j true) i p
  | [], _, _ => trivial
  | k :: r, hj, h => ⟨h.1, by rw [getD_set_ne true (fun e => hj (by simp [e]))]; exact h.2.1, h.2.2.1, PathOk.set r (fun hm => hj (by simp [hm])) h.2.2.2⟩
section
variable {P : Program} {ops : Array Oper} {Q : Exit → Act → World → Prop} {md : Region.Mode} {L : List (Nat × (World → Prop))}
theorem wpAnyL_firstP {i : Nat} {oi : Oper} {v : Value} {T : World → Prop} (k : Nat) (path : List Nat) (hm : (k, T) ∈ L) (hi : ops[i]? = some oi) (hsel : ∀ (j : Nat) (o : Oper) cs b, ops[j]? = some o → o.op ≠ .select cs b)
    (hQ : ∀ c a w, Q (.panic c) (a.put oi.dst v) w → Q (.panic c) a w) (hne : ∀ p, p ∈ L → p.1 ≠ i) :
    ∀ (fuel : Nat) (listed : Array Bool) (a : Act) (w : World),
      (∀ j oj, ops[j]? = some oj → j ≠ i → listed.getD j true = false → (∀ e ∈ oj.after, Region.binds md e = true → e.on ≠ i) → oi.apart ops oj = true) →
      i ∈ Region.ready md ops listed → PathOk md ops listed i (k :: path) → YieldsIf P ops T oi v a → HeldL L listed w →
      HeldL L (listed.setIfInBounds i true) w → wpAnyL P md ops Q L fuel (listed.setIfInBounds i true) (a.put oi.dst v) w → wpAnyL P md ops Q L (fuel + 1) listed a w := by
  intro fuel
  induction fuel with
  | zero =>
    intro listed a w _ hr hT hy hS hS' H
    refine ⟨fun h => (by rw [h] at hr; cases hr), fun j hj => ?_⟩
    by_cases hji : j = i
    · subst hji; exact hy.wpOp hi (hS (k, T) hm hT.2.1) ⟨hS', H⟩
    · have := ready_mono hj hji
      rw [H.1] at this
      cases this
  | succ fuel ih =>
    intro listed a w hfree hr hT hy hS hS' H
    refine ⟨fun h => (by rw [h] at hr; cases hr), fun j hj => ?_⟩
    by_cases hji : j = i
    · subst hji; exact hy.wpOp hi (hS (k, T) hm hT.2.1) ⟨hS', H⟩
    · have h1 := H.2 j (ready_mono hj hji)
      obtain ⟨hjun, oj, hoj, hall⟩ := mem_ready.1 hj
      have hiun : listed.getD i true = false := (mem_ready.1 hr).1
      have hnot : ∀ e ∈ oj.after, Region.binds md e = true → e.on ≠ i := fun e he hb heq => by
        have h1 := hall e he hb
        have h0 := (mem_ready.1 hr).1
        rw [heq] at h1
        rcases Nat.lt_or_ge i listed.size with h' | h'
        · simp [h'] at h0 h1; rw [h0] at h1; cases h1
        · simp [Array.getElem?_eq_none h'] at h1
      have h2 := wpOp_putIf hoj (hfree j oj hoj hji hjun hnot) (fun cs b => hsel i oi cs b hi) (fun cs b => hsel j oj cs b hoj) hQ hy h1
      have hfree' : ∀ k ok, ops[k]? = some ok → k ≠ i → (listed.setIfInBounds j true).getD k true = false →
          (∀ e ∈ ok.after, Region.binds md e = true → e.on ≠ i) → oi.apart ops ok = true := fun k ok hk hki hun hno => by
        refine hfree k ok hk hki ?_ hno
        by_cases hjk : j = k
        · subst hjk; exact hjun
        · rw [getD_set_ne true hjk] at hun; exact hun
      have hT' : PathOk md ops (listed.setIfInBounds j true) i (k :: path) := hT.set _ (hT.ready hiun hj)
      refine wpOp_mono (fun a' w' h3 => ?_) h2
      have hS2 : HeldL L ((listed.setIfInBounds j true).setIfInBounds i true) w' := by rw [Array.setIfInBounds_comm _ _ hji]; exact h3.2.1
      have hS1 : HeldL L (listed.setIfInBounds j true) w' := fun p hp hl => hS2 p hp (by rw [getD_set_ne true (Ne.symm (hne p hp))]; exact hl)
      refine ⟨hS1, ih (listed.setIfInBounds j true) a' w' hfree' (ready_mono hr (Ne.symm hji)) hT' h3.1 hS1 hS2 ?_⟩
      rw [Array.setIfInBounds_comm _ _ hji]
      exact h3.2.2
/-- Take number i first: a load, whose cell is as it was as long as number k waits; k waits for it through others. -/
theorem wpAnyL_takeP {i : Nat} (k : Nat) (path : List Nat) {oi : Oper} {v : Value} {fuel : Nat} {listed : Array Bool} {a : Act} {w : World} (T : World → Prop) (hi : ops[i]? = some oi)
    (hs : Region.noSelect ops = true) (hf : Region.free md ops listed i = true) (hr : (Region.ready md ops listed).contains i = true) (hne : L.all (fun p => p.1 != i) = true)
    (hp : pathB md ops listed i (k :: path) = true) (hm : (k, T) ∈ L)
    (hQ : ∀ c a w, Q (.panic c) (a.put oi.dst v) w → Q (.panic c) a w) (hy : YieldsIf P ops T oi v a) (hS : HeldL L listed w)
    (h : HeldL L (listed.setIfInBounds i true) w → wpAnyL P md ops Q L fuel (listed.setIfInBounds i true) (a.put oi.dst v) w) : wpAnyL P md ops Q L (fuel + 1) listed a w :=
  have hne' : ∀ p, p ∈ L → p.1 ≠ i := fun p hp e => by have := List.all_eq_true.1 hne p hp; simp [e] at this
  have hS' := hS.more hne'
  wpAnyL_firstP k path hm hi (Region.noSelect_spec hs) hQ hne' fuel listed a w (Region.free_spec hi hf) (by simpa using hr) (pathB_ok _ hp) hy hS hS' (h hS')
end

/-- One element appended, at a step of a region that draws: the element lies in a box B. -/
theorem step_app1 {P : Program} {ops : Array Oper} {o : Oper} {a : Act} {K : Act → World → Prop} {Q : Exit → Act → World → Prop} {E : Prop} {w : World} (t e : TypeId) (z : Value) (bytes : Nat)
    (ht : P.underlying t = some (.slice e)) (hinfo : (P.info? e).map (fun i => (i.zero, i.size, i.bytes)) = some (some z, 1, bytes)) (hz : z.cells.size = 1) (hb : bytes ≤ 64)
    (hgd : o.guard = none) (s x : Operand) (ho : o.op = .call { callee := .builtin .append, args := #[s, x], argTypes := #[t, t] })
    (base : Nat) (v : Value) (cs : List Value) (hs : a.eval s = v) (hown : Own w base e v cs) (hbase : base ≤ w.heap.size) (B : Nat) (c : Value) (hc1 : c.oneCell' = true) (hB : w.cell? ⟨B, 0, none⟩ = some c)
    (hx : a.eval x = .slice (some ⟨B, 0, none⟩) 1 1) (hlen : cs.length ≤ 1000000000)
    (h : ∀ g cap w', Own w' base e (.slice (some ⟨g, 0, none⟩) (cs.length + 1) cap) (cs ++ [c]) → Below base w w' → (∀ k, k < w.heap.size → v.ownBlock ≠ some k → w'.heap[k]? = w.heap[k]?) → (v.ownBlock = some g ∨ g = w.heap.size) →
      K (a.put o.dst (.slice (some ⟨g, 0, none⟩) (cs.length + 1) cap)) w') :
    if Region.wanted o (yielded ops a.tmps) = true then Oper.wp P o a w K Q else E := by
  obtain ⟨i, hi, hz0, hz1, hz2⟩ := info_parts hinfo
  have hw : Region.wanted o (yielded ops a.tmps) = true := by simp [Region.wanted, hgd]
  rw [if_pos hw]
  refine wp_append_lies w s x t ho base e i z 1 bytes ht hi hz0 hz1 hz2 hz (by omega) v cs.length cs hs hown ⟨B, 0, none⟩ 1 1 [c] hx rfl
    (fun j u hu => ?_) (fun u hu => by simp at hu; rw [hu]; exact hc1) (by omega) (by simp only [maxLen]; omega) (Nat.le_trans (Nat.mul_le_mul_left _ hb) (by omega)) hbase _ rfl ?_
  · cases j with
    | zero =>
      have hadd : (⟨B, 0, none⟩ : Addr).add 0 = ⟨B, 0, none⟩ := by simp [Addr.add]
      rw [hadd]
      simp at hu
      rw [← hu]
      exact hB
    | succ j => simp at hu
  · intro g cap w' h1 h2 h3 h4
    have hold : ∀ k, k < w.heap.size → v.ownBlock ≠ some k → w'.heap[k]? = w.heap[k]? := fun k hk hne => h2.block k hk (fun e => hne e.symm)
    have hlen' : (cs ++ [c]).length = cs.length + 1 := by simp
    exact h g cap w' (by unfold Own; rw [hlen']; exact h1) ⟨h2.os, h2.tape, h2.output, h2.size, fun k hk => hold k (by omega) (fun e => by have := (hown.lt k e).1; omega)⟩ hold h3
end Go.Proofs.Ytbmkkaecfogmoaa

/- The reference's l01Act: the word to which a state leads a word, by appends. -/
namespace Go.Proofs.Ytbmkkaecfogmoaa
open Go.RowKit
set_option linter.unusedVariables false
set_option linter.unusedSimpArgs false

/-- A word's bytes. -/
def wb (u : List Nat) : List Value := u.map fun x : Nat => .int .u8 (48 + (x : Int))
theorem wb_snoc (u : List Nat) (x : Nat) : wb (u ++ [x]) = wb u ++ [.int .u8 (48 + (x : Int))] := by simp [wb]
theorem wb_length (u : List Nat) : (wb u).length = u.length := by simp [wb]

set_option maxHeartbeats 1000000 in
set_option maxRecDepth 100000 in
theorem l01Act_any (w : World) (m : Mach) (l s : Nat) (g : Good m l s) (q : Nat) (hq : q < s) (u : List Nat) (hu : ∀ x ∈ u, x < l) (hlen : u.length ≤ 1000) :
    Calls Try.prog 240 #[.agg (mcells m), .int .i64 q, .string (wstr u)] w fun e w' =>
      e = .returned (.tuple #[.string (wstr (img m q u)), .int .i64 (sec m q u : Nat)]) ∧ Below w.heap.size w w' := by
  have hsz := wstr_size u
  have hbyte := hid (fun k hk => wstr_byte u k hk (fun x hx => by have := hu x hx; have := g.l3; omega))
  have hM := hid ((MB.new w m 27).alloc (.cells #[] 5))
  have hB := hid (below_alloc (below_alloc (Below.refl w.heap.size w) (Nat.le_refl _) (.cells (mcells m) 27)) (Nat.le_refl _) (.cells #[] 5))
  have hO := Own.new (w.alloc (.cells (mcells m) 27)) (w.heap.size + 1) 5 (by simp)
  rw [heap_alloc_size] at hO
  replace hO := hid hO
  have s16 := g.s16
  have l3 := g.l3
  replace g := hid g
  replace hu := hid hu
  generalize hws : wstr u = ws at *
  replace hws := hid hws
  go_enter Try.func240, Try.ntmps240
  go_wp2
  go_loopw [1, 8, 9] (fun p v i wr => ∃ k : Nat, k ≤ u.length ∧ i = .int .i64 k ∧ p = .int .i64 (sec m q (u.take k) : Nat) ∧ MB wr 27 w.heap.size m ∧ Own wr (w.heap.size + 1) 5 v (wb (img m q (u.take k))) ∧ Below w.heap.size w wr) (fun _ _ i _ => u.length - (intOf i).toNat)
  case atStart =>
    exact ⟨0, Nat.zero_le _, rfl, rfl, hM.out, hO.out, hB.out⟩
  case round =>
    obtain ⟨k, hk, rfl, rfl, r1, r2, rB⟩ := hrel
    clear hM hO hB
    replace r1 := hid r1; replace r2 := hid r2; replace rB := hid rB
    by_cases hlt : k < u.length
    · have hx := hu.out _ (getD_mem u k hlt)
      have hb := hbyte.out k (by omega)
      have htk := hid (take_snoc' u k hlt)
      have hq2 := sec_lt g.out (u.take k) q hq (fun x hx => hu.out x (List.mem_of_mem_take hx))
      have hsn := hid (sec_snoc m (u.getD k 0) (u.take k) q)
      have him := hid (img_snoc m (u.getD k 0) (u.take k) q)
      have hol := g.out.ot _ _ hq2 hx
      have hnl := g.out.nx _ _ hq2 hx
      have hil := hid (show (wb (img m q (u.take k))).length = k by rw [wb_length, img_length, List.length_take]; omega)
      have c1 := r1.out.cot (sec m q (u.take k)) (u.getD k 0) (by omega) (by omega)
      have c2 := hid (fun W (hW : MB W 27 w.heap.size m) => hW.cnx (sec m q (u.take k)) (u.getD k 0) (by omega) (by omega))
      have hlt1 := hid r1.out.lt
      generalize hqk : sec m q (u.take k) = qk at *
      generalize hxk : u.getD k 0 = x at *
      generalize hok : m.ot (qk * 3 + x) = ot at *
      generalize hnk : m.nx (qk * 3 + x) = nx at *
      generalize him0 : img m q (u.take k) = im at *
      replace hqk := hid hqk; replace hxk := hid hxk; replace hok := hid hok; replace hnk := hid hnk; replace him0 := hid him0
      have e1 : 48 + (x : Int) - 48 = x := by omega
      have e2 : (48 + (ot : Int)) % 256 = 48 + ot := by omega
      go_wp2_with (first
        | ((with_reducible refine gate (N := 31) rfl ?_); (refine app1 22 5 (.int .u8 0) 1 Try.underlying22 info_u8 rfl (by omega) rfl _ _ rfl (w.heap.size + 1) _ _ rfl r2.out hlt1.out _ rfl rfl (by have := hil.out; omega) ?_; intro gn cap w2 hO2 hb2 hold hsz2 _; have t1 := hid (show MB w2 27 w.heap.size m from World.rowIs.of_block r1.out (hold _ hlt1.out (fun e => by have := (r2.out.lt _ e).1; omega))); replace hO2 := hid hO2; have tB := hid (rB.out.trans (hb2.mono (Nat.le_succ _))); clear hb2 hold hsz2 c1 r1 r2 rB; have c1 := c2.out _ t1.out)))
      go_roundw
      case rel =>
        refine ⟨k + 1, by omega, by go_num, by rw [htk.out, hsn.out], t1.out, ?_, tB.out⟩
        rw [htk.out, him.out, wb_snoc]
        exact hO2.out
      case measure => simp [intOf]; omega
    · obtain rfl : k = u.length := by omega
      have htk : u.take u.length = u := List.take_length
      rw [htk] at r2
      have hconv := r2.out.conv
      rw [htk]
      clear htk
      go_wp2
      go_ret2
      exact ⟨rfl, rB.out⟩
end Go.Proofs.Ytbmkkaecfogmoaa
