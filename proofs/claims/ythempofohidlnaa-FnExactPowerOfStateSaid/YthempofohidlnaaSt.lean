/- What a call holds of its memory: parts that lie apart, carried as one fact. -/
import Derived.Test.YthempofohidlnaaMat
namespace Go.Proofs.Ythempofohidlnaa
open Go.RowKit
set_option linter.unusedVariables false
set_option linter.unusedSimpArgs false

/-- A part of the memory: the blocks that it has, and what they hold. -/
structure Asn where
  foot : Nat → Prop
  holds : World → Prop
  keep : ∀ {w w' : World}, holds w → (∀ k, foot k → w'.heap[k]? = w.heap[k]?) → holds w'
  lt : ∀ {w : World}, holds w → ∀ k, foot k → k < w.heap.size

def Asn.own (base e : Nat) (v : Value) (cs : List Value) : Asn := ⟨fun k => v.ownBlock = some k, fun w => Own w base e v cs, fun h hk => h.keep hk, fun h k hk => (h.lt k hk).2⟩
def Asn.mb (t b : Nat) (m : Mach) : Asn := ⟨fun k => k = b, fun w => MB w t b m, fun h hk => World.rowIs.of_block h (hk b rfl), fun h k hk => hk ▸ h.lt⟩
def Asn.blk (b : Nat) (cs : Array Value) (t : Nat) : Asn := ⟨fun k => k = b, fun w => w.heap[b]? = some (.cells cs t (0, 0)), fun h hk => (hk b rfl).trans h, fun h k hk => hk ▸ (Array.getElem?_eq_some_iff.1 h).1⟩
/-- A slice of slices of numbers. -/
def Asn.mat (base : Nat) (v : Value) (rows : List Value) (M : List (List Int)) : Asn :=
  ⟨fun k => v.ownBlock = some k ∨ ∃ r ∈ rows, r.ownBlock = some k,
   fun w => Own w base 22 v rows ∧ rows.length = M.length ∧ ∀ (i : Nat) (r : Value) (l : List Int), rows[i]? = some r → M[i]? = some l → Own w base 2 r (ints l),
   fun h hk => ⟨h.1.keep fun k hk' => hk k (.inl hk'), h.2.1, fun i r l hr hl => (h.2.2 i r l hr hl).keep fun k hk' => hk k (.inr ⟨r, List.mem_of_getElem? hr, hk'⟩)⟩,
   fun h k hk => by
    rcases hk with hk | ⟨r, hr, hk⟩
    · exact (h.1.lt k hk).2
    · obtain ⟨i, hi, rfl⟩ := List.getElem_of_mem hr
      exact ((h.2.2 i _ _ (List.getElem?_eq_getElem hi) (List.getElem?_eq_getElem (by rw [← h.2.1]; exact hi))).lt k hk).2⟩

def Foot : List Asn → Nat → Prop
  | [], _ => False
  | a :: L, k => a.foot k ∨ Foot L k
def Star : List Asn → World → Prop
  | [], _ => True
  | a :: L, w => a.holds w ∧ (∀ k, a.foot k → ¬ Foot L k) ∧ Star L w

section
variable {w w' w0 : World} {L : List Asn} {a a' b c d e f g : Asn} {base : Nat}
theorem Star.lt : ∀ {L : List Asn}, Star L w → ∀ k, Foot L k → k < w.heap.size
  | [], _, _, h => h.elim
  | a :: L, h, k, hk => hk.elim (fun hk => a.lt h.1 k hk) (fun hk => Star.lt h.2.2 k hk)
theorem Star.keep : ∀ {L : List Asn}, Star L w → (∀ k, Foot L k → w'.heap[k]? = w.heap[k]?) → Star L w'
  | [], _, _ => trivial
  | a :: L, h, hk => ⟨a.keep h.1 fun k h' => hk k (.inl h'), h.2.1, Star.keep h.2.2 fun k h' => hk k (.inr h')⟩

/-- What a call holds: what was there below 'base' is as it was, and the parts lie apart. -/
structure St (base : Nat) (w0 : World) (L : List Asn) (w : World) : Prop where
  bel : Below base w0 w
  le : base ≤ w.heap.size
  star : Star L w

theorem St.start (w0 : World) : St w0.heap.size w0 [] w0 := ⟨Below.refl _ _, Nat.le_refl _, trivial⟩
theorem St.alloc (h : St base w0 L w) (o : Obj) : St base w0 L (w.alloc o) :=
  ⟨h.bel.alloc h.le o, by rw [heap_alloc_size]; exact Nat.le_succ_of_le h.le, h.star.keep fun k hk => Below.heap_alloc w o k (h.star.lt k hk)⟩
theorem St.drew (h : St base w0 L w) : St base w0 L w.drew := ⟨h.bel.drew, h.le, h.star.keep fun _ _ => rfl⟩
theorem St.drewN (h : St base w0 L w) (n : Nat) : St base w0 L (w.drewN n) := ⟨below_drewN h.bel n, h.le, h.star.keep fun _ _ => rfl⟩
theorem St.call (h : St base w0 L w) (hb : Below w.heap.size w w') : St base w0 L w' :=
  ⟨h.bel.trans (hb.mono h.le), Nat.le_trans h.le hb.size, h.star.keep fun k hk => hb.block k (h.star.lt k hk)⟩
theorem St.push (h : St base w0 L w) (ha : a.holds w) (hf : ∀ k, a.foot k → ¬ Foot L k) : St base w0 (a :: L) w := ⟨h.bel, h.le, ha, hf, h.star⟩
/-- A new part that a callee made. -/
theorem St.callPush (h : St base w0 L w) (hb : Below w.heap.size w w') (ha : a.holds w') (hf : ∀ k, a.foot k → w.heap.size ≤ k) : St base w0 (a :: L) w' :=
  (h.call hb).push ha fun k hk hL => by have h1 := h.star.lt k hL; have h2 := hf k hk; omega
theorem St.callOwn {t : Nat} {v : Value} {cs : List Value} (h : St base w0 L w) (hb : Below w.heap.size w w') (ha : Own w' w.heap.size t v cs) : St base w0 (Asn.own base t v cs :: L) w' :=
  h.callPush (a := Asn.own base t v cs) hb (ha.mono h.le) fun k hk => (ha.lt k hk).1
/-- A new block. -/
theorem St.allocPush (h : St base w0 L w) (o : Obj) (ha : a.holds (w.alloc o)) (hf : ∀ k, a.foot k → k = w.heap.size) : St base w0 (a :: L) (w.alloc o) :=
  (h.alloc o).push ha fun k hk hL => by have h1 := h.star.lt k hL; have h2 := hf k hk; omega
theorem St.newBlk (h : St base w0 L w) (cs : Array Value) (t : Nat) : St base w0 (Asn.blk w.heap.size cs t :: L) (w.alloc (.cells cs t)) :=
  h.allocPush (a := Asn.blk w.heap.size cs t) _ (heap_alloc_new w _) fun _ hk => hk
theorem St.newMB (h : St base w0 L w) (m : Mach) (t : Nat) : St base w0 (Asn.mb t w.heap.size m :: L) (w.alloc (.cells (mcells m) t)) :=
  h.allocPush (a := Asn.mb t w.heap.size m) _ (MB.new w m t) fun _ hk => hk
theorem St.nilOwn (h : St base w0 L w) (t : Nat) : St base w0 (Asn.own base t (.slice none 0 0) [] :: L) w := h.push (a := Asn.own base t _ []) (Own.nil _ _ _) fun k hk => by cases hk
theorem St.newOwn (h : St base w0 L w) (cs : List Value) (t : Nat) (hm : cs.length ≤ 1000000) : St base w0 (Asn.own base t (.slice (some ⟨w.heap.size, 0, none⟩) cs.length cs.length) cs :: L) (w.alloc (.cells cs.toArray t)) :=
  h.allocPush (a := Asn.own base t _ cs) _ (Own.lit w base t cs h.le hm) fun k hk => by
    have : w.heap.size = k := by simpa [Asn.own, Value.ownBlock] using hk
    exact this.symm
theorem St.newArr (h : St base w0 L w) (cs : Array Value) (n : Nat) (hn : cs.size = n) (t : Nat) (hm : n ≤ 1000000) : St base w0 (Asn.own base t (.slice (some ⟨w.heap.size, 0, none⟩) n n) cs.toList :: L) (w.alloc (.cells cs t)) := by
  subst hn
  have := h.newOwn cs.toList t (by rw [Array.length_toList]; exact hm)
  rw [Array.length_toList] at this
  exact this
/-- The part at hand turned: it has what it had, or new blocks; the rest is as it was. -/
theorem St.turn (h : St base w0 (a :: L) w) (ha : a'.holds w') (hf : ∀ k, a'.foot k → a.foot k ∨ w.heap.size ≤ k) (hb : ∀ k, a.foot k → base ≤ k)
    (hs : Below base w w') (hk : ∀ k, k < w.heap.size → ¬ a.foot k → w'.heap[k]? = w.heap[k]?) : St base w0 (a' :: L) w' :=
  ⟨h.bel.trans hs, Nat.le_trans h.le hs.size, ha, fun k hk' hL => by
    rcases hf k hk' with h1 | h1
    · exact h.star.2.1 k h1 hL
    · have := h.star.2.2.lt k hL; omega,
   h.star.2.2.keep fun k hL => hk k (h.star.2.2.lt k hL) fun h1 => h.star.2.1 k h1 hL⟩
theorem St.drop (h : St base w0 (a :: L) w) : St base w0 L w := ⟨h.bel, h.le, h.star.2.2⟩
theorem St.nothing (h : St base w0 L w) : St base w0 [] w := ⟨h.bel, h.le, trivial⟩
/-! Which part is at hand: 'fI' brings number I to the front, 'bI' lays the front at I. -/
theorem St.f1 (h : St base w0 (a :: b :: L) w) : St base w0 (b :: a :: L) w :=
  ⟨h.bel, h.le, h.star.2.2.1, fun k hk hL => hL.elim (fun ha => h.star.2.1 k ha (.inl hk)) (fun hL => h.star.2.2.2.1 k hk hL), h.star.1, fun k hk hL => h.star.2.1 k hk (.inr hL), h.star.2.2.2.2⟩
theorem St.under {L' : List Asn} (h : St base w0 (a :: L) w) (hL : St base w0 L w → St base w0 L' w) (hF : ∀ k, Foot L' k → Foot L k) : St base w0 (a :: L') w :=
  ⟨h.bel, h.le, h.star.1, fun k hk h' => h.star.2.1 k hk (hF k h'), (hL h.drop).star⟩
theorem foot1 {k : Nat} (h : Foot (b :: a :: L) k) : Foot (a :: b :: L) k := h.elim (fun h => .inr (.inl h)) fun h => h.elim .inl fun h => .inr (.inr h)
theorem St.s1 (h : St base w0 (a :: b :: c :: L) w) : St base w0 (a :: c :: b :: L) w := h.under (fun h => h.f1) fun _ h => foot1 h
theorem foot_under {L L' : List Asn} {k : Nat} (hL : Foot L' k → Foot L k) (h : Foot (a :: L') k) : Foot (a :: L) k := h.imp id hL
theorem St.s2 (h : St base w0 (a :: b :: c :: d :: L) w) : St base w0 (a :: b :: d :: c :: L) w := h.under (fun h => h.s1) fun _ h => foot_under foot1 h
theorem St.s3 (h : St base w0 (a :: b :: c :: d :: e :: L) w) : St base w0 (a :: b :: c :: e :: d :: L) w := h.under (fun h => h.s2) fun _ h => foot_under (foot_under foot1) h
theorem St.s4 (h : St base w0 (a :: b :: c :: d :: e :: f :: L) w) : St base w0 (a :: b :: c :: d :: f :: e :: L) w := h.under (fun h => h.s3) fun _ h => foot_under (foot_under (foot_under foot1)) h
theorem St.s5 (h : St base w0 (a :: b :: c :: d :: e :: f :: g :: L) w) : St base w0 (a :: b :: c :: d :: e :: g :: f :: L) w := h.under (fun h => h.s4) fun _ h => foot_under (foot_under (foot_under (foot_under foot1))) h
theorem St.f2 (h : St base w0 (a :: b :: c :: L) w) : St base w0 (c :: a :: b :: L) w := h.s1.f1
theorem St.f3 (h : St base w0 (a :: b :: c :: d :: L) w) : St base w0 (d :: a :: b :: c :: L) w := h.s2.f2
theorem St.f4 (h : St base w0 (a :: b :: c :: d :: e :: L) w) : St base w0 (e :: a :: b :: c :: d :: L) w := h.s3.f3
theorem St.f5 (h : St base w0 (a :: b :: c :: d :: e :: f :: L) w) : St base w0 (f :: a :: b :: c :: d :: e :: L) w := h.s4.f4
theorem St.f6 (h : St base w0 (a :: b :: c :: d :: e :: f :: g :: L) w) : St base w0 (g :: a :: b :: c :: d :: e :: f :: L) w := h.s5.f5
theorem St.b2 (h : St base w0 (c :: a :: b :: L) w) : St base w0 (a :: b :: c :: L) w := h.f1.s1
theorem St.b3 (h : St base w0 (d :: a :: b :: c :: L) w) : St base w0 (a :: b :: c :: d :: L) w := h.b2.s2
theorem St.b4 (h : St base w0 (e :: a :: b :: c :: d :: L) w) : St base w0 (a :: b :: c :: d :: e :: L) w := h.b3.s3
theorem St.b5 (h : St base w0 (f :: a :: b :: c :: d :: e :: L) w) : St base w0 (a :: b :: c :: d :: e :: f :: L) w := h.b4.s4
theorem St.b6 (h : St base w0 (g :: a :: b :: c :: d :: e :: f :: L) w) : St base w0 (a :: b :: c :: d :: e :: f :: g :: L) w := h.b5.s5
theorem St.g0 (h : St base w0 (a :: L) w) : a.holds w := h.star.1
theorem St.g1 (h : St base w0 (a :: b :: L) w) : b.holds w := h.star.2.2.1
theorem St.g2 (h : St base w0 (a :: b :: c :: L) w) : c.holds w := h.star.2.2.2.2.1
theorem St.g3 (h : St base w0 (a :: b :: c :: d :: L) w) : d.holds w := h.star.2.2.2.2.2.2.1
theorem St.g4 (h : St base w0 (a :: b :: c :: d :: e :: L) w) : e.holds w := h.star.2.2.2.2.2.2.2.2.1
theorem St.g5 (h : St base w0 (a :: b :: c :: d :: e :: f :: L) w) : f.holds w := h.star.2.2.2.2.2.2.2.2.2.2.1
theorem St.g6 (h : St base w0 (a :: b :: c :: d :: e :: f :: g :: L) w) : g.holds w := h.star.2.2.2.2.2.2.2.2.2.2.2.2.1
theorem St.m0 {t bm : Nat} {m : Mach} (h : St base w0 (Asn.mb t bm m :: L) w) : MB w t bm m := h.g0
theorem St.o0 {bs t : Nat} {v : Value} {cs : List Value} (h : St base w0 (Asn.own bs t v cs :: L) w) : Own w bs t v cs := h.g0
theorem St.k0 {bn t : Nat} {cs : Array Value} (h : St base w0 (Asn.blk bn cs t :: L) w) : w.heap[bn]? = some (.cells cs t (0, 0)) := h.g0
theorem St.m1 {t bm : Nat} {m : Mach} (h : St base w0 (a :: Asn.mb t bm m :: L) w) : MB w t bm m := h.g1
theorem St.o1 {bs t : Nat} {v : Value} {cs : List Value} (h : St base w0 (a :: Asn.own bs t v cs :: L) w) : Own w bs t v cs := h.g1
theorem St.k1 {bn t : Nat} {cs : Array Value} (h : St base w0 (a :: Asn.blk bn cs t :: L) w) : w.heap[bn]? = some (.cells cs t (0, 0)) := h.g1
theorem St.m2 {t bm : Nat} {m : Mach} (h : St base w0 (a :: b :: Asn.mb t bm m :: L) w) : MB w t bm m := h.g2
theorem St.o2 {bs t : Nat} {v : Value} {cs : List Value} (h : St base w0 (a :: b :: Asn.own bs t v cs :: L) w) : Own w bs t v cs := h.g2
theorem St.k2 {bn t : Nat} {cs : Array Value} (h : St base w0 (a :: b :: Asn.blk bn cs t :: L) w) : w.heap[bn]? = some (.cells cs t (0, 0)) := h.g2
theorem St.m3 {t bm : Nat} {m : Mach} (h : St base w0 (a :: b :: c :: Asn.mb t bm m :: L) w) : MB w t bm m := h.g3
theorem St.o3 {bs t : Nat} {v : Value} {cs : List Value} (h : St base w0 (a :: b :: c :: Asn.own bs t v cs :: L) w) : Own w bs t v cs := h.g3
theorem St.k3 {bn t : Nat} {cs : Array Value} (h : St base w0 (a :: b :: c :: Asn.blk bn cs t :: L) w) : w.heap[bn]? = some (.cells cs t (0, 0)) := h.g3
theorem St.m4 {t bm : Nat} {m : Mach} (h : St base w0 (a :: b :: c :: d :: Asn.mb t bm m :: L) w) : MB w t bm m := h.g4
theorem St.o4 {bs t : Nat} {v : Value} {cs : List Value} (h : St base w0 (a :: b :: c :: d :: Asn.own bs t v cs :: L) w) : Own w bs t v cs := h.g4
theorem St.k4 {bn t : Nat} {cs : Array Value} (h : St base w0 (a :: b :: c :: d :: Asn.blk bn cs t :: L) w) : w.heap[bn]? = some (.cells cs t (0, 0)) := h.g4
theorem St.m5 {t bm : Nat} {m : Mach} (h : St base w0 (a :: b :: c :: d :: e :: Asn.mb t bm m :: L) w) : MB w t bm m := h.g5
theorem St.o5 {bs t : Nat} {v : Value} {cs : List Value} (h : St base w0 (a :: b :: c :: d :: e :: Asn.own bs t v cs :: L) w) : Own w bs t v cs := h.g5
theorem St.k5 {bn t : Nat} {cs : Array Value} (h : St base w0 (a :: b :: c :: d :: e :: Asn.blk bn cs t :: L) w) : w.heap[bn]? = some (.cells cs t (0, 0)) := h.g5
/-- From an outer view to an inner one: what is kept from here on. -/
theorem St.inner (h : St base w0 L w) (hlt : base ≤ w.heap.size) : St w.heap.size w [] w := St.start w
theorem St.outer (h : St base w0 L w) {L' : List Asn} (h' : St w.heap.size w L' w') : St base w0 L w' := h.call h'.bel

/-- The one part at hand, turned by a callee that leaves all below 'base' as it was. -/
theorem St.only (h : St base w0 [a] w) (ha : a'.holds w') (hb : Below base w w') : St base w0 [a'] w' :=
  ⟨h.bel.trans hb, Nat.le_trans h.le hb.size, ha, fun _ _ hF => hF, trivial⟩

/-! Steps. -/
theorem St.setBlk {bn : Nat} {cs : Array Value} {t : Nat} (h : St base w0 (Asn.blk bn cs t :: L) w) (hb : base ≤ bn) (i : Nat) (u : Value) : St base w0 (Asn.blk bn (cs.setIfInBounds i u) t :: L) (w.setCell ⟨bn, i, none⟩ u) :=
  h.turn (a' := Asn.blk bn (cs.setIfInBounds i u) t) (heap_setCell_same w bn i _ _ _ h.star.1) (fun k hk => .inl hk) (fun k hk => (show k = bn from hk) ▸ hb) ((Below.refl _ _).setCell hb u)
    fun k _ hk => heap_setCell_other w ⟨bn, i, none⟩ k u hk
theorem St.setOwn {t gn n cap : Nat} {cs : List Value} (h : St base w0 (Asn.own base t (.slice (some ⟨gn, 0, none⟩) n cap) cs :: L) w) (hn : cs.length = n) (i : Nat) (u : Value) (hi : i < n) : St base w0 (Asn.own base t (.slice (some ⟨gn, 0, none⟩) n cap) (cs.set i u) :: L) (w.setCell ⟨gn, i, none⟩ u) :=
  have hb : base ≤ gn := ((show Own w base t _ cs from h.star.1).lt gn rfl).1
  h.turn (a' := Asn.own base t _ (cs.set i u)) (Own.set h.star.1 hn i u hi) (fun k hk => .inl hk) (fun k hk => ((show Own w base t _ cs from h.star.1).lt k hk).1) ((Below.refl _ _).setCell hb u)
    fun k _ hk => heap_setCell_other w ⟨gn, i, none⟩ k u fun e => hk (show Value.ownBlock _ = some k by rw [e]; rfl)
theorem St.setNx {t bn : Nat} {m : Mach} (h : St base w0 (Asn.mb t bn m :: L) w) (hb : base ≤ bn) (q x v : Nat) (hq : q < 16) (hx : x < 3) : St base w0 (Asn.mb t bn { m with nx := upd m.nx (q * 3 + x) v } :: L) (w.setCell ⟨bn, 2 + q * 3 + x, none⟩ (.int .u8 (v : Nat))) :=
  h.turn (a' := Asn.mb t bn _) (MB.setNx h.star.1 q x v hq hx) (fun k hk => .inl hk) (fun k hk => (show k = bn from hk) ▸ hb) ((Below.refl _ _).setCell hb _) fun k _ hk => heap_setCell_other w ⟨bn, _, none⟩ k _ hk
theorem St.setOt {t bn : Nat} {m : Mach} (h : St base w0 (Asn.mb t bn m :: L) w) (hb : base ≤ bn) (q x v : Nat) (hq : q < 16) (hx : x < 3) : St base w0 (Asn.mb t bn { m with ot := upd m.ot (q * 3 + x) v } :: L) (w.setCell ⟨bn, 50 + q * 3 + x, none⟩ (.int .u8 (v : Nat))) :=
  h.turn (a' := Asn.mb t bn _) (MB.setOt h.star.1 q x v hq hx) (fun k hk => .inl hk) (fun k hk => (show k = bn from hk) ▸ hb) ((Below.refl _ _).setCell hb _) fun k _ hk => heap_setCell_other w ⟨bn, _, none⟩ k _ hk
theorem St.setM {t bn : Nat} {m m' : Mach} (h : St base w0 (Asn.mb t bn m :: L) w) (hb : base ≤ bn) (p : MB w' t bn m') (ho : ∀ k, k ≠ bn → w'.heap[k]? = w.heap[k]?) (hbl : ∀ (B : Nat) (a : World), B ≤ bn → Below B a w → Below B a w') : St base w0 (Asn.mb t bn m' :: L) w' :=
  h.turn (a' := Asn.mb t bn m') p (fun k hk => .inl hk) (fun k hk => (show k = bn from hk) ▸ hb) (hbl base w hb (Below.refl _ _)) fun k _ hk => ho k hk
/-- Behind an append of one element. -/
theorem St.appd {t gn n cap : Nat} {v : Value} {cs cs' : List Value} (h : St base w0 (Asn.own base t v cs :: L) w) (hO : Own w' base t (.slice (some ⟨gn, 0, none⟩) n cap) cs') (hb : Below base w w') (hold : ∀ k, k < w.heap.size → v.ownBlock ≠ some k → w'.heap[k]? = w.heap[k]?)
    (hg : v.ownBlock = some gn ∨ w.heap.size ≤ gn) : St base w0 (Asn.own base t (.slice (some ⟨gn, 0, none⟩) n cap) cs' :: L) w' :=
  h.turn (a' := Asn.own base t _ cs') hO (fun k hk => by
    have e : gn = k := by simpa [Asn.own, Value.ownBlock] using hk
    subst e
    exact hg) (fun k hk => ((show Own w base t v cs from h.star.1).lt k hk).1) hb fun k hk hne => hold k hk hne
/-- A row appended to a slice of slices; the row's part goes into it. -/
theorem St.appdM {gn n cap : Nat} {v r : Value} {rows : List Value} {M : List (List Int)} {l : List Int} (h : St base w0 (Asn.mat base v rows M :: Asn.own base 2 r (ints l) :: L) w)
    (hO : Own w' base 22 (.slice (some ⟨gn, 0, none⟩) n cap) (rows ++ [r])) (hb : Below base w w') (hold : ∀ k, k < w.heap.size → v.ownBlock ≠ some k → w'.heap[k]? = w.heap[k]?)
    (hg : v.ownBlock = some gn ∨ w.heap.size ≤ gn) : St base w0 (Asn.mat base (.slice (some ⟨gn, 0, none⟩) n cap) (rows ++ [r]) (M ++ [l]) :: L) w' := by
  obtain ⟨⟨h1, h2, h3⟩, hf, hr, hf2, hL⟩ := h.star
  have keepR : ∀ (i : Nat) (r' : Value) (l' : List Int), rows[i]? = some r' → M[i]? = some l' → Own w' base 2 r' (ints l') := fun i r' l' hr' hl' =>
    (h3 i r' l' hr' hl').keep fun k hk => hold k ((h3 i r' l' hr' hl').lt k hk).2 ((h3 i r' l' hr' hl').ne h1 (by decide) k hk)
  have keepN : Own w' base 2 r (ints l) := Own.keep hr fun k hk => hold k (Own.lt hr k hk).2 (Own.ne hr h1 (by decide) k hk)
  have hold2 : ∀ k, k < w.heap.size → ¬ v.ownBlock = some k → w'.heap[k]? = w.heap[k]? := hold
  refine ⟨h.bel.trans hb, Nat.le_trans h.le hb.size, ⟨hO, by simp [h2], fun i r' l' e1 e2 => ?_⟩, fun k hk hF => ?_, hL.keep fun k hk => hold2 k (hL.lt k hk) fun e => hf k (.inl e) (.inr hk)⟩
  · by_cases hi : i < rows.length
    · rw [List.getElem?_append_left hi] at e1
      rw [List.getElem?_append_left (by omega)] at e2
      exact keepR i r' l' e1 e2
    · have hi2 : i = rows.length := by
        have := (List.getElem?_eq_some_iff.1 e1).1
        simp at this; omega
      subst hi2
      rw [List.getElem?_append_right (Nat.le_refl _)] at e1
      rw [List.getElem?_append_right (by omega)] at e2
      simp at e1
      simp [h2] at e2
      subst e1; subst e2
      exact keepN
  · have hlt := hL.lt k hF
    rcases hk with hk | ⟨r', hr', hk⟩
    · have e : gn = k := by simpa [Value.ownBlock] using hk
      subst e
      rcases hg with hg | hg
      · exact hf gn (.inl hg) (.inr hF)
      · omega
    · rcases List.mem_append.1 hr' with hr' | hr'
      · exact hf k (.inr ⟨r', hr', hk⟩) (.inr hF)
      · rw [List.mem_singleton.1 hr'] at hk
        exact hf2 k hk hF
end

section
variable {ops : Array Oper} {rest : List Oper} {o : Oper} {act : Act} {W w0 : World} {Q : Exit → Act → World → Prop} {L : List Asn} {base : Nat}
/-- One number appended to the part at hand, as the walk meets it (behind its box). -/
theorem St.app (t e : TypeId) (z : Value) (bytes : Nat)
    (ht : Try.prog.underlying t = some (.slice e)) (hinfo : (Try.prog.info? e).map (fun i => (i.zero, i.size, i.bytes)) = some (some z, 1, bytes)) (hz : z.cells.size = 1) (hb : bytes ≤ 64)
    (hgd : o.guard = none) (s x : Operand) (ho : o.op = .call { callee := .builtin .append, args := #[s, x], argTypes := #[t, t] })
    (v : Value) (cs : List Value) (hs : act.eval s = v) (hS : St base w0 (Asn.own base e v cs :: L) W) (c : Value) (hc1 : c.oneCell' = true)
    (hx : act.eval x = .slice (some ⟨W.heap.size, 0, none⟩) 1 1) (n : Nat) (hn : cs.length = n) (hlen : n ≤ 1000000000)
    (h : ∀ g cap w', St base w0 (Asn.own base e (.slice (some ⟨g, 0, none⟩) (n + 1) cap) (cs ++ [c]) :: L) w' → wpList Try.prog ops Q rest (act.put o.dst (.slice (some ⟨g, 0, none⟩) (n + 1) cap)) w') :
    wpList Try.prog ops Q (o :: rest) act (W.alloc (.cells #[c] e)) := by
  subst hn
  refine app1 t e z bytes ht hinfo hz hb hgd s x ho base v cs hs hS.star.1 hS.le c hc1 hx hlen ?_
  intro g cap w' h1 h2 h3 h4 h5
  exact h g cap w' (hS.appd h1 h2 h3 (h5.imp id Nat.le_of_lt))
/-- A row appended. -/
theorem St.appM (hgd : o.guard = none) (s x : Operand) (ho : o.op = .call { callee := .builtin .append, args := #[s, x], argTypes := #[75, 75] })
    (v r : Value) (rows : List Value) (M : List (List Int)) (l : List Int) (hs : act.eval s = v) (hS : St base w0 (Asn.mat base v rows M :: Asn.own base 2 r (ints l) :: L) W)
    (hx : act.eval x = .slice (some ⟨W.heap.size, 0, none⟩) 1 1) (n : Nat) (hn : M.length = n) (hlen : n ≤ 1000000000)
    (h : ∀ g cap w', St base w0 (Asn.mat base (.slice (some ⟨g, 0, none⟩) (n + 1) cap) (rows ++ [r]) (M ++ [l]) :: L) w' → wpList Try.prog ops Q rest (act.put o.dst (.slice (some ⟨g, 0, none⟩) (n + 1) cap)) w') :
    wpList Try.prog ops Q (o :: rest) act (W.alloc (.cells #[r] 22)) := by
  have hl := hS.star.1.2.1
  obtain rfl : rows.length = n := hl.trans hn
  have hr1 : r.oneCell' = true := Own.oneCell hS.star.2.2.1
  refine app1 75 22 (.slice none 0 0) 24 Try.underlying75 info_ints rfl (by omega) hgd s x ho base v rows hs hS.star.1.1 hS.le r hr1 hx hlen ?_
  intro g cap w' h1 h2 h3 h4 h5
  exact h g cap w' (hS.appdM h1 h2 h3 (h5.imp id Nat.le_of_lt))
end
section
variable {ops : Array Oper} {o : Oper} {act : Act} {W w0 : World} {K : Act → World → Prop} {Q : Exit → Act → World → Prop} {E : Prop} {L : List Asn} {base : Nat}
/-- One element appended at a step of a region that draws: it lies in a box. -/
theorem St.step1 (t e tb : TypeId) (z : Value) (bytes : Nat)
    (ht : Try.prog.underlying t = some (.slice e)) (hinfo : (Try.prog.info? e).map (fun i => (i.zero, i.size, i.bytes)) = some (some z, 1, bytes)) (hz : z.cells.size = 1) (hb : bytes ≤ 64)
    (hgd : o.guard = none) (s x : Operand) (ho : o.op = .call { callee := .builtin .append, args := #[s, x], argTypes := #[t, t] })
    (v : Value) (cs : List Value) (hs : act.eval s = v) {B : Nat} {c : Value} (hS : St base w0 (Asn.own base e v cs :: Asn.blk B #[c] tb :: L) W) (hc1 : c.oneCell' = true)
    (hx : act.eval x = .slice (some ⟨B, 0, none⟩) 1 1) (n : Nat) (hn : cs.length = n) (hlen : n ≤ 1000000)
    (h : ∀ g cap w', St base w0 (Asn.own base e (.slice (some ⟨g, 0, none⟩) (n + 1) cap) (cs ++ [c]) :: Asn.blk B #[c] tb :: L) w' → K (act.put o.dst (.slice (some ⟨g, 0, none⟩) (n + 1) cap)) w') :
    if Region.wanted o (yielded ops act.tmps) = true then Oper.wp Try.prog o act W K Q else E := by
  subst hn
  have hB : W.cell? ⟨B, 0, none⟩ = some c := cell_of_row W B 0 _ _ _ hS.star.2.2.1
  refine step_app1 t e z bytes ht hinfo hz hb hgd s x ho base v cs hs hS.star.1 hS.le B c hc1 hB hx (by omega) ?_
  intro g cap w' h1 h2 h3 h4
  exact h g cap w' (hS.appd h1 h2 h3 (h4.imp id (fun e => Nat.le_of_eq e.symm)))
/-- A row appended at a step of a region that draws: it lies in a box. -/
theorem St.stepM (tb : TypeId) (hgd : o.guard = none) (s x : Operand) (ho : o.op = .call { callee := .builtin .append, args := #[s, x], argTypes := #[75, 75] })
    (v r : Value) (rows : List Value) (M : List (List Int)) (l : List Int) (hs : act.eval s = v) {B : Nat} (hS : St base w0 (Asn.mat base v rows M :: Asn.own base 2 r (ints l) :: Asn.blk B #[r] tb :: L) W) (B' : Nat)
    (hx : act.eval x = .slice (some ⟨B, 0, none⟩) 1 1) (n : Nat) (hn : M.length = n) (hlen : n ≤ 1000000)
    (h : ∀ g cap w', St base w0 (Asn.mat base (.slice (some ⟨g, 0, none⟩) (n + 1) cap) (rows ++ [r]) (M ++ [l]) :: Asn.blk B #[r] tb :: L) w' → K (act.put o.dst (.slice (some ⟨g, 0, none⟩) (n + 1) cap)) w') :
    if Region.wanted o (yielded ops act.tmps) = true then Oper.wp Try.prog o act W K Q else E := by
  have hl := hS.star.1.2.1
  obtain rfl : rows.length = n := hl.trans hn
  have hr1 : r.oneCell' = true := Own.oneCell hS.star.2.2.1
  have hB : W.cell? ⟨B, 0, none⟩ = some r := cell_of_row W B 0 _ _ _ hS.star.2.2.2.2.1
  refine step_app1 75 22 (.slice none 0 0) 24 Try.underlying75 info_ints rfl (by omega) hgd s x ho base v rows hs hS.star.1.1 hS.le B r hr1 hB hx (by omega) ?_
  intro g cap w' h1 h2 h3 h4
  exact h g cap w' (hS.appdM h1 h2 h3 (h4.imp id (fun e => Nat.le_of_eq e.symm)))
end
/-- One row of a slice of slices. -/
theorem Asn.row {base g n cap : Nat} {rows : List Value} {M : List (List Int)} {w : World} (h : (Asn.mat base (.slice (some ⟨g, 0, none⟩) n cap) rows M).holds w) (i : Nat) (l : List Int) (hl : M[i]? = some l) :
    ∃ r, w.cell? ⟨g, i, none⟩ = some r ∧ Own w base 2 r (ints l) := by
  have hi : i < rows.length := by rw [h.2.1]; exact (List.getElem?_eq_some_iff.1 hl).1
  obtain ⟨r, hr⟩ : ∃ r, rows[i]? = some r := ⟨_, List.getElem?_eq_getElem hi⟩
  exact ⟨r, h.1.cellAt i r hr, h.2.2 i r l hr hl⟩
theorem Asn.ofMat {w : World} {base : Nat} {v : Value} {M : List (List Int)} (h : Mat w base v M) : ∃ rows, (Asn.mat base v rows M).holds w := h
theorem Asn.toMat {w : World} {base : Nat} {v : Value} {M : List (List Int)} {rows : List Value} (h : (Asn.mat base v rows M).holds w) : Mat w base v M := ⟨rows, h⟩
theorem Asn.mat_ge {w : World} {base : Nat} {v : Value} {M : List (List Int)} {rows : List Value} (h : (Asn.mat base v rows M).holds w) : ∀ k, (Asn.mat base v rows M).foot k → base ≤ k := fun k hk => by
  rcases hk with hk | ⟨r, hr, hk⟩
  · exact (h.1.lt k hk).1
  · obtain ⟨i, hi, rfl⟩ := List.getElem_of_mem hr
    exact ((h.2.2 i _ _ (List.getElem?_eq_getElem hi) (List.getElem?_eq_getElem (by rw [← h.2.1]; exact hi))).lt k hk).1
theorem St.callMat {base : Nat} {w0 w w' : World} {L : List Asn} {v : Value} {M : List (List Int)} (h : St base w0 L w) (hb : Below w.heap.size w w') (ha : Mat w' w.heap.size v M) : ∃ rows, St base w0 (Asn.mat base v rows M :: L) w' := by
  obtain ⟨rows, hr⟩ := Asn.ofMat ha
  exact ⟨rows, h.callPush (a := Asn.mat base v rows M) hb ⟨hr.1.mono h.le, hr.2.1, fun i r l h1 h2 => (hr.2.2 i r l h1 h2).mono h.le⟩ fun k hk => Asn.mat_ge hr k hk⟩
end Go.Proofs.Ythempofohidlnaa
