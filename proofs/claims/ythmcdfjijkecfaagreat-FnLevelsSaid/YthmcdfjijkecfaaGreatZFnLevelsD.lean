/- What the proof of FnLevels leans on, part 4 of 19. -/
import Derived.Test.YthmcdfjijkecfaaGreatZFnLevelsC
/- What a call holds of its memory: parts that lie apart, carried as one fact. -/
namespace Go.Proofs.YthmcdfjijkecfaaGreat
open Go.RowKit
set_option linter.unusedVariables false
set_option linter.unusedSimpArgs false

/-- A part of the memory: the blocks that it has, and what they hold. -/
structure Asn where
  foot : Nat → Prop
  holds : World → Prop
  keep : ∀ {w w' : World}, holds w → (∀ k, foot k → w'.heap[k]? = w.heap[k]?) → holds w'
  lt : ∀ {w : World}, holds w → ∀ k, foot k → k < w.heap.size

def Asn.own (base e : Nat) (v : Value) (cs : List Value) : Asn := ⟨fun k => v.ownBlock = some k, fun w => Own w base e v cs, fun h hk => h.keep hk, fun h k hk => (h.lt k hk).2⟩
def Asn.mb (t b : Nat) (m : Mach) : Asn := ⟨fun k => k = b, fun w => MB w t b m, fun h hk => World.rowIs.of_block h (hk b rfl), fun h k hk => hk ▸ h.lt⟩
def Asn.blk (b : Nat) (cs : Array Value) (t : Nat) : Asn := ⟨fun k => k = b, fun w => w.heap[b]? = some (.cells cs t (0, 0)), fun h hk => (hk b rfl).trans h, fun h k hk => hk ▸ (Array.getElem?_eq_some_iff.1 h).1⟩
/-- A slice of slices of numbers. -/
def Asn.mat (base : Nat) (v : Value) (rows : List Value) (M : List (List Int)) : Asn :=
  ⟨fun k => v.ownBlock = some k ∨ ∃ r ∈ rows, r.ownBlock = some k,
   fun w => Own w base 32 v rows ∧ rows.length = M.length ∧ ∀ (i : Nat) (r : Value) (l : List Int), rows[i]? = some r → M[i]? = some l → Own w base 2 r (ints l),
   fun h hk => ⟨h.1.keep fun k hk' => hk k (.inl hk'), h.2.1, fun i r l hr hl => (h.2.2 i r l hr hl).keep fun k hk' => hk k (.inr ⟨r, List.mem_of_getElem? hr, hk'⟩)⟩,
   fun h k hk => by
    rcases hk with hk | ⟨r, hr, hk⟩
    · exact (h.1.lt k hk).2
    · obtain ⟨i, hi, rfl⟩ := List.getElem_of_mem hr
      exact ((h.2.2 i _ _ (List.getElem?_eq_getElem hi) (List.getElem?_eq_getElem (by rw [← h.2.1]; exact hi))).lt k hk).2⟩

def Foot : List Asn → Nat → Prop
  | [], _ => False
  | a :: L, k => a.foot k ∨ Foot L k
def Star : List Asn → World → Prop
  | [], _ => True
  | a :: L, w => a.holds w ∧ (∀ k, a.foot k → ¬ Foot L k) ∧ Star L w

section
variable {w w' w0 : World} {L : List Asn} {a a' b c d e f g : Asn} {base : Nat}
theorem Star.lt : ∀ {L : List Asn}, Star L w → ∀ k, Foot L k → k < w.heap.size
  | [], _, _, h => h.elim
  | a :: L, h, k, hk => hk.elim (fun hk => a.lt h.1 k hk) (fun hk => Star.lt h.2.2 k hk)
theorem Star.keep : ∀ {L : List Asn}, Star L w → (∀ k, Foot L k → w'.heap[k]? = w.heap[k]?) → Star L w'
  | [], _, _ => trivial
  | a :: L, h, hk => ⟨a.keep h.1 fun k h' => hk k (.inl h'), h.2.1, Star.keep h.2.2 fun k h' => hk k (.inr h')⟩

/-- What a call holds: what was there below 'base' is as it was, and the parts lie apart. -/
structure St (base : Nat) (w0 : World) (L : List Asn) (w : World) : Prop where
  bel : Below base w0 w
  le : base ≤ w.heap.size
  star : Star L w

theorem St.start (w0 : World) : St w0.heap.size w0 [] w0 := ⟨Below.refl _ _, Nat.le_refl _, trivial⟩
theorem St.alloc (h : St base w0 L w) (o : Obj) : St base w0 L (w.alloc o) :=
  ⟨h.bel.alloc h.le o, by rw [heap_alloc_size]; exact Nat.le_succ_of_le h.le, h.star.keep fun k hk => Below.heap_alloc w o k (h.star.lt k hk)⟩
theorem St.drew (h : St base w0 L w) : St base w0 L w.drew := ⟨h.bel.drew, h.le, h.star.keep fun _ _ => rfl⟩
theorem St.drewN (h : St base w0 L w) (n : Nat) : St base w0 L (w.drewN n) := ⟨below_drewN h.bel n, h.le, h.star.keep fun _ _ => rfl⟩
theorem St.call (h : St base w0 L w) (hb : Below w.heap.size w w') : St base w0 L w' :=
  ⟨h.bel.trans (hb.mono h.le), Nat.le_trans h.le hb.size, h.star.keep fun k hk => hb.block k (h.star.lt k hk)⟩
theorem St.push (h : St base w0 L w) (ha : a.holds w) (hf : ∀ k, a.foot k → ¬ Foot L k) : St base w0 (a :: L) w := ⟨h.bel, h.le, ha, hf, h.star⟩
/-- A new part that a callee made. -/
theorem St.callPush (h : St base w0 L w) (hb : Below w.heap.size w w') (ha : a.holds w') (hf : ∀ k, a.foot k → w.heap.size ≤ k) : St base w0 (a :: L) w' :=
  (h.call hb).push ha fun k hk hL => by have h1 := h.star.lt k hL; have h2 := hf k hk; omega
theorem St.callOwn {t : Nat} {v : Value} {cs : List Value} (h : St base w0 L w) (hb : Below w.heap.size w w') (ha : Own w' w.heap.size t v cs) : St base w0 (Asn.own base t v cs :: L) w' :=
  h.callPush (a := Asn.own base t v cs) hb (ha.mono h.le) fun k hk => (ha.lt k hk).1
/-- A new block. -/
theorem St.allocPush (h : St base w0 L w) (o : Obj) (ha : a.holds (w.alloc o)) (hf : ∀ k, a.foot k → k = w.heap.size) : St base w0 (a :: L) (w.alloc o) :=
  (h.alloc o).push ha fun k hk hL => by have h1 := h.star.lt k hL; have h2 := hf k hk; omega
theorem St.newBlk (h : St base w0 L w) (cs : Array Value) (t : Nat) : St base w0 (Asn.blk w.heap.size cs t :: L) (w.alloc (.cells cs t)) :=
  h.allocPush (a := Asn.blk w.heap.size cs t) _ (heap_alloc_new w _) fun _ hk => hk
theorem St.newMB (h : St base w0 L w) (m : Mach) (t : Nat) : St base w0 (Asn.mb t w.heap.size m :: L) (w.alloc (.cells (mcells m) t)) :=
  h.allocPush (a := Asn.mb t w.heap.size m) _ (MB.new w m t) fun _ hk => hk
theorem St.nilOwn (h : St base w0 L w) (t : Nat) : St base w0 (Asn.own base t (.slice none 0 0) [] :: L) w := h.push (a := Asn.own base t _ []) (Own.nil _ _ _) fun k hk => by cases hk
theorem St.newOwn (h : St base w0 L w) (cs : List Value) (t : Nat) (hm : cs.length ≤ 1000000) : St base w0 (Asn.own base t (.slice (some ⟨w.heap.size, 0, none⟩) cs.length cs.length) cs :: L) (w.alloc (.cells cs.toArray t)) :=
  h.allocPush (a := Asn.own base t _ cs) _ (Own.lit w base t cs h.le hm) fun k hk => by
    have : w.heap.size = k := by simpa [Asn.own, Value.ownBlock] using hk
    exact this.symm
theorem St.newArr (h : St base w0 L w) (cs : Array Value) (n : Nat) (hn : cs.size = n) (t : Nat) (hm : n ≤ 1000000) : St base w0 (Asn.own base t (.slice (some ⟨w.heap.size, 0, none⟩) n n) cs.toList :: L) (w.alloc (.cells cs t)) := by
  subst hn
  have := h.newOwn cs.toList t (by rw [Array.length_toList]; exact hm)
  rw [Array.length_toList] at this
  exact this
/-- The part at hand turned: it has what it had, or new blocks; the rest is as it was. -/
theorem St.turn (h : St base w0 (a :: L) w) (ha : a'.holds w') (hf : ∀ k, a'.foot k → a.foot k ∨ w.heap.size ≤ k) (hb : ∀ k, a.foot k → base ≤ k)
    (hs : Below base w w') (hk : ∀ k, k < w.heap.size → ¬ a.foot k → w'.heap[k]? = w.heap[k]?) : St base w0 (a' :: L) w' :=
  ⟨h.bel.trans hs, Nat.le_trans h.le hs.size, ha, fun k hk' hL => by
    rcases hf k hk' with h1 | h1
    · exact h.star.2.1 k h1 hL
    · have := h.star.2.2.lt k hL; omega,
   h.star.2.2.keep fun k hL => hk k (h.star.2.2.lt k hL) fun h1 => h.star.2.1 k h1 hL⟩
theorem St.drop (h : St base w0 (a :: L) w) : St base w0 L w := ⟨h.bel, h.le, h.star.2.2⟩
theorem St.nothing (h : St base w0 L w) : St base w0 [] w := ⟨h.bel, h.le, trivial⟩
/-! Which part is at hand: 'fI' brings number I to the front, 'bI' lays the front at I. -/
theorem St.f1 (h : St base w0 (a :: b :: L) w) : St base w0 (b :: a :: L) w :=
  ⟨h.bel, h.le, h.star.2.2.1, fun k hk hL => hL.elim (fun ha => h.star.2.1 k ha (.inl hk)) (fun hL => h.star.2.2.2.1 k hk hL), h.star.1, fun k hk hL => h.star.2.1 k hk (.inr hL), h.star.2.2.2.2⟩
theorem St.under {L' : List Asn} (h : St base w0 (a :: L) w) (hL : St base w0 L w → St base w0 L' w) (hF : ∀ k, Foot L' k → Foot L k) : St base w0 (a :: L') w :=
  ⟨h.bel, h.le, h.star.1, fun k hk h' => h.star.2.1 k hk (hF k h'), (hL h.drop).star⟩
theorem foot1 {k : Nat} (h : Foot (b :: a :: L) k) : Foot (a :: b :: L) k := h.elim (fun h => .inr (.inl h)) fun h => h.elim .inl fun h => .inr (.inr h)
theorem St.s1 (h : St base w0 (a :: b :: c :: L) w) : St base w0 (a :: c :: b :: L) w := h.under (fun h => h.f1) fun _ h => foot1 h
theorem foot_under {L L' : List Asn} {k : Nat} (hL : Foot L' k → Foot L k) (h : Foot (a :: L') k) : Foot (a :: L) k := h.imp id hL
theorem St.s2 (h : St base w0 (a :: b :: c :: d :: L) w) : St base w0 (a :: b :: d :: c :: L) w := h.under (fun h => h.s1) fun _ h => foot_under foot1 h
theorem St.s3 (h : St base w0 (a :: b :: c :: d :: e :: L) w) : St base w0 (a :: b :: c :: e :: d :: L) w := h.under (fun h => h.s2) fun _ h => foot_under (foot_under foot1) h
theorem St.s4 (h : St base w0 (a :: b :: c :: d :: e :: f :: L) w) : St base w0 (a :: b :: c :: d :: f :: e :: L) w := h.under (fun h => h.s3) fun _ h => foot_under (foot_under (foot_under foot1)) h
theorem St.s5 (h : St base w0 (a :: b :: c :: d :: e :: f :: g :: L) w) : St base w0 (a :: b :: c :: d :: e :: g :: f :: L) w := h.under (fun h => h.s4) fun _ h => foot_under (foot_under (foot_under (foot_under foot1))) h
theorem St.f2 (h : St base w0 (a :: b :: c :: L) w) : St base w0 (c :: a :: b :: L) w := h.s1.f1
theorem St.f3 (h : St base w0 (a :: b :: c :: d :: L) w) : St base w0 (d :: a :: b :: c :: L) w := h.s2.f2
theorem St.f4 (h : St base w0 (a :: b :: c :: d :: e :: L) w) : St base w0 (e :: a :: b :: c :: d :: L) w := h.s3.f3
theorem St.f5 (h : St base w0 (a :: b :: c :: d :: e :: f :: L) w) : St base w0 (f :: a :: b :: c :: d :: e :: L) w := h.s4.f4
theorem St.f6 (h : St base w0 (a :: b :: c :: d :: e :: f :: g :: L) w) : St base w0 (g :: a :: b :: c :: d :: e :: f :: L) w := h.s5.f5
theorem St.b2 (h : St base w0 (c :: a :: b :: L) w) : St base w0 (a :: b :: c :: L) w := h.f1.s1
theorem St.b3 (h : St base w0 (d :: a :: b :: c :: L) w) : St base w0 (a :: b :: c :: d :: L) w := h.b2.s2
theorem St.b4 (h : St base w0 (e :: a :: b :: c :: d :: L) w) : St base w0 (a :: b :: c :: d :: e :: L) w := h.b3.s3
theorem St.b5 (h : St base w0 (f :: a :: b :: c :: d :: e :: L) w) : St base w0 (a :: b :: c :: d :: e :: f :: L) w := h.b4.s4
theorem St.b6 (h : St base w0 (g :: a :: b :: c :: d :: e :: f :: L) w) : St base w0 (a :: b :: c :: d :: e :: f :: g :: L) w := h.b5.s5
theorem St.g0 (h : St base w0 (a :: L) w) : a.holds w := h.star.1
theorem St.g1 (h : St base w0 (a :: b :: L) w) : b.holds w := h.star.2.2.1
theorem St.g2 (h : St base w0 (a :: b :: c :: L) w) : c.holds w := h.star.2.2.2.2.1
theorem St.g3 (h : St base w0 (a :: b :: c :: d :: L) w) : d.holds w := h.star.2.2.2.2.2.2.1
theorem St.g4 (h : St base w0 (a :: b :: c :: d :: e :: L) w) : e.holds w := h.star.2.2.2.2.2.2.2.2.1
theorem St.g5 (h : St base w0 (a :: b :: c :: d :: e :: f :: L) w) : f.holds w := h.star.2.2.2.2.2.2.2.2.2.2.1
theorem St.g6 (h : St base w0 (a :: b :: c :: d :: e :: f :: g :: L) w) : g.holds w := h.star.2.2.2.2.2.2.2.2.2.2.2.2.1
theorem St.m0 {t bm : Nat} {m : Mach} (h : St base w0 (Asn.mb t bm m :: L) w) : MB w t bm m := h.g0
theorem St.o0 {bs t : Nat} {v : Value} {cs : List Value} (h : St base w0 (Asn.own bs t v cs :: L) w) : Own w bs t v cs := h.g0
theorem St.k0 {bn t : Nat} {cs : Array Value} (h : St base w0 (Asn.blk bn cs t :: L) w) : w.heap[bn]? = some (.cells cs t (0, 0)) := h.g0
theorem St.m1 {t bm : Nat} {m : Mach} (h : St base w0 (a :: Asn.mb t bm m :: L) w) : MB w t bm m := h.g1
theorem St.o1 {bs t : Nat} {v : Value} {cs : List Value} (h : St base w0 (a :: Asn.own bs t v cs :: L) w) : Own w bs t v cs := h.g1
theorem St.k1 {bn t : Nat} {cs : Array Value} (h : St base w0 (a :: Asn.blk bn cs t :: L) w) : w.heap[bn]? = some (.cells cs t (0, 0)) := h.g1
theorem St.m2 {t bm : Nat} {m : Mach} (h : St base w0 (a :: b :: Asn.mb t bm m :: L) w) : MB w t bm m := h.g2
theorem St.o2 {bs t : Nat} {v : Value} {cs : List Value} (h : St base w0 (a :: b :: Asn.own bs t v cs :: L) w) : Own w bs t v cs := h.g2
theorem St.k2 {bn t : Nat} {cs : Array Value} (h : St base w0 (a :: b :: Asn.blk bn cs t :: L) w) : w.heap[bn]? = some (.cells cs t (0, 0)) := h.g2
theorem St.m3 {t bm : Nat} {m : Mach} (h : St base w0 (a :: b :: c :: Asn.mb t bm m :: L) w) : MB w t bm m := h.g3
theorem St.o3 {bs t : Nat} {v : Value} {cs : List Value} (h : St base w0 (a :: b :: c :: Asn.own bs t v cs :: L) w) : Own w bs t v cs := h.g3
theorem St.k3 {bn t : Nat} {cs : Array Value} (h : St base w0 (a :: b :: c :: Asn.blk bn cs t :: L) w) : w.heap[bn]? = some (.cells cs t (0, 0)) := h.g3
theorem St.m4 {t bm : Nat} {m : Mach} (h : St base w0 (a :: b :: c :: d :: Asn.mb t bm m :: L) w) : MB w t bm m := h.g4
theorem St.o4 {bs t : Nat} {v : Value} {cs : List Value} (h : St base w0 (a :: b :: c :: d :: Asn.own bs t v cs :: L) w) : Own w bs t v cs := h.g4
theorem St.k4 {bn t : Nat} {cs : Array Value} (h : St base w0 (a :: b :: c :: d :: Asn.blk bn cs t :: L) w) : w.heap[bn]? = some (.cells cs t (0, 0)) := h.g4
theorem St.m5 {t bm : Nat} {m : Mach} (h : St base w0 (a :: b :: c :: d :: e :: Asn.mb t bm m :: L) w) : MB w t bm m := h.g5
theorem St.o5 {bs t : Nat} {v : Value} {cs : List Value} (h : St base w0 (a :: b :: c :: d :: e :: Asn.own bs t v cs :: L) w) : Own w bs t v cs := h.g5
theorem St.k5 {bn t : Nat} {cs : Array Value} (h : St base w0 (a :: b :: c :: d :: e :: Asn.blk bn cs t :: L) w) : w.heap[bn]? = some (.cells cs t (0, 0)) := h.g5
/-- From an outer view to an inner one: what is kept from here on. -/
theorem St.inner (h : St base w0 L w) (hlt : base ≤ w.heap.size) : St w.heap.size w [] w := St.start w
theorem St.outer (h : St base w0 L w) {L' : List Asn} (h' : St w.heap.size w L' w') : St base w0 L w' := h.call h'.bel

/-- The one part at hand, turned by a callee that leaves all below 'base' as it was. -/
theorem St.only (h : St base w0 [a] w) (ha : a'.holds w') (hb : Below base w w') : St base w0 [a'] w' :=
  ⟨h.bel.trans hb, Nat.le_trans h.le hb.size, ha, fun _ _ hF => hF, trivial⟩

/-! Steps. -/
theorem St.setBlk {bn : Nat} {cs : Array Value} {t : Nat} (h : St base w0 (Asn.blk bn cs t :: L) w) (hb : base ≤ bn) (i : Nat) (u : Value) : St base w0 (Asn.blk bn (cs.setIfInBounds i u) t :: L) (w.setCell ⟨bn, i, none⟩ u) :=
  h.turn (a' := Asn.blk bn (cs.setIfInBounds i u) t) (heap_setCell_same w bn i _ _ _ h.star.1) (fun k hk => .inl hk) (fun k hk => (show k = bn from hk) ▸ hb) ((Below.refl _ _).setCell hb u)
    fun k _ hk => heap_setCell_other w ⟨bn, i, none⟩ k u hk
theorem St.setOwn {t gn n cap : Nat} {cs : List Value} (h : St base w0 (Asn.own base t (.slice (some ⟨gn, 0, none⟩) n cap) cs :: L) w) (hn : cs.length = n) (i : Nat) (u : Value) (hi : i < n) : St base w0 (Asn.own base t (.slice (some ⟨gn, 0, none⟩) n cap) (cs.set i u) :: L) (w.setCell ⟨gn, i, none⟩ u) :=
  have hb : base ≤ gn := ((show Own w base t _ cs from h.star.1).lt gn rfl).1
  h.turn (a' := Asn.own base t _ (cs.set i u)) (Own.set h.star.1 hn i u hi) (fun k hk => .inl hk) (fun k hk => ((show Own w base t _ cs from h.star.1).lt k hk).1) ((Below.refl _ _).setCell hb u)
    fun k _ hk => heap_setCell_other w ⟨gn, i, none⟩ k u fun e => hk (show Value.ownBlock _ = some k by rw [e]; rfl)
theorem St.setNx {t bn : Nat} {m : Mach} (h : St base w0 (Asn.mb t bn m :: L) w) (hb : base ≤ bn) (q x v : Nat) (hq : q < 16) (hx : x < 3) : St base w0 (Asn.mb t bn { m with nx := upd m.nx (q * 3 + x) v } :: L) (w.setCell ⟨bn, 2 + q * 3 + x, none⟩ (.int .u8 (v : Nat))) :=
  h.turn (a' := Asn.mb t bn _) (MB.setNx h.star.1 q x v hq hx) (fun k hk => .inl hk) (fun k hk => (show k = bn from hk) ▸ hb) ((Below.refl _ _).setCell hb _) fun k _ hk => heap_setCell_other w ⟨bn, _, none⟩ k _ hk
theorem St.setOt {t bn : Nat} {m : Mach} (h : St base w0 (Asn.mb t bn m :: L) w) (hb : base ≤ bn) (q x v : Nat) (hq : q < 16) (hx : x < 3) : St base w0 (Asn.mb t bn { m with ot := upd m.ot (q * 3 + x) v } :: L) (w.setCell ⟨bn, 50 + q * 3 + x, none⟩ (.int .u8 (v : Nat))) :=
  h.turn (a' := Asn.mb t bn _) (MB.setOt h.star.1 q x v hq hx) (fun k hk => .inl hk) (fun k hk => (show k = bn from hk) ▸ hb) ((Below.refl _ _).setCell hb _) fun k _ hk => heap_setCell_other w ⟨bn, _, none⟩ k _ hk
theorem St.setM {t bn : Nat} {m m' : Mach} (h : St base w0 (Asn.mb t bn m :: L) w) (hb : base ≤ bn) (p : MB w' t bn m') (ho : ∀ k, k ≠ bn → w'.heap[k]? = w.heap[k]?) (hbl : ∀ (B : Nat) (a : World), B ≤ bn → Below B a w → Below B a w') : St base w0 (Asn.mb t bn m' :: L) w' :=
  h.turn (a' := Asn.mb t bn m') p (fun k hk => .inl hk) (fun k hk => (show k = bn from hk) ▸ hb) (hbl base w hb (Below.refl _ _)) fun k _ hk => ho k hk
/-- Behind an append of one element. -/
theorem St.appd {t gn n cap : Nat} {v : Value} {cs cs' : List Value} (h : St base w0 (Asn.own base t v cs :: L) w) (hO : Own w' base t (.slice (some ⟨gn, 0, none⟩) n cap) cs') (hb : Below base w w') (hold : ∀ k, k < w.heap.size → v.ownBlock ≠ some k → w'.heap[k]? = w.heap[k]?)
    (hg : v.ownBlock = some gn ∨ w.heap.size ≤ gn) : St base w0 (Asn.own base t (.slice (some ⟨gn, 0, none⟩) n cap) cs' :: L) w' :=
  h.turn (a' := Asn.own base t _ cs') hO (fun k hk => by
    have e : gn = k := by simpa [Asn.own, Value.ownBlock] using hk
    subst e
    exact hg) (fun k hk => ((show Own w base t v cs from h.star.1).lt k hk).1) hb fun k hk hne => hold k hk hne
/-- A row appended to a slice of slices; the row's part goes into it. -/
theorem St.appdM {gn n cap : Nat} {v r : Value} {rows : List Value} {M : List (List Int)} {l : List Int} (h : St base w0 (Asn.mat base v rows M :: Asn.own base 2 r (ints l) :: L) w)
    (hO : Own w' base 32 (.slice (some ⟨gn, 0, none⟩) n cap) (rows ++ [r])) (hb : Below base w w') (hold : ∀ k, k < w.heap.size → v.ownBlock ≠ some k → w'.heap[k]? = w.heap[k]?)
    (hg : v.ownBlock = some gn ∨ w.heap.size ≤ gn) : St base w0 (Asn.mat base (.slice (some ⟨gn, 0, none⟩) n cap) (rows ++ [r]) (M ++ [l]) :: L) w' := by
  obtain ⟨⟨h1, h2, h3⟩, hf, hr, hf2, hL⟩ := h.star
  have keepR : ∀ (i : Nat) (r' : Value) (l' : List Int), rows[i]? = some r' → M[i]? = some l' → Own w' base 2 r' (ints l') := fun i r' l' hr' hl' =>
    (h3 i r' l' hr' hl').keep fun k hk => hold k ((h3 i r' l' hr' hl').lt k hk).2 ((h3 i r' l' hr' hl').ne h1 (by decide) k hk)
  have keepN : Own w' base 2 r (ints l) := Own.keep hr fun k hk => hold k (Own.lt hr k hk).2 (Own.ne hr h1 (by decide) k hk)
  have hold2 : ∀ k, k < w.heap.size → ¬ v.ownBlock = some k → w'.heap[k]? = w.heap[k]? := hold
  refine ⟨h.bel.trans hb, Nat.le_trans h.le hb.size, ⟨hO, by simp [h2], fun i r' l' e1 e2 => ?_⟩, fun k hk hF => ?_, hL.keep fun k hk => hold2 k (hL.lt k hk) fun e => hf k (.inl e) (.inr hk)⟩
  · by_cases hi : i < rows.length
    · rw [List.getElem?_append_left hi] at e1
      rw [List.getElem?_append_left (by omega)] at e2
      exact keepR i r' l' e1 e2
    · have hi2 : i = rows.length := by
        have := (List.getElem?_eq_some_iff.1 e1).1
        simp at this; omega
      subst hi2
      rw [List.getElem?_append_right (Nat.le_refl _)] at e1
      rw [List.getElem?_append_right (by omega)] at e2
      simp at e1
      simp [h2] at e2
      subst e1; subst e2
      exact keepN
  · have hlt := hL.lt k hF
    rcases hk with hk | ⟨r', hr', hk⟩
    · have e : gn = k := by simpa [Value.ownBlock] using hk
      subst e
      rcases hg with hg | hg
      · exact hf gn (.inl hg) (.inr hF)
      · omega
    · rcases List.mem_append.1 hr' with hr' | hr'
      · exact hf k (.inr ⟨r', hr', hk⟩) (.inr hF)
      · rw [List.mem_singleton.1 hr'] at hk
        exact hf2 k hk hF
end

section
variable {ops : Array Oper} {rest : List Oper} {o : Oper} {act : Act} {W w0 : World} {Q : Exit → Act → World → Prop} {L : List Asn} {base : Nat}
/-- One number appended to the part at hand, as the walk meets it (behind its box). -/
theorem St.app (t e : TypeId) (z : Value) (bytes : Nat)
    (ht : Tryz.prog.underlying t = some (.slice e)) (hinfo : (Tryz.prog.info? e).map (fun i => (i.zero, i.size, i.bytes)) = some (some z, 1, bytes)) (hz : z.cells.size = 1) (hb : bytes ≤ 64)
    (hgd : o.guard = none) (s x : Operand) (ho : o.op = .call { callee := .builtin .append, args := #[s, x], argTypes := #[t, t] })
    (v : Value) (cs : List Value) (hs : act.eval s = v) (hS : St base w0 (Asn.own base e v cs :: L) W) (c : Value) (hc1 : c.oneCell' = true)
    (hx : act.eval x = .slice (some ⟨W.heap.size, 0, none⟩) 1 1) (n : Nat) (hn : cs.length = n) (hlen : n ≤ 1000000000)
    (h : ∀ g cap w', St base w0 (Asn.own base e (.slice (some ⟨g, 0, none⟩) (n + 1) cap) (cs ++ [c]) :: L) w' → wpList Tryz.prog ops Q rest (act.put o.dst (.slice (some ⟨g, 0, none⟩) (n + 1) cap)) w') :
    wpList Tryz.prog ops Q (o :: rest) act (W.alloc (.cells #[c] e)) := by
  subst hn
  refine app1 t e z bytes ht hinfo hz hb hgd s x ho base v cs hs hS.star.1 hS.le c hc1 hx hlen ?_
  intro g cap w' h1 h2 h3 h4 h5
  exact h g cap w' (hS.appd h1 h2 h3 (h5.imp id Nat.le_of_lt))
/-- A row appended. -/
theorem St.appM (hgd : o.guard = none) (s x : Operand) (ho : o.op = .call { callee := .builtin .append, args := #[s, x], argTypes := #[43, 43] })
    (v r : Value) (rows : List Value) (M : List (List Int)) (l : List Int) (hs : act.eval s = v) (hS : St base w0 (Asn.mat base v rows M :: Asn.own base 2 r (ints l) :: L) W)
    (hx : act.eval x = .slice (some ⟨W.heap.size, 0, none⟩) 1 1) (n : Nat) (hn : M.length = n) (hlen : n ≤ 1000000000)
    (h : ∀ g cap w', St base w0 (Asn.mat base (.slice (some ⟨g, 0, none⟩) (n + 1) cap) (rows ++ [r]) (M ++ [l]) :: L) w' → wpList Tryz.prog ops Q rest (act.put o.dst (.slice (some ⟨g, 0, none⟩) (n + 1) cap)) w') :
    wpList Tryz.prog ops Q (o :: rest) act (W.alloc (.cells #[r] 32)) := by
  have hl := hS.star.1.2.1
  obtain rfl : rows.length = n := hl.trans hn
  have hr1 : r.oneCell' = true := Own.oneCell hS.star.2.2.1
  refine app1 43 32 (.slice none 0 0) 24 Tryz.underlying43 info_ints rfl (by omega) hgd s x ho base v rows hs hS.star.1.1 hS.le r hr1 hx hlen ?_
  intro g cap w' h1 h2 h3 h4 h5
  exact h g cap w' (hS.appdM h1 h2 h3 (h5.imp id Nat.le_of_lt))
end
section
variable {ops : Array Oper} {o : Oper} {act : Act} {W w0 : World} {K : Act → World → Prop} {Q : Exit → Act → World → Prop} {E : Prop} {L : List Asn} {base : Nat}
/-- One element appended at a step of a region that draws: it lies in a box. -/
theorem St.step1 (t e tb : TypeId) (z : Value) (bytes : Nat)
    (ht : Tryz.prog.underlying t = some (.slice e)) (hinfo : (Tryz.prog.info? e).map (fun i => (i.zero, i.size, i.bytes)) = some (some z, 1, bytes)) (hz : z.cells.size = 1) (hb : bytes ≤ 64)
    (hgd : o.guard = none) (s x : Operand) (ho : o.op = .call { callee := .builtin .append, args := #[s, x], argTypes := #[t, t] })
    (v : Value) (cs : List Value) (hs : act.eval s = v) {B : Nat} {c : Value} (hS : St base w0 (Asn.own base e v cs :: Asn.blk B #[c] tb :: L) W) (hc1 : c.oneCell' = true)
    (hx : act.eval x = .slice (some ⟨B, 0, none⟩) 1 1) (n : Nat) (hn : cs.length = n) (hlen : n ≤ 1000000)
    (h : ∀ g cap w', St base w0 (Asn.own base e (.slice (some ⟨g, 0, none⟩) (n + 1) cap) (cs ++ [c]) :: Asn.blk B #[c] tb :: L) w' → K (act.put o.dst (.slice (some ⟨g, 0, none⟩) (n + 1) cap)) w') :
    if Region.wanted o (yielded ops act.tmps) = true then Oper.wp Tryz.prog o act W K Q else E := by
  subst hn
  have hB : W.cell? ⟨B, 0, none⟩ = some c := cell_of_row W B 0 _ _ _ hS.star.2.2.1
  refine step_app1 t e z bytes ht hinfo hz hb hgd s x ho base v cs hs hS.star.1 hS.le B c hc1 hB hx (by omega) ?_
  intro g cap w' h1 h2 h3 h4
  exact h g cap w' (hS.appd h1 h2 h3 (h4.imp id (fun e => Nat.le_of_eq e.symm)))
/-- A row appended at a step of a region that draws: it lies in a box. -/
theorem St.stepM (tb : TypeId) (hgd : o.guard = none) (s x : Operand) (ho : o.op = .call { callee := .builtin .append, args := #[s, x], argTypes := #[43, 43] })
    (v r : Value) (rows : List Value) (M : List (List Int)) (l : List Int) (hs : act.eval s = v) {B : Nat} (hS : St base w0 (Asn.mat base v rows M :: Asn.own base 2 r (ints l) :: Asn.blk B #[r] tb :: L) W) (B' : Nat)
    (hx : act.eval x = .slice (some ⟨B, 0, none⟩) 1 1) (n : Nat) (hn : M.length = n) (hlen : n ≤ 1000000)
    (h : ∀ g cap w', St base w0 (Asn.mat base (.slice (some ⟨g, 0, none⟩) (n + 1) cap) (rows ++ [r]) (M ++ [l]) :: Asn.blk B #[r] tb :: L) w' → K (act.put o.dst (.slice (some ⟨g, 0, none⟩) (n + 1) cap)) w') :
    if Region.wanted o (yielded ops act.tmps) = true then Oper.wp Tryz.prog o act W K Q else E := by
  have hl := hS.star.1.2.1
  obtain rfl : rows.length = n := hl.trans hn
  have hr1 : r.oneCell' = true := Own.oneCell hS.star.2.2.1
  have hB : W.cell? ⟨B, 0, none⟩ = some r := cell_of_row W B 0 _ _ _ hS.star.2.2.2.2.1
  refine step_app1 43 32 (.slice none 0 0) 24 Tryz.underlying43 info_ints rfl (by omega) hgd s x ho base v rows hs hS.star.1.1 hS.le B r hr1 hB hx (by omega) ?_
  intro g cap w' h1 h2 h3 h4
  exact h g cap w' (hS.appdM h1 h2 h3 (h4.imp id (fun e => Nat.le_of_eq e.symm)))
end
/-- One row of a slice of slices. -/
theorem Asn.row {base g n cap : Nat} {rows : List Value} {M : List (List Int)} {w : World} (h : (Asn.mat base (.slice (some ⟨g, 0, none⟩) n cap) rows M).holds w) (i : Nat) (l : List Int) (hl : M[i]? = some l) :
    ∃ r, w.cell? ⟨g, i, none⟩ = some r ∧ Own w base 2 r (ints l) := by
  have hi : i < rows.length := by rw [h.2.1]; exact (List.getElem?_eq_some_iff.1 hl).1
  obtain ⟨r, hr⟩ : ∃ r, rows[i]? = some r := ⟨_, List.getElem?_eq_getElem hi⟩
  exact ⟨r, h.1.cellAt i r hr, h.2.2 i r l hr hl⟩
theorem Asn.ofMat {w : World} {base : Nat} {v : Value} {M : List (List Int)} (h : Mat w base v M) : ∃ rows, (Asn.mat base v rows M).holds w := h
theorem Asn.toMat {w : World} {base : Nat} {v : Value} {M : List (List Int)} {rows : List Value} (h : (Asn.mat base v rows M).holds w) : Mat w base v M := ⟨rows, h⟩
theorem Asn.mat_ge {w : World} {base : Nat} {v : Value} {M : List (List Int)} {rows : List Value} (h : (Asn.mat base v rows M).holds w) : ∀ k, (Asn.mat base v rows M).foot k → base ≤ k := fun k hk => by
  rcases hk with hk | ⟨r, hr, hk⟩
  · exact (h.1.lt k hk).1
  · obtain ⟨i, hi, rfl⟩ := List.getElem_of_mem hr
    exact ((h.2.2 i _ _ (List.getElem?_eq_getElem hi) (List.getElem?_eq_getElem (by rw [← h.2.1]; exact hi))).lt k hk).1
theorem St.callMat {base : Nat} {w0 w w' : World} {L : List Asn} {v : Value} {M : List (List Int)} (h : St base w0 L w) (hb : Below w.heap.size w w') (ha : Mat w' w.heap.size v M) : ∃ rows, St base w0 (Asn.mat base v rows M :: L) w' := by
  obtain ⟨rows, hr⟩ := Asn.ofMat ha
  exact ⟨rows, h.callPush (a := Asn.mat base v rows M) hb ⟨hr.1.mono h.le, hr.2.1, fun i r l h1 h2 => (hr.2.2 i r l h1 h2).mono h.le⟩ fun k hk => Asn.mat_ge hr k hk⟩
end Go.Proofs.YthmcdfjijkecfaaGreat

/- Classes of equal states: how both the program and the reference find them. -/
namespace Go.Proofs.YthmcdfjijkecfaaGreat
set_option linter.unusedVariables false
set_option linter.unusedSimpArgs false

/-- The first number from r on, at most d steps away, of which p is told; else where the steps end. -/
def fnd (p : Nat → Bool) : Nat → Nat → Nat
  | r, 0 => r
  | r, d + 1 => if p r then r else fnd p (r + 1) d
/-- The first number below n of which p is told; else n. -/
def fst (p : Nat → Bool) (n : Nat) : Nat := fnd p 0 n
theorem fnd_spec (p : Nat → Bool) : ∀ d r, r ≤ fnd p r d ∧ fnd p r d ≤ r + d ∧ (∀ j, r ≤ j → j < fnd p r d → p j = false) ∧ (fnd p r d < r + d → p (fnd p r d) = true)
  | 0, r => ⟨Nat.le_refl _, Nat.le_refl _, fun j h1 h2 => absurd h2 (by unfold fnd; omega), fun h => absurd h (by unfold fnd; omega)⟩
  | d + 1, r => by
    unfold fnd
    by_cases h : p r = true
    · rw [if_pos h]
      exact ⟨Nat.le_refl _, by omega, fun j h1 h2 => by omega, fun _ => h⟩
    · rw [if_neg h]
      obtain ⟨h1, h2, h3, h4⟩ := fnd_spec p d (r + 1)
      refine ⟨by omega, by omega, fun j h5 h6 => ?_, fun h5 => h4 (by omega)⟩
      by_cases e : j = r
      · subst e; simpa using h
      · exact h3 j (by omega) h6
theorem fst_le (p : Nat → Bool) (n : Nat) : fst p n ≤ n := by have := (fnd_spec p n 0).2.1; unfold fst; omega
theorem fst_none (p : Nat → Bool) (n j : Nat) (h : j < fst p n) : p j = false := (fnd_spec p n 0).2.2.1 j (Nat.zero_le _) h
theorem fst_some (p : Nat → Bool) (n : Nat) (h : fst p n < n) : p (fst p n) = true := (fnd_spec p n 0).2.2.2 (by unfold fst at h; omega)
theorem fst_eq (p : Nat → Bool) (n r : Nat) (hr : r ≤ n) (hno : ∀ j, j < r → p j = false) (hy : r < n → p r = true) : fst p n = r := by
  have h1 := fst_le p n
  rcases Nat.lt_trichotomy (fst p n) r with h | h | h
  · have h2 := fst_some p n (by omega)
    rw [hno _ h] at h2; cases h2
  · exact h
  · have h2 := fst_none p n r h
    rw [hy (by omega)] at h2; cases h2

/-- A machine with any number of states. -/
structure Tab where
  n : Nat
  L : Nat
  nx : Nat → Nat → Nat
  ot : Nat → Nat → Nat
structure Tab.Ok (T : Tab) : Prop where
  pos : 0 < T.n
  nx : ∀ q x, q < T.n → x < T.L → T.nx q x < T.n

def alls (L : Nat) (p : Nat → Bool) : Bool := (List.range L).all p
theorem alls_iff (L : Nat) (p : Nat → Bool) : alls L p = true ↔ ∀ x, x < L → p x = true := by
  unfold alls; rw [List.all_eq_true]; simp
/-- Not told apart yet, by a division into classes. -/
def like (T : Tab) (c : Nat → Nat) (r q : Nat) : Bool := (c r == c q) && (alls T.L fun x => T.ot r x == T.ot q x) && alls T.L fun x => c (T.nx r x) == c (T.nx q x)
def cls (T : Tab) : Nat → Nat → Nat
  | 0 => fun _ => 0
  | k + 1 => fun q => fst (fun r => like T (cls T k) r q) q
theorem cls_succ (T : Tab) (k q : Nat) : cls T (k + 1) q = fst (fun r => like T (cls T k) r q) q := rfl

theorem like_iff (T : Tab) (c : Nat → Nat) (r q : Nat) : like T c r q = true ↔ c r = c q ∧ (∀ x, x < T.L → T.ot r x = T.ot q x) ∧ ∀ x, x < T.L → c (T.nx r x) = c (T.nx q x) := by
  unfold like
  rw [Bool.and_eq_true, Bool.and_eq_true, alls_iff, alls_iff, beq_iff_eq]
  simp only [beq_iff_eq, and_assoc]
theorem like_refl (T : Tab) (c : Nat → Nat) (q : Nat) : like T c q q = true := (like_iff T c q q).2 ⟨rfl, fun _ _ => rfl, fun _ _ => rfl⟩
theorem like_symm {T : Tab} {c : Nat → Nat} {r q : Nat} (h : like T c r q = true) : like T c q r = true := by
  rw [like_iff] at h ⊢
  exact ⟨h.1.symm, fun x hx => (h.2.1 x hx).symm, fun x hx => (h.2.2 x hx).symm⟩
theorem like_trans {T : Tab} {c : Nat → Nat} {a b d : Nat} (h : like T c a b = true) (k : like T c b d = true) : like T c a d = true := by
  rw [like_iff] at h k ⊢
  exact ⟨h.1.trans k.1, fun x hx => (h.2.1 x hx).trans (k.2.1 x hx), fun x hx => (h.2.2 x hx).trans (k.2.2 x hx)⟩

theorem cls_le (T : Tab) (k q : Nat) : cls T k q ≤ q := by
  cases k with
  | zero => exact Nat.zero_le _
  | succ k => exact fst_le _ _
theorem cls_like (T : Tab) (k q : Nat) : like T (cls T k) (cls T (k + 1) q) q = true := by
  rw [cls_succ]
  by_cases h : fst (fun r => like T (cls T k) r q) q < q
  · exact fst_some _ _ h
  · have e := fst_le (fun r => like T (cls T k) r q) q
    rw [show fst (fun r => like T (cls T k) r q) q = q by omega]
    exact like_refl _ _ _
theorem cls_iff (T : Tab) (k r q : Nat) : cls T (k + 1) r = cls T (k + 1) q ↔ like T (cls T k) r q = true := by
  constructor
  · intro h
    have h1 := cls_like T k r
    rw [h] at h1
    exact like_trans (like_symm h1) (cls_like T k q)
  · intro h
    have main : ∀ a b, like T (cls T k) a b = true → cls T (k + 1) b ≤ cls T (k + 1) a := by
      intro a b hab
      rcases Nat.lt_or_ge (cls T (k + 1) a) (cls T (k + 1) b) with h1 | h1
      · have h2 := fst_none (fun r => like T (cls T k) r b) b _ (by rw [← cls_succ]; exact h1)
        rw [like_trans (cls_like T k a) hab] at h2
        cases h2
      · exact h1
    exact Nat.le_antisymm (main q r (like_symm h)) (main r q h)
theorem cls_cls (T : Tab) (k q : Nat) : cls T (k + 1) (cls T (k + 1) q) = cls T (k + 1) q := (cls_iff T k _ _).2 (cls_like T k q)
/-- One more round tells no two together that were apart. -/
theorem cls_fine {T : Tab} {k r q : Nat} (h : cls T (k + 1) r = cls T (k + 1) q) : cls T k r = cls T k q := ((like_iff _ _ _ _).1 ((cls_iff T k r q).1 h)).1
theorem cls_keep {T : Tab} {k q : Nat} (h : cls T (k + 1) q = q) : cls T (k + 2) q = q := by
  have h1 : cls T (k + 1) (cls T (k + 2) q) = cls T (k + 1) q := cls_fine (T := T) (k := k + 1) (cls_cls T (k + 1) q)
  rw [h] at h1
  have h2 := cls_le T (k + 1) (cls T (k + 2) q)
  have h3 := cls_le T (k + 2) q
  omega

/-- How many are the least of their classes. -/
def cnt1 (T : Tab) (k : Nat) : Nat → Nat
  | 0 => 0
  | n + 1 => cnt1 T k n + if cls T k n = n then 1 else 0
theorem cnt1_le (T : Tab) (k : Nat) : ∀ n, cnt1 T k n ≤ n
  | 0 => Nat.le_refl _
  | n + 1 => by unfold cnt1; have := cnt1_le T k n; split <;> omega
theorem cnt1_mono (T : Tab) (k : Nat) : ∀ n, cnt1 T (k + 1) n ≤ cnt1 T (k + 2) n
  | 0 => Nat.le_refl _
  | n + 1 => by
    unfold cnt1
    have := cnt1_mono T k n
    by_cases h : cls T (k + 1) n = n
    · rw [if_pos h, if_pos (cls_keep h)]; omega
    · rw [if_neg h]; omega
theorem cnt1_lt (T : Tab) (k : Nat) : ∀ n p, p < n → cls T (k + 2) p = p → cls T (k + 1) p ≠ p → cnt1 T (k + 1) n < cnt1 T (k + 2) n
  | n + 1, p, hp, h1, h2 => by
    unfold cnt1
    by_cases e : p = n
    · subst e
      have := cnt1_mono T k p
      rw [if_neg h2, if_pos h1]; omega
    · have := cnt1_lt T k n p (by omega) h1 h2
      by_cases h : cls T (k + 1) n = n
      · rw [if_pos h, if_pos (cls_keep h)]; omega
      · rw [if_neg h]; omega
theorem cnt1_congr (T : Tab) (k j : Nat) : ∀ n, (∀ q, q < n → cls T k q = cls T j q) → cnt1 T k n = cnt1 T j n
  | 0, _ => rfl
  | n + 1, h => by unfold cnt1; rw [cnt1_congr T k j n (fun q hq => h q (by omega)), h n (by omega)]
theorem cnt1_pos (T : Tab) (k : Nat) : ∀ n, 0 < n → 1 ≤ cnt1 T (k + 1) n
  | 1, _ => by
    have h : cls T (k + 1) 0 = 0 := Nat.le_zero.1 (cls_le T _ 0)
    simp [cnt1, h]
  | n + 2, _ => by have := cnt1_pos T k (n + 1) (by omega); unfold cnt1; omega
/-- The rounds tell no more apart: below n. -/
def Stable (T : Tab) (k : Nat) : Prop := ∀ q, q < T.n → cls T (k + 1) q = cls T k q
theorem stable_or (T : Tab) (k : Nat) (h : ¬ Stable T (k + 1)) : cnt1 T (k + 1) T.n < cnt1 T (k + 2) T.n := by
  have : ∃ q, q < T.n ∧ cls T (k + 2) q ≠ cls T (k + 1) q := by
    apply Classical.byContradiction
    intro hn
    exact h fun q hq => Classical.byContradiction fun e => hn ⟨q, hq, e⟩
  obtain ⟨q, hq, hne⟩ := this
  refine cnt1_lt T k T.n (cls T (k + 2) q) (Nat.lt_of_le_of_lt (cls_le _ _ _) hq) (cls_cls T (k + 1) q) fun e => hne ?_
  have h1 := cls_fine (T := T) (k := k + 1) (cls_cls T (k + 1) q)
  exact e.symm.trans h1
theorem stable_cnt {T : Tab} {k : Nat} (h : Stable T (k + 1)) : cnt1 T (k + 2) T.n = cnt1 T (k + 1) T.n := cnt1_congr T _ _ _ h
theorem stable_next {T : Tab} (hT : T.Ok) {k : Nat} (h : Stable T k) : Stable T (k + 1) := fun q hq => by
  rw [cls_succ, cls_succ]
  have e : ∀ r, r < T.n → like T (cls T (k + 1)) r q = like T (cls T k) r q := fun r hr => by
    rw [Bool.eq_iff_iff, like_iff, like_iff, h r hr, h q hq]
    constructor
    · rintro ⟨h1, h2, h3⟩
      exact ⟨h1, h2, fun x hx => by have := h3 x hx; rw [h _ (hT.nx r x hr hx), h _ (hT.nx q x hq hx)] at this; exact this⟩
    · rintro ⟨h1, h2, h3⟩
      exact ⟨h1, h2, fun x hx => by rw [h _ (hT.nx r x hr hx), h _ (hT.nx q x hq hx)]; exact h3 x hx⟩
  have hle := fst_le (fun r => like T (cls T k) r q) q
  refine fst_eq _ _ _ hle (fun j hj => ?_) (fun hlt => ?_)
  · rw [e j (by omega)]; exact fst_none _ _ j hj
  · rw [e _ (by omega)]; exact fst_some _ _ hlt
theorem stable_all {T : Tab} (hT : T.Ok) {k : Nat} (h : Stable T k) : ∀ d q, q < T.n → cls T (k + d) q = cls T k q
  | 0, _, _ => rfl
  | d + 1, q, hq => by
    have hs : ∀ d, Stable T (k + d) := fun d => by
      induction d with
      | zero => exact h
      | succ d ih => exact stable_next hT ih
    rw [show k + (d + 1) = (k + d) + 1 by omega, hs d q hq]
    exact stable_all hT h d q hq
/-- The classes in the end. -/
def fix (T : Tab) (q : Nat) : Nat := cls T (T.n + 1) q
theorem fix_of {T : Tab} (hT : T.Ok) {k : Nat} (hk : k ≤ T.n) (h : Stable T k) (q : Nat) (hq : q < T.n) : fix T q = cls T k q := by
  have := stable_all hT h (T.n + 1 - k) q hq
  rwa [show k + (T.n + 1 - k) = T.n + 1 by omega] at this
theorem fix_lt {T : Tab} (q : Nat) (hq : q < T.n) : fix T q < T.n := Nat.lt_of_le_of_lt (cls_le _ _ _) hq

/-- A search that begins at the state's own class finds the same. -/
theorem cls_next (T : Tab) (k q r : Nat) (h1 : cls T (k + 1) q ≤ r) (hr : r ≤ q) (hno : ∀ j, cls T (k + 1) q ≤ j → j < r → like T (cls T (k + 1)) j q = false) (hy : r < q → like T (cls T (k + 1)) r q = true) : cls T (k + 2) q = r := by
  rw [cls_succ]
  refine fst_eq _ _ _ hr (fun j hj => ?_) hy
  rcases Nat.lt_or_ge j (cls T (k + 1) q) with h | h
  · cases hl : like T (cls T (k + 1)) j q with
    | false => rfl
    | true =>
      have h2 := ((like_iff _ _ _ _).1 hl).1
      have h3 := cls_le T (k + 1) j
      omega
  · exact hno j h hj
theorem cls_one (T : Tab) (q r : Nat) (hr : r ≤ q) (hno : ∀ j, j < r → (alls T.L fun x => T.ot j x == T.ot q x) = false) (hy : (alls T.L fun x => T.ot r x == T.ot q x) = true) : cls T 1 q = r := by
  have e : ∀ j, like T (cls T 0) j q = alls T.L fun x => T.ot j x == T.ot q x := fun j => by
    rw [Bool.eq_iff_iff, like_iff, alls_iff]
    constructor
    · rintro ⟨_, h, _⟩ x hx; simp [h x hx]
    · intro h; exact ⟨rfl, fun x hx => by simpa using h x hx, fun _ _ => rfl⟩
  rw [cls_succ]
  exact fst_eq _ _ _ hr (fun j hj => by rw [e j]; exact hno j hj) (fun _ => by rw [e r]; exact hy)
/-- Among equal outputs alone the classes and what follows decide. -/
theorem like_same {T : Tab} {k r q : Nat} (h : cls T (k + 1) r = cls T (k + 1) q) : like T (cls T (k + 1)) r q = alls T.L fun x => cls T (k + 1) (T.nx q x) == cls T (k + 1) (T.nx r x) := by
  rw [Bool.eq_iff_iff, like_iff, alls_iff]
  constructor
  · rintro ⟨_, _, h3⟩ x hx; simp [h3 x hx]
  · intro h3
    exact ⟨h, ((like_iff _ _ _ _).1 ((cls_iff T k r q).1 h)).2.1, fun x hx => by have := h3 x hx; simp at this; exact this.symm⟩
end Go.Proofs.YthmcdfjijkecfaaGreat

/- The machine of a state: the classes as they are met. -/
namespace Go.Proofs.YthmcdfjijkecfaaGreat
set_option linter.unusedVariables false
set_option linter.unusedSimpArgs false

def meet (st : List Nat) (c : Nat) : List Nat := if c ∈ st then st else st ++ [c]
def meets (T : Tab) (c : Nat → Nat) (s : Nat) (st : List Nat) : Nat → List Nat
  | 0 => st
  | x + 1 => meet (meets T c s st x) (c (T.nx s x))
def bfs (T : Tab) (c : Nat → Nat) (q : Nat) : Nat → List Nat
  | 0 => [c q]
  | i + 1 => match (bfs T c q i)[i]? with
    | some s => meets T c s (bfs T c q i) T.L
    | none => bfs T c q i
def fin (T : Tab) (c : Nat → Nat) (q : Nat) : List Nat := bfs T c q T.n

theorem meet_pre (st : List Nat) (c : Nat) : ∃ r, meet st c = st ++ r := by
  unfold meet; split
  · exact ⟨[], by simp⟩
  · exact ⟨[c], rfl⟩
theorem meet_mem (st : List Nat) (c : Nat) : c ∈ meet st c := by unfold meet; split <;> simp_all
theorem meets_pre (T : Tab) (c : Nat → Nat) (s : Nat) (st : List Nat) : ∀ x, ∃ r, meets T c s st x = st ++ r
  | 0 => ⟨[], by simp [meets]⟩
  | x + 1 => by
    obtain ⟨r, hr⟩ := meets_pre T c s st x
    obtain ⟨r', hr'⟩ := meet_pre (meets T c s st x) (c (T.nx s x))
    exact ⟨r ++ r', by unfold meets; rw [hr', hr, List.append_assoc]⟩
theorem meets_mem (T : Tab) (c : Nat → Nat) (s : Nat) (st : List Nat) : ∀ x y, y < x → c (T.nx s y) ∈ meets T c s st x
  | x + 1, y, hy => by
    unfold meets
    by_cases e : y = x
    · subst e; exact meet_mem _ _
    · obtain ⟨r, hr⟩ := meet_pre (meets T c s st x) (c (T.nx s x))
      rw [hr]
      exact List.mem_append_left _ (meets_mem T c s st x y (by omega))
/-- A list of numbers below n, each once. -/
def Uniq (n : Nat) (st : List Nat) : Prop := st.Nodup ∧ ∀ s, s ∈ st → s < n
theorem Uniq.meet {n c : Nat} {st : List Nat} (h : Uniq n st) (hc : c < n) : Uniq n (meet st c) := by
  unfold Go.Proofs.YthmcdfjijkecfaaGreat.meet
  split
  · exact h
  · rename_i hn
    refine ⟨List.nodup_append.2 ⟨h.1, by simp, fun a ha b hb e => ?_⟩, fun s hs => ?_⟩
    · simp at hb; subst hb; subst e; exact hn ha
    · rcases List.mem_append.1 hs with hs | hs
      · exact h.2 s hs
      · simp at hs; omega
theorem Uniq.meets {T : Tab} {c : Nat → Nat} (hT : T.Ok) (hc : ∀ q, q < T.n → c q < T.n) {s : Nat} (hs : s < T.n) {st : List Nat} (h : Uniq T.n st) : ∀ x, x ≤ T.L → Uniq T.n (meets T c s st x)
  | 0, _ => h
  | x + 1, hx => (Uniq.meets hT hc hs h x (by omega)).meet (hc _ (hT.nx s x hs (by omega)))
theorem Uniq.len {n : Nat} {st : List Nat} (h : Uniq n st) : st.length ≤ n := by
  refine inj_le st.length n (fun i => st.getD i 0) (fun i hi => ?_) (fun i j hij hj e => ?_)
  · rw [List.getD_eq_getElem?_getD, List.getElem?_eq_getElem hi]
    exact h.2 _ (List.getElem_mem hi)
  · dsimp only at e
    rw [List.getD_eq_getElem?_getD, List.getD_eq_getElem?_getD, List.getElem?_eq_getElem hj, List.getElem?_eq_getElem (show i < st.length by omega)] at e
    exact (List.pairwise_iff_getElem.1 h.1 i j (by omega) hj hij) e
section
variable {T : Tab} {c : Nat → Nat}
theorem bfs_uniq (hT : T.Ok) (hc : ∀ q, q < T.n → c q < T.n) (q : Nat) (hq : q < T.n) : ∀ i, Uniq T.n (bfs T c q i)
  | 0 => ⟨by simp [bfs], fun s hs => by simp [bfs] at hs; subst hs; exact hc q hq⟩
  | i + 1 => by
    have ih := bfs_uniq hT hc q hq i
    unfold bfs
    split
    · rename_i s hs
      exact Uniq.meets hT hc (ih.2 s (List.mem_of_getElem? hs)) ih T.L (Nat.le_refl _)
    · exact ih
theorem bfs_some (T : Tab) (c : Nat → Nat) {q i s : Nat} (h : (bfs T c q i)[i]? = some s) : bfs T c q (i + 1) = meets T c s (bfs T c q i) T.L := by rw [bfs, h]
theorem bfs_none (T : Tab) (c : Nat → Nat) {q i : Nat} (h : (bfs T c q i).length ≤ i) : bfs T c q (i + 1) = bfs T c q i := by rw [bfs, List.getElem?_eq_none h]
theorem bfs_stay (T : Tab) (c : Nat → Nat) {q i : Nat} (h : (bfs T c q i).length ≤ i) : ∀ d, bfs T c q (i + d) = bfs T c q i
  | 0 => rfl
  | d + 1 => by
    have ih := bfs_stay T c h d
    rw [← ih, show i + (d + 1) = (i + d) + 1 by omega]
    exact bfs_none T c (by rw [ih]; omega)
theorem fin_of (hT : T.Ok) (hc : ∀ q, q < T.n → c q < T.n) {q i : Nat} (hq : q < T.n) (hi : (bfs T c q i).length = i) : fin T c q = bfs T c q i := by
  have h1 := (bfs_uniq hT hc q hq i).len
  have := bfs_stay T c (q := q) (i := i) (by omega) (T.n - i)
  rwa [show i + (T.n - i) = T.n by omega] at this
theorem bfs_pre (T : Tab) (c : Nat → Nat) (q i : Nat) : ∀ d, ∃ r, bfs T c q (i + d) = bfs T c q i ++ r
  | 0 => ⟨[], by simp⟩
  | d + 1 => by
    obtain ⟨r, hr⟩ := bfs_pre T c q i d
    rw [show i + (d + 1) = (i + d) + 1 by omega]
    cases h : (bfs T c q (i + d))[i + d]? with
    | some s =>
      obtain ⟨r', hr'⟩ := meets_pre T c s (bfs T c q (i + d)) T.L
      exact ⟨r ++ r', by rw [bfs_some T c h, hr', hr, List.append_assoc]⟩
    | none => exact ⟨r, by rw [bfs, h]; exact hr⟩
/-- What is met goes on within what is met. -/
theorem fin_closed (hT : T.Ok) (hc : ∀ q, q < T.n → c q < T.n) {q : Nat} (hq : q < T.n) : ∀ s, s ∈ fin T c q → ∀ x, x < T.L → c (T.nx s x) ∈ fin T c q := by
  intro s hs x hx
  obtain ⟨i, hi, rfl⟩ := List.getElem_of_mem hs
  have hlen := (bfs_uniq hT hc q hq T.n).len
  have hi' : i < T.n := Nat.lt_of_lt_of_le hi hlen
  -- the list before round i has the element, for all rounds behind are its continuations
  have key : ∀ j, j ≤ T.n → (bfs T c q j).length ≤ j → bfs T c q j = fin T c q := fun j hj hl => by
    have := bfs_stay T c hl (T.n - j)
    rw [show j + (T.n - j) = T.n by omega] at this
    exact this.symm
  by_cases hl : (bfs T c q i).length ≤ i
  · have := key i (by omega) hl
    rw [← this] at hi
    omega
  · obtain ⟨r, hr⟩ := bfs_pre T c q i (T.n - i)
    rw [show i + (T.n - i) = T.n by omega] at hr
    have hr' : fin T c q = bfs T c q i ++ r := hr
    have hg : (bfs T c q i)[i]? = some (fin T c q)[i] := by
      have h1 : (bfs T c q i ++ r)[i]? = some (fin T c q)[i] := by rw [← hr']; exact List.getElem?_eq_getElem hi
      rwa [List.getElem?_append_left (by omega)] at h1
    obtain ⟨r2, hr2⟩ := bfs_pre T c q (i + 1) (T.n - (i + 1))
    rw [show i + 1 + (T.n - (i + 1)) = T.n by omega] at hr2
    have hm := meets_mem T c (fin T c q)[i] (bfs T c q i) T.L x hx
    rw [← bfs_some T c hg] at hm
    show c (T.nx (fin T c q)[i] x) ∈ bfs T c q T.n
    rw [hr2]
    exact List.mem_append_left _ hm
theorem fin_pos (T : Tab) (c : Nat → Nat) (q : Nat) : 0 < (fin T c q).length := by
  obtain ⟨r, hr⟩ := bfs_pre T c q 0 T.n
  rw [Nat.zero_add] at hr
  unfold fin
  rw [hr]; simp [bfs]
end

/-- The machine of some states, as far as it is written: i rows, and x letters of the next one. -/
def gthP (T : Tab) (c : Nat → Nat) (st : List Nat) (i x : Nat) : Mach :=
  ⟨T.L, st.length, fun p => if (p / 3 < i ∨ p / 3 = i ∧ p % 3 < x) ∧ p % 3 < T.L then st.idxOf (c (T.nx (st.getD (p / 3) 0) (p % 3))) else 0,
   fun p => if (p / 3 < i ∨ p / 3 = i ∧ p % 3 < x) ∧ p % 3 < T.L then T.ot (st.getD (p / 3) 0) (p % 3) else 0⟩
def gth (T : Tab) (c : Nat → Nat) (st : List Nat) : Mach := gthP T c st st.length 0
theorem gthP_row (T : Tab) (c : Nat → Nat) (st : List Nat) (i : Nat) (hL : T.L ≤ 3) : gthP T c st i T.L = gthP T c st (i + 1) 0 := by
  have e : ∀ p, ((p / 3 < i ∨ p / 3 = i ∧ p % 3 < T.L) ∧ p % 3 < T.L) = ((p / 3 < i + 1 ∨ p / 3 = i + 1 ∧ p % 3 < 0) ∧ p % 3 < T.L) := fun p => by
    apply propext
    constructor
    · rintro ⟨h1, h2⟩; exact ⟨by omega, h2⟩
    · rintro ⟨h1, h2⟩; exact ⟨by omega, h2⟩
  unfold gthP
  simp only [e]
theorem gthP_zero (T : Tab) (c : Nat → Nat) (st : List Nat) : gthP T c st 0 0 = ⟨T.L, st.length, fun _ => 0, fun _ => 0⟩ := by
  have e : ∀ p, ((p / 3 < 0 ∨ p / 3 = 0 ∧ p % 3 < 0) ∧ p % 3 < T.L) = False := fun p => by
    apply propext
    constructor
    · rintro ⟨h1, h2⟩; omega
    · exact False.elim
  unfold gthP
  simp only [e, if_false]
theorem gthP_step (T : Tab) (c : Nat → Nat) (st : List Nat) (i x s : Nat) (hx : x < T.L) (hL : T.L ≤ 3) (hs : st[i]? = some s) :
    gthP T c st i (x + 1) = { (gthP T c st i x) with nx := upd (gthP T c st i x).nx (i * 3 + x) (st.idxOf (c (T.nx s x))), ot := upd (gthP T c st i x).ot (i * 3 + x) (T.ot s x) } := by
  have hg : st.getD i 0 = s := by rw [List.getD_eq_getElem?_getD, hs]; rfl
  unfold gthP upd
  dsimp only
  congr 1
  · funext p
    by_cases e : p = i * 3 + x
    · subst e
      rw [if_pos rfl, show (i * 3 + x) / 3 = i by omega, show (i * 3 + x) % 3 = x by omega, if_pos (by omega), hg]
    · rw [if_neg e]
      by_cases h : (p / 3 < i ∨ p / 3 = i ∧ p % 3 < x) ∧ p % 3 < T.L
      · rw [if_pos h, if_pos (by omega)]
      · rw [if_neg h, if_neg (by omega)]
  · funext p
    by_cases e : p = i * 3 + x
    · subst e
      rw [if_pos rfl, show (i * 3 + x) / 3 = i by omega, show (i * 3 + x) % 3 = x by omega, if_pos (by omega), hg]
    · rw [if_neg e]
      by_cases h : (p / 3 < i ∨ p / 3 = i ∧ p % 3 < x) ∧ p % 3 < T.L
      · rw [if_pos h, if_pos (by omega)]
      · rw [if_neg h, if_neg (by omega)]
/-- The machine of the state q of a table; no machine if it has too many states. -/
def fromM (T : Tab) (q : Nat) : Mach := if (fin T (fix T) q).length ≤ 16 then gth T (fix T) (fin T (fix T) q) else ⟨0, 0, fun _ => 0, fun _ => 0⟩
def fromC (T : Tab) (q : Nat) : Int := if (fin T (fix T) q).length ≤ 16 then 0 else 3
theorem mem_idxOf_lt {l : List Nat} {a : Nat} (h : a ∈ l) : l.idxOf a < l.length := List.idxOf_lt_length_of_mem h
end Go.Proofs.YthmcdfjijkecfaaGreat

/- Tables: a machine as lists of rows, made by the program. -/
namespace Go.Proofs.YthmcdfjijkecfaaGreat
open Go.RowKit
set_option linter.unusedVariables false
set_option linter.unusedSimpArgs false

def rwI (f : Nat → Nat → Nat) (q L : Nat) : List Int := (List.range L).map fun x => ((f q x : Nat) : Int)
theorem rwI_snoc (f : Nat → Nat → Nat) (q L : Nat) : rwI f q (L + 1) = rwI f q L ++ [((f q L : Nat) : Int)] := by simp [rwI, List.range_succ]
theorem rwI_length (f : Nat → Nat → Nat) (q L : Nat) : (rwI f q L).length = L := by simp [rwI]
theorem rwI_get (f : Nat → Nat → Nat) (q L x : Nat) (h : x < L) : (rwI f q L)[x]? = some ((f q x : Nat) : Int) := by simp [rwI, h]
def tbL (f : Nat → Nat → Nat) (n L : Nat) : List (List Int) := (List.range n).map fun q => rwI f q L
theorem tbL_snoc (f : Nat → Nat → Nat) (n L : Nat) : tbL f (n + 1) L = tbL f n L ++ [rwI f n L] := by simp [tbL, List.range_succ]
theorem tbL_length (f : Nat → Nat → Nat) (n L : Nat) : (tbL f n L).length = n := by simp [tbL]
theorem tbL_get (f : Nat → Nat → Nat) (n L q : Nat) (h : q < n) : (tbL f n L)[q]? = some (rwI f q L) := by simp [tbL, h]

/-- A machine as a table. -/
def tabOf (m : Mach) (l s : Nat) : Tab := ⟨s, l, fun q x => m.nx (q * 3 + x), fun q x => m.ot (q * 3 + x)⟩
theorem tabOf_ok {m : Mach} {l s : Nat} (g : Good m l s) : (tabOf m l s).Ok := ⟨g.s1, fun q x hq hx => g.nx q x hq hx⟩

/-- A table in its block. -/
def TB (w : World) (G : Nat) (vN vO : Value) (T : Tab) : Prop :=
  w.heap[G]? = some (.cells #[vN, vO] 105 (0, 0)) ∧ Mat w G vN (tbL T.nx T.n T.L) ∧ Mat w G vO (tbL T.ot T.n T.L)
section
variable {w w' : World} {G : Nat} {vN vO : Value} {T : Tab}
theorem TB.lt (h : TB w G vN vO T) : G < w.heap.size := (Array.getElem?_eq_some_iff.1 h.1).1
theorem TB.below (h : TB w G vN vO T) (hb : Below w.heap.size w w') : TB w' G vN vO T := ⟨(hb.block G h.lt).trans h.1, h.2.1.below hb, h.2.2.below hb⟩
theorem TB.c0 (h : TB w G vN vO T) : w.cell? ⟨G, 0, none⟩ = some vN := cell_of_row w G 0 _ _ _ h.1
theorem TB.c1 (h : TB w G vN vO T) : w.cell? ⟨G, 1, none⟩ = some vO := cell_of_row w G 1 _ _ _ h.1
end

set_option maxHeartbeats 4000000 in
set_option maxRecDepth 100000 in
theorem table_any (b : Nat) (w : World) (m : Mach) (hm : MB w 27 b m) (l s : Nat) (g : Good m l s) :
    Calls Tryz.prog 87 #[.pointer (some ⟨b, 0, none⟩)] w fun e w' => ∃ vN vO, e = .returned (.pointer (some ⟨w.heap.size, 0, none⟩)) ∧ TB w' w.heap.size vN vO (tabOf m l s) ∧ Below w.heap.size w w' := by
  have hblt := hm.lt
  have cS := (hm.alloc (.cells #[.slice none 0 0, .slice none 0 0] 105)).cS
  rw [g.S] at cS
  have gL := hid g.L
  have l2 := g.l2
  have l3 := g.l3
  have s16 := g.s16
  have hlt256 := hid (fun q x (hq : q < s) (hx : x < l) => (show m.nx (q * 3 + x) < 256 ∧ m.ot (q * 3 + x) < 256 from ⟨by have := g.nx q x hq hx; omega, by have := g.ot q x hq hx; omega⟩))
  have hS := (St.start w).newBlk #[.slice none 0 0, .slice none 0 0] 105
  have hS2 := hid (show St w.heap.size w [Asn.blk w.heap.size #[.slice none 0 0, .slice none 0 0] 105, Asn.mat w.heap.size (.slice none 0 0) [] [], Asn.mat w.heap.size (.slice none 0 0) [] []] _ from
    ((hS.push (a := Asn.mat w.heap.size (.slice none 0 0) [] []) ⟨Own.nil _ _ _, rfl, fun i r l h => by simp at h⟩ (fun k hk => by rcases hk with hk | ⟨r, hr, _⟩ <;> simp [Value.ownBlock] at *)).push (a := Asn.mat w.heap.size (.slice none 0 0) [] []) ⟨Own.nil _ _ _, rfl, fun i r l h => by simp at h⟩ (fun k hk => by rcases hk with hk | ⟨r, hr, _⟩ <;> simp [Value.ownBlock] at *)).f2)
  clear hS
  have hS := hS2
  clear hS2
  have hnx : (fun q x => m.nx (q * 3 + x)) = (tabOf m l s).nx := rfl
  have hot : (fun q x => m.ot (q * 3 + x)) = (tabOf m l s).ot := rfl
  replace hm := hid hm
  replace g := hid g
  replace hnx := hid hnx; replace hot := hid hot
  generalize hN : (fun q x => m.nx (q * 3 + x)) = fN at *
  generalize hO : (fun q x => m.ot (q * 3 + x)) = fO at *
  have eN := hid (fun q x => (show fN q x = m.nx (q * 3 + x) by rw [← hN]))
  have eO := hid (fun q x => (show fO q x = m.ot (q * 3 + x) by rw [← hO]))
  clear hN hO
  go_enter Tryz.func87, Tryz.ntmps87
  go_wp2
  clear cS
  go_loopw [14] (fun i wr => ∃ q : Nat, q ≤ s ∧ i = .int .i64 q ∧ ∃ vN vO rN rO, St w.heap.size w [Asn.blk w.heap.size #[vN, vO] 105, Asn.mat w.heap.size vN rN (tbL fN q l), Asn.mat w.heap.size vO rO (tbL fO q l)] wr) (fun i _ => s - (intOf i).toNat)
  case atStart => exact ⟨0, Nat.zero_le _, rfl, _, _, _, _, hS.out⟩
  case round =>
    obtain ⟨q, hq, rfl, vN, vO, rN, rO, rS⟩ := hrel
    clear hS
    have cL := (hm.out.below rS.bel hblt).cL
    rw [gL.out] at cL
    have rS2 := hid ((rS.nilOwn 2).nilOwn 2)
    replace rS := hid rS
    by_cases hqs : q < s
    · go_wp2
      clear cL
      go_loopw [5, 6, 21] (fun a b i wr => ∃ x : Nat, x ≤ l ∧ i = .int .i64 x ∧ St w.heap.size w [Asn.own w.heap.size 2 a (ints (rwI fN q x)), Asn.own w.heap.size 2 b (ints (rwI fO q x)), Asn.blk w.heap.size #[vN, vO] 105, Asn.mat w.heap.size vN rN (tbL fN q l), Asn.mat w.heap.size vO rO (tbL fO q l)] wr) (fun _ _ i _ => l - (intOf i).toNat)
      case atStart => exact ⟨0, Nat.zero_le _, rfl, rS2.out⟩
      case round =>
        obtain ⟨x, hx, rfl, yS⟩ := hrel
        clear rS rS2
        replace yS := hid yS
        have hlN := hid (show (ints (rwI fN q x)).length = x by rw [ints_length, rwI_length])
        have hlO := hid (show (ints (rwI fO q x)).length = x by rw [ints_length, rwI_length])
        by_cases hxl : x < l
        · have hn := hid (fun W hW => next_any b W m hW q x (by omega) (by omega) (hlt256.out q x hqs hxl).1)
          have ho := hid (fun W hW => out_any b W m hW q x (by omega) (by omega) (hlt256.out q x hqs hxl).2)
          have hsN := hid (rwI_snoc fN q x)
          have hsO := hid (rwI_snoc fO q x)
          rw [← eN.out q x] at hn
          rw [← eO.out q x] at ho
          go_wp2_with (first
            | (go_at_call 177; (with_reducible refine (hn.out _ (hm.out.below yS.out.bel hblt)).mono ?_); rintro e w3 ⟨rfl, rfl⟩)
            | (go_at_call 176; (with_reducible refine (ho.out _ (hm.out.below yS.out.bel hblt)).mono ?_); rintro e w3 ⟨rfl, rfl⟩)
            | ((with_reducible refine gate (N := 30) rfl ?_); refine St.app 32 2 (.int .i64 0) 8 Tryz.underlying32 info_i64 rfl (by omega) rfl _ _ rfl _ _ rfl yS.out _ rfl rfl x hlN.out (by omega) ?_; intro gn cn w4 yS'; replace yS := hid yS'.f1; clear yS')
            | ((with_reducible refine gate (N := 37) rfl ?_); refine St.app 32 2 (.int .i64 0) 8 Tryz.underlying32 info_i64 rfl (by omega) rfl _ _ rfl _ _ rfl yS.out _ rfl rfl x hlO.out (by omega) ?_; intro go co w5 yS'; replace yS := hid yS'.f1; clear yS'))
          go_roundw
          case rel => exact ⟨x + 1, by omega, by go_num, by rw [hsN.out, hsO.out, ints_snoc, ints_snoc]; exact yS.out⟩
          case measure => simp [intOf]; omega
        · obtain rfl : l = x := by omega
          obtain ⟨g1, c1, rfl, _, _⟩ := yS.out.o0.blk (fun e => by have h1 := congrArg List.length e; rw [hlN.out] at h1; simp at h1; omega)
          obtain ⟨g2, c2, rfl, _, _⟩ := yS.out.o1.blk (fun e => by have h1 := congrArg List.length e; rw [hlO.out] at h1; simp at h1; omega)
          rw [hlN.out, hlO.out] at yS ⊢
          have hg := hid yS.out.f2.s2.s1.s3
          have hle := hid (Nat.le_refl w.heap.size)
          have hsN := hid (tbL_snoc fN q l)
          have hsO := hid (tbL_snoc fO q l)
          clear yS
          go_upto_region 11 with (fail)
          have hg' := hid hg.out.drew; clear hg; have hg := hg'; clear hg'
          refine wp_region_heldL (L := [(8, (fun w' : World => w'.cell? ⟨w.heap.size, 0, none⟩ = some vN)), (15, (fun w' : World => w'.cell? ⟨w.heap.size, 1, none⟩ = some vO))]) (by kernel_rfl) (HeldL.cons (fun _ => (cell_of_row _ _ 0 _ _ _ hg.out.k0)) (HeldL.cons (fun _ => (cell_of_row _ _ 1 _ _ _ hg.out.k0)) HeldL.nil)) (fun hHeld => ?_)
          generalize wr.drew = wd at *
          refine wpAnyL_take0 (i := 0) (v := ?_) rfl (by kernel_rfl) (by kernel_rfl) (by kernel_rfl) (by rfl) (fun _ _ _ h => h) (Or.inl ⟨by rfl, ?_⟩) (by assumption) ?_
          rotate_left
          · (intro W _; go_simp; (with_reducible rfl))
          intro hHeld'
          clear hHeld; have hHeld := hHeld'; clear hHeld'
          try simp only [Act.put, List.setIfInBounds_toArray, List.set_cons_zero, List.set_cons_succ]
          refine wpAnyL_take0 (i := 1) (v := ?_) rfl (by kernel_rfl) (by kernel_rfl) (by kernel_rfl) (by rfl) (fun _ _ _ h => h) (Or.inl ⟨by rfl, ?_⟩) (by assumption) ?_
          rotate_left
          · (intro W _; go_simp; (with_reducible rfl))
          intro hHeld'
          clear hHeld; have hHeld := hHeld'; clear hHeld'
          try simp only [Act.put, List.setIfInBounds_toArray, List.set_cons_zero, List.set_cons_succ]
          refine wpAnyL_take0 (i := 2) (v := ?_) rfl (by kernel_rfl) (by kernel_rfl) (by kernel_rfl) (by rfl) (fun _ _ _ h => h) (Or.inl ⟨by rfl, ?_⟩) (by assumption) ?_
          rotate_left
          · (intro W _; go_simp; (with_reducible rfl))
          intro hHeld'
          clear hHeld; have hHeld := hHeld'; clear hHeld'
          try simp only [Act.put, List.setIfInBounds_toArray, List.set_cons_zero, List.set_cons_succ]
          refine wpAnyL_take0 (i := 3) (v := ?_) rfl (by kernel_rfl) (by kernel_rfl) (by kernel_rfl) (by rfl) (fun _ _ _ h => h) (Or.inl ⟨by rfl, ?_⟩) (by assumption) ?_
          rotate_left
          · (intro W _; go_simp; (with_reducible rfl))
          intro hHeld'
          clear hHeld; have hHeld := hHeld'; clear hHeld'
          try simp only [Act.put, List.setIfInBounds_toArray, List.set_cons_zero, List.set_cons_succ]
          refine wpAnyL_take0 (i := 4) (v := ?_) rfl (by kernel_rfl) (by kernel_rfl) (by kernel_rfl) (by rfl) (fun _ _ _ h => h) (Or.inl ⟨by rfl, ?_⟩) (by assumption) ?_
          rotate_left
          · (intro W _; go_simp; (with_reducible rfl))
          intro hHeld'
          clear hHeld; have hHeld := hHeld'; clear hHeld'
          try simp only [Act.put, List.setIfInBounds_toArray, List.set_cons_zero, List.set_cons_succ]
          refine wpAnyL_takeT (i := 5) 8 (v := vN) (fun w' : World => w'.cell? ⟨w.heap.size, 0, none⟩ = some vN) rfl rfl (by kernel_rfl) (by kernel_rfl) (by kernel_rfl) (by rfl) (by decide +kernel) (by decide +kernel) (by decide +kernel) (by simp) (fun _ _ _ h => h) (Or.inl ⟨by rfl, ?_⟩) (by assumption) ?_
          · (intro W hW; (try dsimp only at hW); go_simp)
          intro hHeld'
          clear hHeld; have hHeld := hHeld'; clear hHeld'
          try simp only [Act.put, List.setIfInBounds_toArray, List.set_cons_zero, List.set_cons_succ]
          refine wpAnyL_take0 (i := 6) (v := ?_) rfl (by kernel_rfl) (by kernel_rfl) (by kernel_rfl) (by rfl) (fun _ _ _ h => h) (Or.inl ⟨by rfl, ?_⟩) (by assumption) ?_
          rotate_left
          · (intro W _; go_simp; (with_reducible rfl))
          intro hHeld'
          clear hHeld; have hHeld := hHeld'; clear hHeld'
          try simp only [Act.put, List.setIfInBounds_toArray, List.set_cons_zero, List.set_cons_succ]
          refine wpAnyL_take0 (i := 9) (v := ?_) rfl (by kernel_rfl) (by kernel_rfl) (by kernel_rfl) (by rfl) (fun _ _ _ h => h) (Or.inl ⟨by rfl, ?_⟩) (by assumption) ?_
          rotate_left
          · (intro W _; go_simp; (with_reducible rfl))
          intro hHeld'
          clear hHeld; have hHeld := hHeld'; clear hHeld'
          try simp only [Act.put, List.setIfInBounds_toArray, List.set_cons_zero, List.set_cons_succ]
          refine wpAnyL_take0 (i := 10) (v := ?_) rfl (by kernel_rfl) (by kernel_rfl) (by kernel_rfl) (by rfl) (fun _ _ _ h => h) (Or.inl ⟨by rfl, ?_⟩) (by assumption) ?_
          rotate_left
          · (intro W _; go_simp; (with_reducible rfl))
          intro hHeld'
          clear hHeld; have hHeld := hHeld'; clear hHeld'
          try simp only [Act.put, List.setIfInBounds_toArray, List.set_cons_zero, List.set_cons_succ]
          refine wpAnyL_take0 (i := 11) (v := ?_) rfl (by kernel_rfl) (by kernel_rfl) (by kernel_rfl) (by rfl) (fun _ _ _ h => h) (Or.inl ⟨by rfl, ?_⟩) (by assumption) ?_
          rotate_left
          · (intro W _; go_simp; (with_reducible rfl))
          intro hHeld'
          clear hHeld; have hHeld := hHeld'; clear hHeld'
          try simp only [Act.put, List.setIfInBounds_toArray, List.set_cons_zero, List.set_cons_succ]
          refine wpAnyL_takeT (i := 12) 15 (v := vO) (fun w' : World => w'.cell? ⟨w.heap.size, 1, none⟩ = some vO) rfl rfl (by kernel_rfl) (by kernel_rfl) (by kernel_rfl) (by rfl) (by decide +kernel) (by decide +kernel) (by decide +kernel) (by simp) (fun _ _ _ h => h) (Or.inl ⟨by rfl, ?_⟩) (by assumption) ?_
          · (intro W hW; (try dsimp only at hW); go_simp)
          intro hHeld'
          clear hHeld; have hHeld := hHeld'; clear hHeld'
          try simp only [Act.put, List.setIfInBounds_toArray, List.set_cons_zero, List.set_cons_succ]
          refine wpAnyL_take0 (i := 13) (v := ?_) rfl (by kernel_rfl) (by kernel_rfl) (by kernel_rfl) (by rfl) (fun _ _ _ h => h) (Or.inl ⟨by rfl, ?_⟩) (by assumption) ?_
          rotate_left
          · (intro W _; go_simp; (with_reducible rfl))
          intro hHeld'
          clear hHeld; have hHeld := hHeld'; clear hHeld'
          try simp only [Act.put, List.setIfInBounds_toArray, List.set_cons_zero, List.set_cons_succ]
          refine wpAnyL_ready (rs := [7, 14]) (by kernel_rfl) (by simp) ?_
          refine AllReadyL.cons rfl (fun K hK => ?_) ?_
          · skip
            go_simp
            have hg' := hid (hg.out.newBlk #[(Value.slice (some ⟨g1, 0, none⟩) l c1)] 32); clear hg; have hg := hg'; clear hg'
            generalize wd.heap.size = bA at *
            generalize wd.alloc (.cells #[(Value.slice (some ⟨g1, 0, none⟩) l c1)] 32) = we at *
            refine hK.out _ _ (HeldL.cons (fun _ => (cell_of_row _ _ 0 _ _ _ hg.out.k1)) (HeldL.cons (fun _ => (cell_of_row _ _ 1 _ _ _ hg.out.k1)) HeldL.nil)) (fun hHeld' => ?_)
            clear hK K hHeld; have hHeld := hHeld'; clear hHeld'
            try simp only [Act.put, List.setIfInBounds_toArray, List.set_cons_zero, List.set_cons_succ]
            refine wpAnyL_ready (rs := [8, 14]) (by kernel_rfl) (by simp) ?_
            refine AllReadyL.cons rfl (fun K hK => ?_) ?_
            · skip
              refine St.stepM 32 rfl _ _ rfl _ _ _ _ _ rfl (hg.out.f2.f3.f1) bA rfl _ (tbL_length _ _ _) (by omega) ?_
              intro ga ca wf hg'
              replace hg := hid hg'.f1.drop; clear hg'
              refine hK.out _ _ (HeldL.cons (fun _ => (cell_of_row _ _ 0 _ _ _ hg.out.k1)) (HeldL.cons (fun _ => (cell_of_row _ _ 1 _ _ _ hg.out.k1)) HeldL.nil)) (fun hHeld' => ?_)
              clear hK K hHeld; have hHeld := hHeld'; clear hHeld'
              try simp only [Act.put, List.setIfInBounds_toArray, List.set_cons_zero, List.set_cons_succ]
              refine wpAnyL_ready (rs := [14]) (by kernel_rfl) (by simp) ?_
              refine AllReadyL.cons rfl (fun K hK => ?_) AllReadyL.nil
              go_simp
              have hg' := hid (hg.out.newBlk #[(Value.slice (some ⟨g2, 0, none⟩) l c2)] 32); clear hg; have hg := hg'; clear hg'
              generalize wf.heap.size = bB at *
              generalize wf.alloc (.cells #[(Value.slice (some ⟨g2, 0, none⟩) l c2)] 32) = wg at *
              refine hK.out _ _ (HeldL.cons (fun _ => (cell_of_row _ _ 0 _ _ _ hg.out.k2)) (HeldL.cons (fun _ => (cell_of_row _ _ 1 _ _ _ hg.out.k2)) HeldL.nil)) (fun hHeld' => ?_)
              clear hK K hHeld; have hHeld := hHeld'; clear hHeld'
              try simp only [Act.put, List.setIfInBounds_toArray, List.set_cons_zero, List.set_cons_succ]
              refine wpAnyL_ready (rs := [15]) (by kernel_rfl) (by simp) ?_
              refine AllReadyL.cons rfl (fun K hK => ?_) AllReadyL.nil
              refine St.stepM 32 rfl _ _ rfl _ _ _ _ _ rfl (hg.out.f3.f4.f1) bB rfl _ (tbL_length _ _ _) (by omega) ?_
              intro gb cb wx hg'
              replace hg := hid hg'.f1.drop; clear hg'
              replace hg := hid hg.out.f2
              refine hK.out _ _ (HeldL.cons (fun _ => (cell_of_row _ _ 0 _ _ _ hg.out.k0)) (HeldL.cons (fun _ => (cell_of_row _ _ 1 _ _ _ hg.out.k0)) HeldL.nil)) (fun hHeld' => ?_)
              clear hK K hHeld; have hHeld := hHeld'; clear hHeld'
              try simp only [Act.put, List.setIfInBounds_toArray, List.set_cons_zero, List.set_cons_succ]
              refine wpAnyL_take0 (i := 16) (v := ?_) rfl (by kernel_rfl) (by kernel_rfl) (by kernel_rfl) (by rfl) (fun _ _ _ h => h) (Or.inl ⟨by rfl, ?_⟩) (by assumption) ?_
              rotate_left
              · (intro W _; go_simp; (with_reducible rfl))
              intro hHeld'
              clear hHeld; have hHeld := hHeld'; clear hHeld'
              try simp only [Act.put, List.setIfInBounds_toArray, List.set_cons_zero, List.set_cons_succ]
              refine wpAnyL_take0 (i := 17) (v := ?_) rfl (by kernel_rfl) (by kernel_rfl) (by kernel_rfl) (by rfl) (fun _ _ _ h => h) (Or.inl ⟨by rfl, ?_⟩) (by assumption) ?_
              rotate_left
              · (intro W _; go_simp; (with_reducible rfl))
              intro hHeld'
              clear hHeld; have hHeld := hHeld'; clear hHeld'
              try simp only [Act.put, List.setIfInBounds_toArray, List.set_cons_zero, List.set_cons_succ]
              have q1 := (cell_of_row _ _ 0 _ _ _ hg.out.k0)
              have q2 := frozen_of_row _ _ 0 _ _ hg.out.k0
              refine wpAnyL_ready (rs := [18]) (by kernel_rfl) (by simp) ?_
              refine AllReadyL.cons rfl (fun K hK => ?_) AllReadyL.nil
              go_simp
              replace hg := hid (hg.out.setBlk (hle.out) 0 (.slice (some ⟨ga, 0, none⟩) (q + 1) ca)); clear q1 q2
              refine hK.out _ _ (HeldL.cons (fun h => absurd h (by decide +kernel)) (HeldL.cons (fun h => absurd h (by decide +kernel)) HeldL.nil)) (fun hHeld' => ?_)
              clear hK K hHeld; have hHeld := hHeld'; clear hHeld'
              try simp only [Act.put, List.setIfInBounds_toArray, List.set_cons_zero, List.set_cons_succ]
              refine wpAnyL_take0 (i := 19) (v := ?_) rfl (by kernel_rfl) (by kernel_rfl) (by kernel_rfl) (by rfl) (fun _ _ _ h => h) (Or.inl ⟨by rfl, ?_⟩) (by assumption) ?_
              rotate_left
              · (intro W _; go_simp; (with_reducible rfl))
              intro hHeld'
              clear hHeld; have hHeld := hHeld'; clear hHeld'
              try simp only [Act.put, List.setIfInBounds_toArray, List.set_cons_zero, List.set_cons_succ]
              refine wpAnyL_take0 (i := 20) (v := ?_) rfl (by kernel_rfl) (by kernel_rfl) (by kernel_rfl) (by rfl) (fun _ _ _ h => h) (Or.inl ⟨by rfl, ?_⟩) (by assumption) ?_
              rotate_left
              · (intro W _; go_simp; (with_reducible rfl))
              intro hHeld'
              clear hHeld; have hHeld := hHeld'; clear hHeld'
              try simp only [Act.put, List.setIfInBounds_toArray, List.set_cons_zero, List.set_cons_succ]
              have q1 := (cell_of_row _ _ 1 _ _ _ hg.out.k0)
              have q2 := frozen_of_row _ _ 1 _ _ hg.out.k0
              refine wpAnyL_ready (rs := [21]) (by kernel_rfl) (by simp) ?_
              refine AllReadyL.cons rfl (fun K hK => ?_) AllReadyL.nil
              go_simp
              replace hg := hid (hg.out.setBlk (hle.out) 1 (.slice (some ⟨gb, 0, none⟩) (q + 1) cb)); clear q1 q2
              refine hK.out _ _ (HeldL.cons (fun h => absurd h (by decide +kernel)) (HeldL.cons (fun h => absurd h (by decide +kernel)) HeldL.nil)) (fun hHeld' => ?_)
              clear hK K hHeld; have hHeld := hHeld'; clear hHeld'
              try simp only [Act.put, List.setIfInBounds_toArray, List.set_cons_zero, List.set_cons_succ]
              refine wpAnyL_done (by kernel_rfl) ?_ _
              replace hg := hid (show St _ _ (Asn.blk w.heap.size #[(.slice (some ⟨ga, 0, none⟩) (q + 1) ca), (.slice (some ⟨gb, 0, none⟩) (q + 1) cb)] 105 :: _) _ from hg.out)
              try simp only [List.setIfInBounds_toArray, List.set_cons_zero, List.set_cons_succ] at hg
              go_wp2
              go_roundw
              case rel => exact ⟨q + 1, by omega, by go_num, _, _, _, _, by rw [hsN.out, hsO.out]; exact hg.out.s1⟩
              case measure => simp [intOf]; omega
            refine AllReadyL.cons rfl (fun K hK => ?_) AllReadyL.nil
            go_simp
            have hg' := hid (hg.out.newBlk #[(Value.slice (some ⟨g2, 0, none⟩) l c2)] 32); clear hg; have hg := hg'; clear hg'
            generalize we.heap.size = bB at *
            generalize we.alloc (.cells #[(Value.slice (some ⟨g2, 0, none⟩) l c2)] 32) = wf at *
            refine hK.out _ _ (HeldL.cons (fun _ => (cell_of_row _ _ 0 _ _ _ hg.out.k2)) (HeldL.cons (fun _ => (cell_of_row _ _ 1 _ _ _ hg.out.k2)) HeldL.nil)) (fun hHeld' => ?_)
            clear hK K hHeld; have hHeld := hHeld'; clear hHeld'
            try simp only [Act.put, List.setIfInBounds_toArray, List.set_cons_zero, List.set_cons_succ]
            refine wpAnyL_ready (rs := [8]) (by kernel_rfl) (by simp) ?_
            refine AllReadyL.cons rfl (fun K hK => ?_) AllReadyL.nil
            refine St.stepM 32 rfl _ _ rfl _ _ _ _ _ rfl (hg.out.f3.f4.f1.s2) bA rfl _ (tbL_length _ _ _) (by omega) ?_
            intro ga ca wg hg'
            replace hg := hid hg'.f1.drop; clear hg'
            refine hK.out _ _ (HeldL.cons (fun _ => (cell_of_row _ _ 0 _ _ _ hg.out.k2)) (HeldL.cons (fun _ => (cell_of_row _ _ 1 _ _ _ hg.out.k2)) HeldL.nil)) (fun hHeld' => ?_)
            clear hK K hHeld; have hHeld := hHeld'; clear hHeld'
            try simp only [Act.put, List.setIfInBounds_toArray, List.set_cons_zero, List.set_cons_succ]
            refine wpAnyL_ready (rs := [15]) (by kernel_rfl) (by simp) ?_
            refine AllReadyL.cons rfl (fun K hK => ?_) AllReadyL.nil
            refine St.stepM 32 rfl _ _ rfl _ _ _ _ _ rfl (hg.out.f3.f4.f1.s2) bB rfl _ (tbL_length _ _ _) (by omega) ?_
            intro gb cb wx hg'
            replace hg := hid hg'.f1.drop; clear hg'
            replace hg := hid hg.out.f2
            refine hK.out _ _ (HeldL.cons (fun _ => (cell_of_row _ _ 0 _ _ _ hg.out.k0)) (HeldL.cons (fun _ => (cell_of_row _ _ 1 _ _ _ hg.out.k0)) HeldL.nil)) (fun hHeld' => ?_)
            clear hK K hHeld; have hHeld := hHeld'; clear hHeld'
            try simp only [Act.put, List.setIfInBounds_toArray, List.set_cons_zero, List.set_cons_succ]
            refine wpAnyL_take0 (i := 16) (v := ?_) rfl (by kernel_rfl) (by kernel_rfl) (by kernel_rfl) (by rfl) (fun _ _ _ h => h) (Or.inl ⟨by rfl, ?_⟩) (by assumption) ?_
            rotate_left
            · (intro W _; go_simp; (with_reducible rfl))
            intro hHeld'
            clear hHeld; have hHeld := hHeld'; clear hHeld'
            try simp only [Act.put, List.setIfInBounds_toArray, List.set_cons_zero, List.set_cons_succ]
            refine wpAnyL_take0 (i := 17) (v := ?_) rfl (by kernel_rfl) (by kernel_rfl) (by kernel_rfl) (by rfl) (fun _ _ _ h => h) (Or.inl ⟨by rfl, ?_⟩) (by assumption) ?_
            rotate_left
            · (intro W _; go_simp; (with_reducible rfl))
            intro hHeld'
            clear hHeld; have hHeld := hHeld'; clear hHeld'
            try simp only [Act.put, List.setIfInBounds_toArray, List.set_cons_zero, List.set_cons_succ]
            have q1 := (cell_of_row _ _ 0 _ _ _ hg.out.k0)
            have q2 := frozen_of_row _ _ 0 _ _ hg.out.k0
            refine wpAnyL_ready (rs := [18]) (by kernel_rfl) (by simp) ?_
            refine AllReadyL.cons rfl (fun K hK => ?_) AllReadyL.nil
            go_simp
            replace hg := hid (hg.out.setBlk (hle.out) 0 (.slice (some ⟨ga, 0, none⟩) (q + 1) ca)); clear q1 q2
            refine hK.out _ _ (HeldL.cons (fun h => absurd h (by decide +kernel)) (HeldL.cons (fun h => absurd h (by decide +kernel)) HeldL.nil)) (fun hHeld' => ?_)
            clear hK K hHeld; have hHeld := hHeld'; clear hHeld'
            try simp only [Act.put, List.setIfInBounds_toArray, List.set_cons_zero, List.set_cons_succ]
            refine wpAnyL_take0 (i := 19) (v := ?_) rfl (by kernel_rfl) (by kernel_rfl) (by kernel_rfl) (by rfl) (fun _ _ _ h => h) (Or.inl ⟨by rfl, ?_⟩) (by assumption) ?_
            rotate_left
            · (intro W _; go_simp; (with_reducible rfl))
            intro hHeld'
            clear hHeld; have hHeld := hHeld'; clear hHeld'
            try simp only [Act.put, List.setIfInBounds_toArray, List.set_cons_zero, List.set_cons_succ]
            refine wpAnyL_take0 (i := 20) (v := ?_) rfl (by kernel_rfl) (by kernel_rfl) (by kernel_rfl) (by rfl) (fun _ _ _ h => h) (Or.inl ⟨by rfl, ?_⟩) (by assumption) ?_
            rotate_left
            · (intro W _; go_simp; (with_reducible rfl))
            intro hHeld'
            clear hHeld; have hHeld := hHeld'; clear hHeld'
            try simp only [Act.put, List.setIfInBounds_toArray, List.set_cons_zero, List.set_cons_succ]
            have q1 := (cell_of_row _ _ 1 _ _ _ hg.out.k0)
            have q2 := frozen_of_row _ _ 1 _ _ hg.out.k0
            refine wpAnyL_ready (rs := [21]) (by kernel_rfl) (by simp) ?_
            refine AllReadyL.cons rfl (fun K hK => ?_) AllReadyL.nil
            go_simp
            replace hg := hid (hg.out.setBlk (hle.out) 1 (.slice (some ⟨gb, 0, none⟩) (q + 1) cb)); clear q1 q2
            refine hK.out _ _ (HeldL.cons (fun h => absurd h (by decide +kernel)) (HeldL.cons (fun h => absurd h (by decide +kernel)) HeldL.nil)) (fun hHeld' => ?_)
            clear hK K hHeld; have hHeld := hHeld'; clear hHeld'
            try simp only [Act.put, List.setIfInBounds_toArray, List.set_cons_zero, List.set_cons_succ]
            refine wpAnyL_done (by kernel_rfl) ?_ _
            replace hg := hid (show St _ _ (Asn.blk w.heap.size #[(.slice (some ⟨ga, 0, none⟩) (q + 1) ca), (.slice (some ⟨gb, 0, none⟩) (q + 1) cb)] 105 :: _) _ from hg.out)
            try simp only [List.setIfInBounds_toArray, List.set_cons_zero, List.set_cons_succ] at hg
            go_wp2
            go_roundw
            case rel => exact ⟨q + 1, by omega, by go_num, _, _, _, _, by rw [hsN.out, hsO.out]; exact hg.out.s1⟩
            case measure => simp [intOf]; omega
          refine AllReadyL.cons rfl (fun K hK => ?_) AllReadyL.nil
          go_simp
          have hg' := hid (hg.out.newBlk #[(Value.slice (some ⟨g2, 0, none⟩) l c2)] 32); clear hg; have hg := hg'; clear hg'
          generalize wd.heap.size = bB at *
          generalize wd.alloc (.cells #[(Value.slice (some ⟨g2, 0, none⟩) l c2)] 32) = we at *
          refine hK.out _ _ (HeldL.cons (fun _ => (cell_of_row _ _ 0 _ _ _ hg.out.k1)) (HeldL.cons (fun _ => (cell_of_row _ _ 1 _ _ _ hg.out.k1)) HeldL.nil)) (fun hHeld' => ?_)
          clear hK K hHeld; have hHeld := hHeld'; clear hHeld'
          try simp only [Act.put, List.setIfInBounds_toArray, List.set_cons_zero, List.set_cons_succ]
          refine wpAnyL_ready (rs := [7]) (by kernel_rfl) (by simp) ?_
          refine AllReadyL.cons rfl (fun K hK => ?_) AllReadyL.nil
          go_simp
          have hg' := hid (hg.out.newBlk #[(Value.slice (some ⟨g1, 0, none⟩) l c1)] 32); clear hg; have hg := hg'; clear hg'
          generalize we.heap.size = bA at *
          generalize we.alloc (.cells #[(Value.slice (some ⟨g1, 0, none⟩) l c1)] 32) = wf at *
          refine hK.out _ _ (HeldL.cons (fun _ => (cell_of_row _ _ 0 _ _ _ hg.out.k2)) (HeldL.cons (fun _ => (cell_of_row _ _ 1 _ _ _ hg.out.k2)) HeldL.nil)) (fun hHeld' => ?_)
          clear hK K hHeld; have hHeld := hHeld'; clear hHeld'
          try simp only [Act.put, List.setIfInBounds_toArray, List.set_cons_zero, List.set_cons_succ]
          refine wpAnyL_ready (rs := [8]) (by kernel_rfl) (by simp) ?_
          refine AllReadyL.cons rfl (fun K hK => ?_) AllReadyL.nil
          refine St.stepM 32 rfl _ _ rfl _ _ _ _ _ rfl (hg.out.f3.f4.f1) bA rfl _ (tbL_length _ _ _) (by omega) ?_
          intro ga ca wg hg'
          replace hg := hid hg'.f1.drop; clear hg'
          refine hK.out _ _ (HeldL.cons (fun _ => (cell_of_row _ _ 0 _ _ _ hg.out.k2)) (HeldL.cons (fun _ => (cell_of_row _ _ 1 _ _ _ hg.out.k2)) HeldL.nil)) (fun hHeld' => ?_)
          clear hK K hHeld; have hHeld := hHeld'; clear hHeld'
          try simp only [Act.put, List.setIfInBounds_toArray, List.set_cons_zero, List.set_cons_succ]
          refine wpAnyL_ready (rs := [15]) (by kernel_rfl) (by simp) ?_
          refine AllReadyL.cons rfl (fun K hK => ?_) AllReadyL.nil
          refine St.stepM 32 rfl _ _ rfl _ _ _ _ _ rfl (hg.out.f3.f4.f1.s2) bB rfl _ (tbL_length _ _ _) (by omega) ?_
          intro gb cb wx hg'
          replace hg := hid hg'.f1.drop; clear hg'
          replace hg := hid hg.out.f2
          refine hK.out _ _ (HeldL.cons (fun _ => (cell_of_row _ _ 0 _ _ _ hg.out.k0)) (HeldL.cons (fun _ => (cell_of_row _ _ 1 _ _ _ hg.out.k0)) HeldL.nil)) (fun hHeld' => ?_)
          clear hK K hHeld; have hHeld := hHeld'; clear hHeld'
          try simp only [Act.put, List.setIfInBounds_toArray, List.set_cons_zero, List.set_cons_succ]
          refine wpAnyL_take0 (i := 16) (v := ?_) rfl (by kernel_rfl) (by kernel_rfl) (by kernel_rfl) (by rfl) (fun _ _ _ h => h) (Or.inl ⟨by rfl, ?_⟩) (by assumption) ?_
          rotate_left
          · (intro W _; go_simp; (with_reducible rfl))
          intro hHeld'
          clear hHeld; have hHeld := hHeld'; clear hHeld'
          try simp only [Act.put, List.setIfInBounds_toArray, List.set_cons_zero, List.set_cons_succ]
          refine wpAnyL_take0 (i := 17) (v := ?_) rfl (by kernel_rfl) (by kernel_rfl) (by kernel_rfl) (by rfl) (fun _ _ _ h => h) (Or.inl ⟨by rfl, ?_⟩) (by assumption) ?_
          rotate_left
          · (intro W _; go_simp; (with_reducible rfl))
          intro hHeld'
          clear hHeld; have hHeld := hHeld'; clear hHeld'
          try simp only [Act.put, List.setIfInBounds_toArray, List.set_cons_zero, List.set_cons_succ]
          have q1 := (cell_of_row _ _ 0 _ _ _ hg.out.k0)
          have q2 := frozen_of_row _ _ 0 _ _ hg.out.k0
          refine wpAnyL_ready (rs := [18]) (by kernel_rfl) (by simp) ?_
          refine AllReadyL.cons rfl (fun K hK => ?_) AllReadyL.nil
          go_simp
          replace hg := hid (hg.out.setBlk (hle.out) 0 (.slice (some ⟨ga, 0, none⟩) (q + 1) ca)); clear q1 q2
          refine hK.out _ _ (HeldL.cons (fun h => absurd h (by decide +kernel)) (HeldL.cons (fun h => absurd h (by decide +kernel)) HeldL.nil)) (fun hHeld' => ?_)
          clear hK K hHeld; have hHeld := hHeld'; clear hHeld'
          try simp only [Act.put, List.setIfInBounds_toArray, List.set_cons_zero, List.set_cons_succ]
          refine wpAnyL_take0 (i := 19) (v := ?_) rfl (by kernel_rfl) (by kernel_rfl) (by kernel_rfl) (by rfl) (fun _ _ _ h => h) (Or.inl ⟨by rfl, ?_⟩) (by assumption) ?_
          rotate_left
          · (intro W _; go_simp; (with_reducible rfl))
          intro hHeld'
          clear hHeld; have hHeld := hHeld'; clear hHeld'
          try simp only [Act.put, List.setIfInBounds_toArray, List.set_cons_zero, List.set_cons_succ]
          refine wpAnyL_take0 (i := 20) (v := ?_) rfl (by kernel_rfl) (by kernel_rfl) (by kernel_rfl) (by rfl) (fun _ _ _ h => h) (Or.inl ⟨by rfl, ?_⟩) (by assumption) ?_
          rotate_left
          · (intro W _; go_simp; (with_reducible rfl))
          intro hHeld'
          clear hHeld; have hHeld := hHeld'; clear hHeld'
          try simp only [Act.put, List.setIfInBounds_toArray, List.set_cons_zero, List.set_cons_succ]
          have q1 := (cell_of_row _ _ 1 _ _ _ hg.out.k0)
          have q2 := frozen_of_row _ _ 1 _ _ hg.out.k0
          refine wpAnyL_ready (rs := [21]) (by kernel_rfl) (by simp) ?_
          refine AllReadyL.cons rfl (fun K hK => ?_) AllReadyL.nil
          go_simp
          replace hg := hid (hg.out.setBlk (hle.out) 1 (.slice (some ⟨gb, 0, none⟩) (q + 1) cb)); clear q1 q2
          refine hK.out _ _ (HeldL.cons (fun h => absurd h (by decide +kernel)) (HeldL.cons (fun h => absurd h (by decide +kernel)) HeldL.nil)) (fun hHeld' => ?_)
          clear hK K hHeld; have hHeld := hHeld'; clear hHeld'
          try simp only [Act.put, List.setIfInBounds_toArray, List.set_cons_zero, List.set_cons_succ]
          refine wpAnyL_done (by kernel_rfl) ?_ _
          replace hg := hid (show St _ _ (Asn.blk w.heap.size #[(.slice (some ⟨ga, 0, none⟩) (q + 1) ca), (.slice (some ⟨gb, 0, none⟩) (q + 1) cb)] 105 :: _) _ from hg.out)
          try simp only [List.setIfInBounds_toArray, List.set_cons_zero, List.set_cons_succ] at hg
          go_wp2
          go_roundw
          case rel => exact ⟨q + 1, by omega, by go_num, _, _, _, _, by rw [hsN.out, hsO.out]; exact hg.out.s1⟩
          case measure => simp [intOf]; omega
    · obtain rfl : s = q := by omega
      have h1 := hid (show TB wr w.heap.size vN vO (tabOf m l s) from ⟨rS.out.k0, ⟨_, by have h := rS.out.g1; rw [hnx.out] at h; exact h⟩, ⟨_, by have h := rS.out.g2; rw [hot.out] at h; exact h⟩⟩)
      go_wp2
      go_ret
      exact ⟨vN, vO, rfl, h1.out, rS.out.bel⟩
end Go.Proofs.YthmcdfjijkecfaaGreat
