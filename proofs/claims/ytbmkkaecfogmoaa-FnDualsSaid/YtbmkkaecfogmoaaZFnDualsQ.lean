/- What the proof of FnDuals leans on, part 17 of 26. -/
import Derived.Test.YtbmkkaecfogmoaaZFnDualsP
/- FnDuals: the plain laws. -/
namespace Go.Proofs.Ytbmkkaecfogmoaa
open Go.RowKit
set_option linter.unusedVariables false
set_option linter.unusedSimpArgs false
-- @LONG

section
variable {m : Mach} {l s : Nat}
theorem rowD_at (m : Mach) (x : Nat) : ∀ Q, Q ≤ 3 → ∀ (o : Mach) (x' q' : Nat), q' < 3 → (rowD m x Q o).nx (x' * 3 + q') = (if x' = x ∧ q' < Q then m.ot (q' * 3 + x) else o.nx (x' * 3 + q')) ∧ (rowD m x Q o).ot (x' * 3 + q') = (if x' = x ∧ q' < Q then m.nx (q' * 3 + x) else o.ot (x' * 3 + q'))
  | 0, _, o, x', q', _ => by rw [if_neg (by omega), if_neg (by omega)]; exact ⟨rfl, rfl⟩
  | Q + 1, hQ, o, x', q', hq => by
    obtain ⟨i1, i2⟩ := rowD_at m x Q (by omega) o x' q' hq
    show upd (rowD m x Q o).nx (x * 3 + Q) (m.ot (Q * 3 + x)) (x' * 3 + q') = _ ∧ upd (rowD m x Q o).ot (x * 3 + Q) (m.nx (Q * 3 + x)) (x' * 3 + q') = _
    unfold upd
    by_cases h : x' * 3 + q' = x * 3 + Q
    · obtain rfl : q' = Q := by omega
      obtain rfl : x' = x := by omega
      rw [if_pos rfl, if_pos rfl, if_pos ⟨rfl, by omega⟩, if_pos ⟨rfl, by omega⟩]
      exact ⟨rfl, rfl⟩
    · rw [if_neg h, if_neg h, i1, i2]
      by_cases h2 : x' = x ∧ q' < Q
      · rw [if_pos h2, if_pos h2, if_pos ⟨h2.1, by omega⟩, if_pos ⟨h2.1, by omega⟩]
        exact ⟨rfl, rfl⟩
      · rw [if_neg h2, if_neg h2, if_neg (by omega), if_neg (by omega)]
        exact ⟨rfl, rfl⟩
theorem rowD_LS (m : Mach) (x : Nat) : ∀ Q (o : Mach), (rowD m x Q o).L = o.L ∧ (rowD m x Q o).S = o.S
  | 0, _ => ⟨rfl, rfl⟩
  | Q + 1, o => rowD_LS m x Q o
theorem allD_at (m : Mach) (s : Nat) (hs : s ≤ 3) : ∀ X (x q : Nat), q < 3 → (allD m s X).nx (x * 3 + q) = (if x < X ∧ q < s then m.ot (q * 3 + x) else 0) ∧ (allD m s X).ot (x * 3 + q) = (if x < X ∧ q < s then m.nx (q * 3 + x) else 0)
  | 0, x, q, _ => by rw [if_neg (by omega), if_neg (by omega)]; exact ⟨rfl, rfl⟩
  | X + 1, x, q, hq => by
    obtain ⟨i1, i2⟩ := allD_at m s hs X x q hq
    obtain ⟨h1, h2⟩ := rowD_at m X s hs (allD m s X) x q hq
    show (rowD m X s (allD m s X)).nx _ = _ ∧ (rowD m X s (allD m s X)).ot _ = _
    rw [h1, h2, i1, i2]
    by_cases h : x = X ∧ q < s
    · obtain ⟨rfl, h⟩ := h
      have hx : x = x ∧ q < s := ⟨rfl, h⟩
      have hy : x < x + 1 ∧ q < s := ⟨by omega, h⟩
      rw [if_pos hx, if_pos hx, if_pos hy, if_pos hy]
      exact ⟨rfl, rfl⟩
    · rw [if_neg h, if_neg h]
      by_cases h2 : x < X ∧ q < s
      · rw [if_pos h2, if_pos h2, if_pos ⟨by omega, h2.2⟩, if_pos ⟨by omega, h2.2⟩]
        exact ⟨rfl, rfl⟩
      · rw [if_neg h2, if_neg h2, if_neg (by omega), if_neg (by omega)]
        exact ⟨rfl, rfl⟩
theorem allD_LS (m : Mach) (s : Nat) : ∀ X, (allD m s X).L = m.S ∧ (allD m s X).S = m.L
  | 0 => ⟨rfl, rfl⟩
  | X + 1 => by
    have h1 := rowD_LS m X s (allD m s X)
    have h2 := allD_LS m s X
    exact ⟨h1.1.trans h2.1, h1.2.trans h2.2⟩
theorem dual_nx (hs : s ≤ 3) {x q : Nat} (hx : x < l) (hq : q < s) : (dual m l s).nx (x * 3 + q) = m.ot (q * 3 + x) := by
  rw [dual, (allD_at m s hs l x q (by omega)).1, if_pos ⟨hx, hq⟩]
theorem dual_ot (hs : s ≤ 3) {x q : Nat} (hx : x < l) (hq : q < s) : (dual m l s).ot (x * 3 + q) = m.nx (q * 3 + x) := by
  rw [dual, (allD_at m s hs l x q (by omega)).2, if_pos ⟨hx, hq⟩]
theorem dual_good (g : Good m l s) (hs : s ≤ 3) (h2 : 2 ≤ s) (hr : RevP m l s) : Good (dual m l s) s l where
  L := by rw [dual, (allD_LS m s l).1, g.S]
  S := by rw [dual, (allD_LS m s l).2, g.L]
  l2 := h2
  l3 := hs
  s1 := by have := g.l2; omega
  s16 := by have := g.l3; omega
  nx := fun q x hq hx => by rw [dual_nx hs hq hx]; exact g.ot x q hx hq
  ot := fun q x hq hx => by rw [dual_ot hs hq hx]; exact g.nx x q hx hq
  inj := fun q hq y x hy hx => by rw [dual_ot hs hq (by omega), dual_ot hs hq hx]; exact hr q hq y x hy hx
  z := fun q x hq hx hn => by
    obtain ⟨h1, h2⟩ := allD_at m s hs l q x hx
    rw [dual, h1, h2, if_neg hn, if_neg hn]; exact ⟨rfl, rfl⟩
theorem dual_ok (hk : m.Ok) (hs : s ≤ 3) : (dual m l s).Ok := fun i => by
  obtain ⟨h1, h2⟩ := allD_at m s hs l (i / 3) (i % 3) (by omega)
  rw [show i / 3 * 3 + i % 3 = i by omega] at h1 h2
  rw [dual, h1, h2]
  constructor
  · split
    · exact (hk _).2
    · decide
  · split
    · exact (hk _).1
    · decide
theorem dual_rev (g : Good m l s) (hs : s ≤ 3) : RevP (dual m l s) s l := fun x hx i j hij hj => by
  dsimp only
  rw [dual_nx hs (by omega) hx, dual_nx hs hj hx]
  exact g.inj x hx i j hij hj
theorem mcells_ext {m k : Mach} (h1 : m.L = k.L) (h2 : m.S = k.S) (h : ∀ q x, q < 16 → x < 3 → m.nx (q * 3 + x) = k.nx (q * 3 + x) ∧ m.ot (q * 3 + x) = k.ot (q * 3 + x)) : mcells m = mcells k := by
  unfold mcells
  congr 1
  refine List.map_congr_left fun i hi => ?_
  have hi := List.mem_range.1 hi
  unfold mf
  by_cases e0 : i = 0
  · rw [if_pos e0, if_pos e0, h1]
  rw [if_neg e0, if_neg e0]
  by_cases e1 : i = 1
  · rw [if_pos e1, if_pos e1, h2]
  rw [if_neg e1, if_neg e1]
  by_cases e2 : i < 50
  · rw [if_pos e2, if_pos e2]
    have := (h ((i - 2) / 3) ((i - 2) % 3) (by omega) (by omega)).1
    rw [show (i - 2) / 3 * 3 + (i - 2) % 3 = i - 2 by omega] at this
    rw [this]
  · rw [if_neg e2, if_neg e2]
    have := (h ((i - 50) / 3) ((i - 50) % 3) (by omega) (by omega)).2
    rw [show (i - 50) / 3 * 3 + (i - 50) % 3 = i - 50 by omega] at this
    rw [this]
theorem dual_dual (g : Good m l s) (hs : s ≤ 3) : mcells (dual (dual m l s) s l) = mcells m := by
  have l3 := g.l3
  refine mcells_ext (by rw [dual, (allD_LS _ _ _).1, dual, (allD_LS _ _ _).2]) (by rw [dual, (allD_LS _ _ _).2, dual, (allD_LS _ _ _).1]) fun q x hq hx => ?_
  obtain ⟨h1, h2⟩ := allD_at (dual m l s) l l3 s q x hx
  rw [show (dual (dual m l s) s l) = allD (dual m l s) l s from rfl, h1, h2]
  by_cases h : q < s ∧ x < l
  · rw [if_pos h, if_pos h, dual_ot hs h.2 h.1, dual_nx hs h.2 h.1]; exact ⟨rfl, rfl⟩
  · rw [if_neg h, if_neg h]
    obtain ⟨h3, h4⟩ := g.z q x hq hx h
    exact ⟨h3.symm, h4.symm⟩
end
theorem dual_sm (m : Mach) (hk : m.Ok) : Sm (dualAns m).1 := by
  by_cases hm : IsM m
  · obtain ⟨l, s, g⟩ := hm.good
    rw [dualAns_good g]
    split
    · rename_i h
      split
      · rename_i hr
        exact (dual_good g h.1 h.2 hr).sm (dual_ok hk h.1)
      · exact Sm.zero
    · exact Sm.zero
  · unfold dualAns; rw [if_neg hm]; exact Sm.zero
/-- The dual of a dual is the machine, and duals are reversible. -/
theorem dual_law {m : Mach} (hk : m.Ok) (h : (dualAns m).2 = 0) : IsM (dualAns m).1 ∧ revAns (dualAns m).1 = (true, 0) ∧ Sm m ∧ ∃ B, dualAns (dualAns m).1 = (B, 0) ∧ mcells B = mcells m := by
  by_cases hm : IsM m
  · obtain ⟨l, s, g⟩ := hm.good
    rw [dualAns_good g] at h ⊢
    by_cases hs : s ≤ 3 ∧ 2 ≤ s
    · rw [if_pos hs] at h ⊢
      by_cases hr : RevP m l s
      · rw [if_pos hr] at h ⊢
        have gd := dual_good g hs.1 hs.2 hr
        have hr2 := dual_rev g hs.1
        refine ⟨gd.isM, revAns_good gd true (iff_of_true rfl hr2), g.sm hk, dual (dual m l s) s l, ?_, dual_dual g hs.1⟩
        show dualAns (dual m l s) = _
        rw [dualAns_good gd, if_pos ⟨g.l3, g.l2⟩, if_pos hr2]
      · rw [if_neg hr] at h; cases h
    · rw [if_neg hs] at h; cases h
  · unfold dualAns at h; rw [if_neg hm] at h; cases h
end Go.Proofs.Ytbmkkaecfogmoaa

/- The product of two states: the program's side. -/
namespace Go.Proofs.Ytbmkkaecfogmoaa
open Go.RowKit
set_option linter.unusedVariables false
set_option linter.unusedSimpArgs false

/-- The table of a product. -/
def prodT (m k : Mach) (l s s' : Nat) : Tab := ⟨s * s', l, fun p x => m.nx (p / s' * 3 + x) * s' + k.nx (p % s' * 3 + m.ot (p / s' * 3 + x)), fun p x => k.ot (p % s' * 3 + m.ot (p / s' * 3 + x))⟩
section
variable {m k : Mach} {l s s' : Nat}
theorem prod_nx (m k : Mach) (l s : Nat) {a b P : Nat} (x : Nat) (hb : b < s') (hP : P = a * s') : (prodT m k l s s').nx (P + b) x = m.nx (a * 3 + x) * s' + k.nx (b * 3 + m.ot (a * 3 + x)) := by
  have e1 : (P + b) / s' = a := by rw [hP, Nat.mul_comm, Nat.mul_add_div (by omega), Nat.div_eq_of_lt hb, Nat.add_zero]
  have e2 : (P + b) % s' = b := by rw [hP, Nat.mul_comm, Nat.mul_add_mod, Nat.mod_eq_of_lt hb]
  simp only [prodT, e1, e2]
theorem prod_ot (m k : Mach) (l s : Nat) {a b P : Nat} (x : Nat) (hb : b < s') (hP : P = a * s') : (prodT m k l s s').ot (P + b) x = k.ot (b * 3 + m.ot (a * 3 + x)) := by
  have e1 : (P + b) / s' = a := by rw [hP, Nat.mul_comm, Nat.mul_add_div (by omega), Nat.div_eq_of_lt hb, Nat.add_zero]
  have e2 : (P + b) % s' = b := by rw [hP, Nat.mul_comm, Nat.mul_add_mod, Nat.mod_eq_of_lt hb]
  simp only [prodT, e1, e2]
theorem prod_split {p : Nat} (hp : p < s * s') : p / s' < s ∧ p % s' < s' := by
  have h0 : 0 < s' := Nat.pos_of_ne_zero (fun h => by rw [h] at hp; simp at hp)
  exact ⟨Nat.div_lt_of_lt_mul (by rw [Nat.mul_comm]; exact hp), Nat.mod_lt _ h0⟩
theorem prod_in {a b : Nat} (ha : a < s) (hb : b < s') : a * s' + b < s * s' := by
  have h1 : a * s' + s' ≤ s * s' := by rw [← Nat.succ_mul]; exact Nat.mul_le_mul_right _ ha
  omega
theorem prod_ok (g : Good m l s) (g' : Good k l s') : (prodT m k l s s').Ok := by
  refine ⟨Nat.mul_pos g.s1 g'.s1, fun p x hp hx => ?_⟩
  obtain ⟨h1, h2⟩ := prod_split hp
  exact prod_in (g.nx _ x h1 hx) (g'.nx _ _ h2 (g.ot _ x h1 hx))
theorem prod_o (g : Good m l s) (g' : Good k l s') : ∀ p x, p < (prodT m k l s s').n → x < (prodT m k l s s').L → (prodT m k l s s').ot p x < (prodT m k l s s').L := fun p x hp hx => by
  obtain ⟨h1, h2⟩ := prod_split hp
  exact g'.ot _ _ h2 (g.ot _ x h1 hx)
theorem prod_o256 (g : Good m l s) (g' : Good k l s') : ∀ p x, p < (prodT m k l s s').n → x < (prodT m k l s s').L → (prodT m k l s s').ot p x < 256 := fun p x hp hx => by
  have h := prod_o g g' p x hp hx
  have : (prodT m k l s s').L = l := rfl
  have := g.l3
  omega
theorem prod_inj (g : Good m l s) (g' : Good k l s') : ∀ p, p < (prodT m k l s s').n → ∀ y x, y < x → x < (prodT m k l s s').L → (prodT m k l s s').ot p y ≠ (prodT m k l s s').ot p x := fun p hp y x hy hx => by
  obtain ⟨h1, h2⟩ := prod_split hp
  have hx' : x < l := hx
  have i := g.inj _ h1 y x hy hx'
  have o1 := g.ot _ y h1 (by omega)
  have o2 := g.ot _ x h1 hx'
  show k.ot _ ≠ k.ot _
  rcases Nat.lt_or_gt_of_ne i with h | h
  · exact g'.inj _ h2 _ _ h o2
  · exact (g'.inj _ h2 _ _ h o1).symm
theorem prod_n (g : Good m l s) (g' : Good k l s') : (prodT m k l s s').n ≤ 256 := by
  show s * s' ≤ 256
  exact Nat.mul_le_mul g.s16 g'.s16
end

set_option maxHeartbeats 8000000 in
set_option maxRecDepth 100000 in
theorem product_any (b1 b2 : Nat) (w : World) (m k : Mach) (hm : MB w 27 b1 m) (hk : MB w 27 b2 k) (l s s' : Nat) (g : Good m l s) (g' : Good k l s') (q r : Nat) (hq : q < s) (hr : r < s') :
    Calls Try.prog 170 #[.pointer (some ⟨b1, 0, none⟩), .int .i64 q, .pointer (some ⟨b2, 0, none⟩), .int .i64 r] w fun e w' => e = .returned (.tuple #[.agg (mcells (fromM (prodT m k l s s') (q * s' + r))), .int .i64 (fromC (prodT m k l s s') (q * s' + r))]) ∧ Below w.heap.size w w' := by
  have hz := zero_mach
  have hB0 := below_alloc (Below.refl w.heap.size w) (Nat.le_refl _) (.cells (mcells ⟨0, 0, fun _ => 0, fun _ => 0⟩) 27)
  have hBel := hid (fun W (hb : Below (w.heap.size + 1) (w.alloc (.cells (mcells ⟨0, 0, fun _ => 0, fun _ => 0⟩) 27)) W) => hB0.trans (hb.mono (Nat.le_succ _)))
  have hml := hid (fun W (hb : Below w.heap.size w W) => (show MB W 27 b1 m ∧ W.cell? ⟨b1, 0, none⟩ = some (.int .i64 (l : Int)) ∧ W.cell? ⟨b1, 1, none⟩ = some (.int .i64 (s : Int)) from ⟨hm.below hb hm.lt, by have h := (hm.below hb hm.lt).cL; rw [g.L] at h; exact h, by have h := (hm.below hb hm.lt).cS; rw [g.S] at h; exact h⟩))
  have hkl := hid (fun W (hb : Below w.heap.size w W) => (show MB W 27 b2 k ∧ W.cell? ⟨b2, 1, none⟩ = some (.int .i64 (s' : Int)) from ⟨hk.below hb hk.lt, by have h := (hk.below hb hk.lt).cS; rw [g'.S] at h; exact h⟩))
  have hZ := hid (fun W (hb : Below (w.heap.size + 1) (w.alloc (.cells (mcells ⟨0, 0, fun _ => 0, fun _ => 0⟩) 27)) W) => (MB.new w ⟨0, 0, fun _ => 0, fun _ => 0⟩ 27).below hb (Nat.lt_succ_self _))
  have l2 := g.l2
  have l3 := g.l3
  have s16 := g.s16
  have s16' := g'.s16
  have hlt := hid (fun a b x (ha : a < s) (hb : b < s') (hx : x < l) => (show m.nx (a * 3 + x) < 16 ∧ m.ot (a * 3 + x) < 3 ∧ k.nx (b * 3 + m.ot (a * 3 + x)) < 16 ∧ k.ot (b * 3 + m.ot (a * 3 + x)) < 3 from by
    have h1 := g.nx a x ha hx; have h2 := g.ot a x ha hx; have h3 := g'.nx b _ hb h2; have h4 := g'.ot b _ hb h2
    exact ⟨by omega, by omega, by omega, by omega⟩))
  have hTn := hid (show (prodT m k l s s').n = s * s' from rfl)
  have hTL := hid (show (prodT m k l s s').L = l from rfl)
  have hmf := hid (fun W G vN vO hW => machineFrom_any W G (q * s' + r) vN vO (prodT m k l s s') (prod_ok g g') g.l3 (by show 0 < l; omega) (Nat.lt_of_le_of_lt (prod_n g g') (by omega)) hW (prod_o256 g g') (prod_in hq hr))
  rw [hTL.out] at hmf
  have eN := hid (fun a b P x => prod_nx (a := a) (b := b) (P := P) (s' := s') m k l s x)
  have eO := hid (fun a b P x => prod_ot (a := a) (b := b) (P := P) (s' := s') m k l s x)
  have hS := (St.start (w.alloc (.cells (mcells ⟨0, 0, fun _ => 0, fun _ => 0⟩) 27))).newBlk #[.slice none 0 0, .slice none 0 0] 189
  simp only [heap_alloc_size] at hS
  have hS2 := hid (show St (w.heap.size + 1) _ [Asn.blk (w.heap.size + 1) #[.slice none 0 0, .slice none 0 0] 189, Asn.mat (w.heap.size + 1) (.slice none 0 0) [] [], Asn.mat (w.heap.size + 1) (.slice none 0 0) [] []] _ from
    ((hS.push (a := Asn.mat (w.heap.size + 1) (.slice none 0 0) [] []) ⟨Own.nil _ _ _, rfl, fun i r l h => by simp at h⟩ (fun k hk => by rcases hk with hk | ⟨r, hr, _⟩ <;> simp [Value.ownBlock] at *)).push (a := Asn.mat (w.heap.size + 1) (.slice none 0 0) [] []) ⟨Own.nil _ _ _, rfl, fun i r l h => by simp at h⟩ (fun k hk => by rcases hk with hk | ⟨r, hr, _⟩ <;> simp [Value.ownBlock] at *)).f2)
  have c0 := (hml.out _ (hBel.out _ hS2.out.bel)).2.2
  have hqs := hid hq; have hrs := hid hr
  obtain ⟨V0, hV0⟩ : ∃ V, V = q * s' := ⟨_, rfl⟩
  have hVb0 : V0 ≤ 256 := by rw [hV0]; exact Nat.mul_le_mul (Nat.le_trans (Nat.le_of_lt hq) s16) s16'
  have hu1 : IntKind.i64.wrap ((q : Int) * (s' : Int)) = (V0 : Int) := by rw [show (q : Int) * (s' : Int) = (V0 : Int) by rw [hV0]; exact (Int.natCast_mul _ _).symm]; exact IntWalk.i64_in _ (by omega)
  rw [← hV0] at hmf ⊢
  replace hV0 := hid hV0
  clear hS hm hk g g' hB0 hq hr
  have hS := hS2
  clear hS2
  generalize fromC (prodT m k l s s') (V0 + r) = fc at *
  generalize fromM (prodT m k l s s') (V0 + r) = fm at *
  generalize hgT : prodT m k l s s' = T at *
  clear hgT
  generalize mcells ⟨0, 0, fun _ => 0, fun _ => 0⟩ = zs at *
  replace hu1 := hid hu1
  go_enter Try.func170, Try.ntmps170
  go_wp2
  clear c0
  go_loopw [23] (fun i wr => ∃ a P : Nat, a ≤ s ∧ Hid (P = a * s') ∧ i = .int .i64 a ∧ ∃ vN vO rN rO, St (w.heap.size + 1) (w.alloc (.cells zs 27)) [Asn.blk (w.heap.size + 1) #[vN, vO] 189, Asn.mat (w.heap.size + 1) vN rN (tbL T.nx P l), Asn.mat (w.heap.size + 1) vO rO (tbL T.ot P l)] wr) (fun i _ => s - (intOf i).toNat)
  case atStart => exact ⟨0, 0, Nat.zero_le _, hid (Nat.zero_mul _).symm, rfl, _, _, _, _, hS.out⟩
  case round =>
    obtain ⟨a, P, ha, hP, rfl, vN, vO, rN, rO, rS⟩ := hrel
    clear hS
    replace rS := hid rS
    by_cases has : a < s
    · have hc := (hkl.out _ (hBel.out _ rS.out.bel)).2
      go_wp2
      clear hc
      go_loopw [30] (fun i wr => ∃ b : Nat, b ≤ s' ∧ i = .int .i64 b ∧ ∃ vN vO rN rO, St (w.heap.size + 1) (w.alloc (.cells zs 27)) [Asn.blk (w.heap.size + 1) #[vN, vO] 189, Asn.mat (w.heap.size + 1) vN rN (tbL T.nx (P + b) l), Asn.mat (w.heap.size + 1) vO rO (tbL T.ot (P + b) l)] wr) (fun i _ => s' - (intOf i).toNat)
      case atStart => exact ⟨0, Nat.zero_le _, rfl, _, _, _, _, rS.out⟩
      case round =>
        obtain ⟨b, hb, rfl, vN, vO, rN, rO, tS⟩ := hrel
        clear rS
        replace tS := hid tS
        by_cases hbs : b < s'
        · have hc := (hml.out _ (hBel.out _ tS.out.bel)).2.1
          have rS2 := hid ((tS.out.nilOwn 2).nilOwn 2)
          go_wp2
          clear hc
          go_loopw [13, 14, 37] (fun u v i wr => ∃ x : Nat, x ≤ l ∧ i = .int .i64 x ∧ St (w.heap.size + 1) (w.alloc (.cells zs 27)) [Asn.own (w.heap.size + 1) 2 u (ints (rwI T.nx (P + b) x)), Asn.own (w.heap.size + 1) 2 v (ints (rwI T.ot (P + b) x)), Asn.blk (w.heap.size + 1) #[vN, vO] 189, Asn.mat (w.heap.size + 1) vN rN (tbL T.nx (P + b) l), Asn.mat (w.heap.size + 1) vO rO (tbL T.ot (P + b) l)] wr) (fun _ _ i _ => l - (intOf i).toNat)
          case atStart => exact ⟨0, Nat.zero_le _, rfl, rS2.out⟩
          case round =>
            obtain ⟨x, hx, rfl, yS⟩ := hrel
            clear tS rS2
            replace yS := hid yS
            have hlN := hid (show (ints (rwI T.nx (P + b) x)).length = x by rw [ints_length, rwI_length])
            have hlO := hid (show (ints (rwI T.ot (P + b) x)).length = x by rw [ints_length, rwI_length])
            by_cases hxl : x < l
            · obtain ⟨t1, t2, t3, t4⟩ := hlt.out a b x has hbs hxl
              have hn1 := hid (fun W hW => next_any b1 W m hW a x (by omega) (by omega) (by omega))
              have ho1 := hid (fun W hW => out_any b1 W m hW a x (by omega) (by omega) (by omega))
              have hn2 := hid (fun W hW => next_any b2 W k hW b (m.ot (a * 3 + x)) (by omega) (by omega) (by omega))
              have ho2 := hid (fun W hW => out_any b2 W k hW b (m.ot (a * 3 + x)) (by omega) (by omega) (by omega))
              have eF := eN.out a b P x hbs hP.out
              have eG := eO.out a b P x hbs hP.out
              obtain ⟨V, hV⟩ : ∃ V, V = m.nx (a * 3 + x) * s' := ⟨_, rfl⟩
              have hVb : V ≤ 256 := by rw [hV]; exact Nat.mul_le_mul (Nat.le_of_lt t1) s16'
              have hw1 : IntKind.i64.wrap ((m.nx (a * 3 + x) : Int) * (s' : Int)) = (V : Int) := by rw [show (m.nx (a * 3 + x) : Int) * (s' : Int) = (V : Int) by rw [hV]; exact (Int.natCast_mul _ _).symm]; exact IntWalk.i64_in _ (by omega)
              rw [← hV] at eF
              clear hV
              generalize k.ot (b * 3 + m.ot (a * 3 + x)) = o2 at *
              generalize k.nx (b * 3 + m.ot (a * 3 + x)) = v2 at *
              generalize m.ot (a * 3 + x) = y at *
              generalize m.nx (a * 3 + x) = v1 at *
              have hw2 : IntKind.i64.wrap ((V : Int) + (v2 : Int)) = ((V + v2 : Nat) : Int) := by rw [show (V : Int) + (v2 : Int) = ((V + v2 : Nat) : Int) by omega]; exact IntWalk.i64_in _ (by omega)
              have hsN := hid (rwI_snoc T.nx (P + b) x)
              have hsO := hid (rwI_snoc T.ot (P + b) x)
              rw [eF] at hsN
              rw [eG] at hsO
              clear eF eG
              generalize V + v2 = F at *
              go_upto_region 13 with (first
                | (go_at_call 185; (with_reducible refine (ho1.out _ (hml.out _ (hBel.out _ yS.out.bel)).1).mono ?_); rintro e w3 ⟨rfl, rfl⟩))
              have hg' := hid yS.out.drew; clear yS; have yS := hg'; clear hg'
              refine wp_region_heldL (L := [(23, (fun w' : World => w'.cell? ⟨b2, 1, none⟩ = some (.int .i64 (s' : Int))))]) (by kernel_rfl) (HeldL.cons (fun _ => (hkl.out _ (hBel.out _ yS.out.bel)).2) HeldL.nil) (fun hHeld => ?_)
              generalize wr.drew = wd at *
              refine wpAnyL_take0 (i := 0) (v := ?_) rfl (by kernel_rfl) (by kernel_rfl) (by kernel_rfl) (by rfl) (fun _ _ _ h => h) (Or.inl ⟨by rfl, ?_⟩) (by assumption) ?_
              rotate_left
              · (intro W _; go_simp; (with_reducible rfl))
              intro hHeld'
              clear hHeld; have hHeld := hHeld'; clear hHeld'
              try simp only [Act.put, List.setIfInBounds_toArray, List.set_cons_zero, List.set_cons_succ]
              refine wpAnyL_take0 (i := 1) (v := ?_) rfl (by kernel_rfl) (by kernel_rfl) (by kernel_rfl) (by rfl) (fun _ _ _ h => h) (Or.inl ⟨by rfl, ?_⟩) (by assumption) ?_
              rotate_left
              · (intro W _; go_simp; (with_reducible rfl))
              intro hHeld'
              clear hHeld; have hHeld := hHeld'; clear hHeld'
              try simp only [Act.put, List.setIfInBounds_toArray, List.set_cons_zero, List.set_cons_succ]
              refine wpAnyL_take0 (i := 2) (v := ?_) rfl (by kernel_rfl) (by kernel_rfl) (by kernel_rfl) (by rfl) (fun _ _ _ h => h) (Or.inl ⟨by rfl, ?_⟩) (by assumption) ?_
              rotate_left
              · (intro W _; go_simp; (with_reducible rfl))
              intro hHeld'
              clear hHeld; have hHeld := hHeld'; clear hHeld'
              try simp only [Act.put, List.setIfInBounds_toArray, List.set_cons_zero, List.set_cons_succ]
              refine wpAnyL_take0 (i := 3) (v := ?_) rfl (by kernel_rfl) (by kernel_rfl) (by kernel_rfl) (by rfl) (fun _ _ _ h => h) (Or.inl ⟨by rfl, ?_⟩) (by assumption) ?_
              rotate_left
              · (intro W _; go_simp; (with_reducible rfl))
              intro hHeld'
              clear hHeld; have hHeld := hHeld'; clear hHeld'
              try simp only [Act.put, List.setIfInBounds_toArray, List.set_cons_zero, List.set_cons_succ]
              refine wpAnyL_take0 (i := 5) (v := ?_) rfl (by kernel_rfl) (by kernel_rfl) (by kernel_rfl) (by rfl) (fun _ _ _ h => h) (Or.inl ⟨by rfl, ?_⟩) (by assumption) ?_
              rotate_left
              · (intro W _; go_simp; (with_reducible rfl))
              intro hHeld'
              clear hHeld; have hHeld := hHeld'; clear hHeld'
              try simp only [Act.put, List.setIfInBounds_toArray, List.set_cons_zero, List.set_cons_succ]
              refine wpAnyL_take0 (i := 6) (v := ?_) rfl (by kernel_rfl) (by kernel_rfl) (by kernel_rfl) (by rfl) (fun _ _ _ h => h) (Or.inl ⟨by rfl, ?_⟩) (by assumption) ?_
              rotate_left
              · (intro W _; go_simp; (with_reducible rfl))
              intro hHeld'
              clear hHeld; have hHeld := hHeld'; clear hHeld'
              try simp only [Act.put, List.setIfInBounds_toArray, List.set_cons_zero, List.set_cons_succ]
              refine wpAnyL_take0 (i := 7) (v := ?_) rfl (by kernel_rfl) (by kernel_rfl) (by kernel_rfl) (by rfl) (fun _ _ _ h => h) (Or.inl ⟨by rfl, ?_⟩) (by assumption) ?_
              rotate_left
              · (intro W _; go_simp; (with_reducible rfl))
              intro hHeld'
              clear hHeld; have hHeld := hHeld'; clear hHeld'
              try simp only [Act.put, List.setIfInBounds_toArray, List.set_cons_zero, List.set_cons_succ]
              refine wpAnyL_takeP (i := 8) 23 [21, 16, 15, 14, 9] (v := ?_) (fun w' : World => w'.cell? ⟨b2, 1, none⟩ = some (.int .i64 (s' : Int))) rfl (by kernel_rfl) (by kernel_rfl) (by kernel_rfl) (by rfl) (by kernel_rfl) (by simp) (fun _ _ _ h => h) (Or.inl ⟨by rfl, ?_⟩) (by assumption) ?_
              rotate_left
              · (intro W hW; go_simp; (with_reducible rfl))
              intro hHeld'
              clear hHeld; have hHeld := hHeld'; clear hHeld'
              try simp only [Act.put, List.setIfInBounds_toArray, List.set_cons_zero, List.set_cons_succ]
              refine wpAnyL_take0 (i := 10) (v := ?_) rfl (by kernel_rfl) (by kernel_rfl) (by kernel_rfl) (by rfl) (fun _ _ _ h => h) (Or.inl ⟨by rfl, ?_⟩) (by assumption) ?_
              rotate_left
              · (intro W _; go_simp; (with_reducible rfl))
              intro hHeld'
              clear hHeld; have hHeld := hHeld'; clear hHeld'
              try simp only [Act.put, List.setIfInBounds_toArray, List.set_cons_zero, List.set_cons_succ]
              refine wpAnyL_take0 (i := 11) (v := ?_) rfl (by kernel_rfl) (by kernel_rfl) (by kernel_rfl) (by rfl) (fun _ _ _ h => h) (Or.inl ⟨by rfl, ?_⟩) (by assumption) ?_
              rotate_left
              · (intro W _; go_simp; (with_reducible rfl))
              intro hHeld'
              clear hHeld; have hHeld := hHeld'; clear hHeld'
              try simp only [Act.put, List.setIfInBounds_toArray, List.set_cons_zero, List.set_cons_succ]
              refine wpAnyL_take0 (i := 12) (v := ?_) rfl (by kernel_rfl) (by kernel_rfl) (by kernel_rfl) (by rfl) (fun _ _ _ h => h) (Or.inl ⟨by rfl, ?_⟩) (by assumption) ?_
              rotate_left
              · (intro W _; go_simp; (with_reducible rfl))
              intro hHeld'
              clear hHeld; have hHeld := hHeld'; clear hHeld'
              try simp only [Act.put, List.setIfInBounds_toArray, List.set_cons_zero, List.set_cons_succ]
              refine wpAnyL_take0 (i := 17) (v := ?_) rfl (by kernel_rfl) (by kernel_rfl) (by kernel_rfl) (by rfl) (fun _ _ _ h => h) (Or.inl ⟨by rfl, ?_⟩) (by assumption) ?_
              rotate_left
              · (intro W _; go_simp; (with_reducible rfl))
              intro hHeld'
              clear hHeld; have hHeld := hHeld'; clear hHeld'
              try simp only [Act.put, List.setIfInBounds_toArray, List.set_cons_zero, List.set_cons_succ]
              refine wpAnyL_take0 (i := 18) (v := ?_) rfl (by kernel_rfl) (by kernel_rfl) (by kernel_rfl) (by rfl) (fun _ _ _ h => h) (Or.inl ⟨by rfl, ?_⟩) (by assumption) ?_
              rotate_left
              · (intro W _; go_simp; (with_reducible rfl))
              intro hHeld'
              clear hHeld; have hHeld := hHeld'; clear hHeld'
              try simp only [Act.put, List.setIfInBounds_toArray, List.set_cons_zero, List.set_cons_succ]
              refine wpAnyL_take0 (i := 19) (v := ?_) rfl (by kernel_rfl) (by kernel_rfl) (by kernel_rfl) (by rfl) (fun _ _ _ h => h) (Or.inl ⟨by rfl, ?_⟩) (by assumption) ?_
              rotate_left
              · (intro W _; go_simp; (with_reducible rfl))
              intro hHeld'
              clear hHeld; have hHeld := hHeld'; clear hHeld'
              try simp only [Act.put, List.setIfInBounds_toArray, List.set_cons_zero, List.set_cons_succ]
              refine wpAnyL_take0 (i := 20) (v := ?_) rfl (by kernel_rfl) (by kernel_rfl) (by kernel_rfl) (by rfl) (fun _ _ _ h => h) (Or.inl ⟨by rfl, ?_⟩) (by assumption) ?_
              rotate_left
              · (intro W _; go_simp; (with_reducible rfl))
              intro hHeld'
              clear hHeld; have hHeld := hHeld'; clear hHeld'
              try simp only [Act.put, List.setIfInBounds_toArray, List.set_cons_zero, List.set_cons_succ]
              refine wpAnyL_ready (rs := [4]) (by kernel_rfl) (by simp) ?_
              refine AllReadyL.cons rfl (fun K hK => ?_) AllReadyL.nil
              go_simp
              go_at_call 184
              (with_reducible refine (hn1.out _ (hml.out _ (hBel.out _ yS.out.bel)).1).mono ?_)
              rintro e w3 ⟨rfl, rfl⟩
              go_simp
              refine hK.out _ _ (HeldL.cons (fun _ => (hkl.out _ (hBel.out _ yS.out.bel)).2) HeldL.nil) (fun hHeld' => ?_)
              clear hK K hHeld; have hHeld := hHeld'; clear hHeld'
              try simp only [Act.put, List.setIfInBounds_toArray, List.set_cons_zero, List.set_cons_succ]
              refine wpAnyL_take0 (i := 9) (v := ?_) rfl (by kernel_rfl) (by kernel_rfl) (by kernel_rfl) (by rfl) (fun _ _ _ h => h) (Or.inl ⟨by rfl, ?_⟩) (by assumption) ?_
              rotate_left
              · (intro W _; go_simp; (with_reducible rfl))
              intro hHeld'
              clear hHeld; have hHeld := hHeld'; clear hHeld'
              try simp only [Act.put, List.setIfInBounds_toArray, List.set_cons_zero, List.set_cons_succ]
              refine wpAnyL_ready (rs := [13]) (by kernel_rfl) (by simp) ?_
              refine AllReadyL.cons rfl (fun K hK => ?_) AllReadyL.nil
              go_simp
              go_at_call 184
              (with_reducible refine (hn2.out _ (hkl.out _ (hBel.out _ yS.out.bel)).1).mono ?_)
              rintro e w3 ⟨rfl, rfl⟩
              go_simp
              refine hK.out _ _ (HeldL.cons (fun _ => (hkl.out _ (hBel.out _ yS.out.bel)).2) HeldL.nil) (fun hHeld' => ?_)
              clear hK K hHeld; have hHeld := hHeld'; clear hHeld'
              try simp only [Act.put, List.setIfInBounds_toArray, List.set_cons_zero, List.set_cons_succ]
              refine wpAnyL_take0 (i := 14) (v := ?_) rfl (by kernel_rfl) (by kernel_rfl) (by kernel_rfl) (by rfl) (fun _ _ _ h => h) (Or.inl ⟨by rfl, ?_⟩) (by assumption) ?_
              rotate_left
              · (intro W _; go_simp; (with_reducible rfl))
              intro hHeld'
              clear hHeld; have hHeld := hHeld'; clear hHeld'
              try simp only [Act.put, List.setIfInBounds_toArray, List.set_cons_zero, List.set_cons_succ]
              refine wpAnyL_ready (rs := [15]) (by kernel_rfl) (by simp) ?_
              refine AllReadyL.cons rfl (fun K hK => ?_) AllReadyL.nil
              go_simp
              replace yS := hid (yS.out.newBlk #[.int .i64 (F : Int)] 2)
              generalize wd.heap.size = bB at *
              generalize wd.alloc (.cells #[.int .i64 (F : Int)] 2) = we at *
              refine hK.out _ _ (HeldL.cons (fun _ => (hkl.out _ (hBel.out _ yS.out.bel)).2) HeldL.nil) (fun hHeld' => ?_)
              clear hK K hHeld; have hHeld := hHeld'; clear hHeld'
              try simp only [Act.put, List.setIfInBounds_toArray, List.set_cons_zero, List.set_cons_succ]
              refine wpAnyL_ready (rs := [16]) (by kernel_rfl) (by simp) ?_
              refine AllReadyL.cons rfl (fun K hK => ?_) AllReadyL.nil
              refine St.step1 29 2 2 (.int .i64 0) 8 Try.underlying29 info_i64 rfl (by omega) rfl _ _ rfl _ _ rfl (yS.out.f1) rfl rfl x hlN.out (by omega) ?_
              intro gn cn wf yS'
              replace yS := hid yS'.f1.drop; clear yS'
              refine hK.out _ _ (HeldL.cons (fun _ => (hkl.out _ (hBel.out _ yS.out.bel)).2) HeldL.nil) (fun hHeld' => ?_)
              clear hK K hHeld; have hHeld := hHeld'; clear hHeld'
              try simp only [Act.put, List.setIfInBounds_toArray, List.set_cons_zero, List.set_cons_succ]
              refine wpAnyL_ready (rs := [21]) (by kernel_rfl) (by simp) ?_
              refine AllReadyL.cons rfl (fun K hK => ?_) AllReadyL.nil
              go_simp
              go_at_call 185
              (with_reducible refine (ho2.out _ (hkl.out _ (hBel.out _ yS.out.bel)).1).mono ?_)
              rintro e w3 ⟨rfl, rfl⟩
              go_simp
              refine hK.out _ _ (HeldL.cons (fun _ => (hkl.out _ (hBel.out _ yS.out.bel)).2) HeldL.nil) (fun hHeld' => ?_)
              clear hK K hHeld; have hHeld := hHeld'; clear hHeld'
              try simp only [Act.put, List.setIfInBounds_toArray, List.set_cons_zero, List.set_cons_succ]
              refine wpAnyL_ready (rs := [22]) (by kernel_rfl) (by simp) ?_
              refine AllReadyL.cons rfl (fun K hK => ?_) AllReadyL.nil
              go_simp
              replace yS := hid (yS.out.newBlk #[.int .i64 (o2 : Int)] 2)
              generalize wf.heap.size = bC at *
              generalize wf.alloc (.cells #[.int .i64 (o2 : Int)] 2) = wg at *
              refine hK.out _ _ (HeldL.cons (fun _ => (hkl.out _ (hBel.out _ yS.out.bel)).2) HeldL.nil) (fun hHeld' => ?_)
              clear hK K hHeld; have hHeld := hHeld'; clear hHeld'
              try simp only [Act.put, List.setIfInBounds_toArray, List.set_cons_zero, List.set_cons_succ]
              refine wpAnyL_ready (rs := [23]) (by kernel_rfl) (by simp) ?_
              refine AllReadyL.cons rfl (fun K hK => ?_) AllReadyL.nil
              refine St.step1 29 2 2 (.int .i64 0) 8 Try.underlying29 info_i64 rfl (by omega) rfl _ _ rfl _ _ rfl (yS.out.f2) rfl rfl x hlO.out (by omega) ?_
              intro go co wh yS'
              replace yS := hid yS'.f1.drop.f1; clear yS'
              refine hK.out _ _ (HeldL.cons (fun h => absurd h (by decide +kernel)) HeldL.nil) (fun hHeld' => ?_)
              clear hK K hHeld; have hHeld := hHeld'; clear hHeld'
              try simp only [Act.put, List.setIfInBounds_toArray, List.set_cons_zero, List.set_cons_succ]
              refine wpAnyL_take0 (i := 24) (v := ?_) rfl (by kernel_rfl) (by kernel_rfl) (by kernel_rfl) (by rfl) (fun _ _ _ h => h) (Or.inl ⟨by rfl, ?_⟩) (by assumption) ?_
              rotate_left
              · (intro W _; go_simp; (with_reducible rfl))
              intro hHeld'
              clear hHeld; have hHeld := hHeld'; clear hHeld'
              try simp only [Act.put, List.setIfInBounds_toArray, List.set_cons_zero, List.set_cons_succ]
              refine wpAnyL_take0 (i := 25) (v := ?_) rfl (by kernel_rfl) (by kernel_rfl) (by kernel_rfl) (by rfl) (fun _ _ _ h => h) (Or.inl ⟨by rfl, ?_⟩) (by assumption) ?_
              rotate_left
              · (intro W _; go_simp; (with_reducible rfl))
              intro hHeld'
              clear hHeld; have hHeld := hHeld'; clear hHeld'
              try simp only [Act.put, List.setIfInBounds_toArray, List.set_cons_zero, List.set_cons_succ]
              refine wpAnyL_done (by kernel_rfl) ?_ _
              simp only [Act.put, List.getElem_toArray, List.getElem_cons_succ, List.getElem_cons_zero, List.setIfInBounds_toArray, List.set_cons_zero, List.set_cons_succ]
              go_wp2
              go_roundw
              case rel => exact ⟨x + 1, by omega, by go_num, by rw [hsN.out, hsO.out, ints_snoc, ints_snoc]; exact yS.out⟩
              case measure => simp [intOf]; omega
            · obtain rfl : l = x := by omega
              obtain ⟨g1, c1, rfl, _, _⟩ := yS.out.o0.blk (fun e => by have h1 := congrArg List.length e; rw [hlN.out] at h1; simp at h1; omega)
              obtain ⟨g2, c2, rfl, _, _⟩ := yS.out.o1.blk (fun e => by have h1 := congrArg List.length e; rw [hlO.out] at h1; simp at h1; omega)
              rw [hlN.out, hlO.out] at yS ⊢
              have hg := hid yS.out.f2.s2.s1.s3
              have hle := hid (Nat.le_refl (w.heap.size + 1))
              have hsN := hid (show tbL T.nx (P + (b + 1)) l = tbL T.nx (P + b) l ++ [rwI T.nx (P + b) l] from tbL_snoc T.nx (P + b) l)
              have hsO := hid (show tbL T.ot (P + (b + 1)) l = tbL T.ot (P + b) l ++ [rwI T.ot (P + b) l] from tbL_snoc T.ot (P + b) l)
              have hPb := hid (show P + b ≤ 256 from by have h1 := prod_in has hbs; have h2 : s * s' ≤ 256 := Nat.mul_le_mul s16 s16'; rw [hP.out]; omega)
              have hPb' : P + b ≤ 256 := hPb.out
              clear yS
              go_upto_region 15 with (fail)
              have hg' := hid hg.out.drew; clear hg; have hg := hg'; clear hg'
              refine wp_region_heldL (L := [(8, (fun w' : World => w'.cell? ⟨(w.heap.size + 1), 0, none⟩ = some vN)), (15, (fun w' : World => w'.cell? ⟨(w.heap.size + 1), 1, none⟩ = some vO))]) (by kernel_rfl) (HeldL.cons (fun _ => (cell_of_row _ _ 0 _ _ _ hg.out.k0)) (HeldL.cons (fun _ => (cell_of_row _ _ 1 _ _ _ hg.out.k0)) HeldL.nil)) (fun hHeld => ?_)
              generalize wr.drew = wd at *
              refine wpAnyL_take0 (i := 0) (v := ?_) rfl (by kernel_rfl) (by kernel_rfl) (by kernel_rfl) (by rfl) (fun _ _ _ h => h) (Or.inl ⟨by rfl, ?_⟩) (by assumption) ?_
              rotate_left
              · (intro W _; go_simp; (with_reducible rfl))
              intro hHeld'
              clear hHeld; have hHeld := hHeld'; clear hHeld'
              try simp only [Act.put, List.setIfInBounds_toArray, List.set_cons_zero, List.set_cons_succ]
              refine wpAnyL_take0 (i := 1) (v := ?_) rfl (by kernel_rfl) (by kernel_rfl) (by kernel_rfl) (by rfl) (fun _ _ _ h => h) (Or.inl ⟨by rfl, ?_⟩) (by assumption) ?_
              rotate_left
              · (intro W _; go_simp; (with_reducible rfl))
              intro hHeld'
              clear hHeld; have hHeld := hHeld'; clear hHeld'
              try simp only [Act.put, List.setIfInBounds_toArray, List.set_cons_zero, List.set_cons_succ]
              refine wpAnyL_take0 (i := 2) (v := ?_) rfl (by kernel_rfl) (by kernel_rfl) (by kernel_rfl) (by rfl) (fun _ _ _ h => h) (Or.inl ⟨by rfl, ?_⟩) (by assumption) ?_
              rotate_left
              · (intro W _; go_simp; (with_reducible rfl))
              intro hHeld'
              clear hHeld; have hHeld := hHeld'; clear hHeld'
              try simp only [Act.put, List.setIfInBounds_toArray, List.set_cons_zero, List.set_cons_succ]
              refine wpAnyL_take0 (i := 3) (v := ?_) rfl (by kernel_rfl) (by kernel_rfl) (by kernel_rfl) (by rfl) (fun _ _ _ h => h) (Or.inl ⟨by rfl, ?_⟩) (by assumption) ?_
              rotate_left
              · (intro W _; go_simp; (with_reducible rfl))
              intro hHeld'
              clear hHeld; have hHeld := hHeld'; clear hHeld'
              try simp only [Act.put, List.setIfInBounds_toArray, List.set_cons_zero, List.set_cons_succ]
              refine wpAnyL_take0 (i := 4) (v := ?_) rfl (by kernel_rfl) (by kernel_rfl) (by kernel_rfl) (by rfl) (fun _ _ _ h => h) (Or.inl ⟨by rfl, ?_⟩) (by assumption) ?_
              rotate_left
              · (intro W _; go_simp; (with_reducible rfl))
              intro hHeld'
              clear hHeld; have hHeld := hHeld'; clear hHeld'
              try simp only [Act.put, List.setIfInBounds_toArray, List.set_cons_zero, List.set_cons_succ]
              refine wpAnyL_takeT (i := 5) 8 (v := vN) (fun w' : World => w'.cell? ⟨(w.heap.size + 1), 0, none⟩ = some vN) rfl rfl (by kernel_rfl) (by kernel_rfl) (by kernel_rfl) (by rfl) (by decide +kernel) (by decide +kernel) (by decide +kernel) (by simp) (fun _ _ _ h => h) (Or.inl ⟨by rfl, ?_⟩) (by assumption) ?_
              · (intro W hW; (try dsimp only at hW); go_simp)
              intro hHeld'
              clear hHeld; have hHeld := hHeld'; clear hHeld'
              try simp only [Act.put, List.setIfInBounds_toArray, List.set_cons_zero, List.set_cons_succ]
              refine wpAnyL_take0 (i := 6) (v := ?_) rfl (by kernel_rfl) (by kernel_rfl) (by kernel_rfl) (by rfl) (fun _ _ _ h => h) (Or.inl ⟨by rfl, ?_⟩) (by assumption) ?_
              rotate_left
              · (intro W _; go_simp; (with_reducible rfl))
              intro hHeld'
              clear hHeld; have hHeld := hHeld'; clear hHeld'
              try simp only [Act.put, List.setIfInBounds_toArray, List.set_cons_zero, List.set_cons_succ]
              refine wpAnyL_take0 (i := 9) (v := ?_) rfl (by kernel_rfl) (by kernel_rfl) (by kernel_rfl) (by rfl) (fun _ _ _ h => h) (Or.inl ⟨by rfl, ?_⟩) (by assumption) ?_
              rotate_left
              · (intro W _; go_simp; (with_reducible rfl))
              intro hHeld'
              clear hHeld; have hHeld := hHeld'; clear hHeld'
              try simp only [Act.put, List.setIfInBounds_toArray, List.set_cons_zero, List.set_cons_succ]
              refine wpAnyL_take0 (i := 10) (v := ?_) rfl (by kernel_rfl) (by kernel_rfl) (by kernel_rfl) (by rfl) (fun _ _ _ h => h) (Or.inl ⟨by rfl, ?_⟩) (by assumption) ?_
              rotate_left
              · (intro W _; go_simp; (with_reducible rfl))
              intro hHeld'
              clear hHeld; have hHeld := hHeld'; clear hHeld'
              try simp only [Act.put, List.setIfInBounds_toArray, List.set_cons_zero, List.set_cons_succ]
              refine wpAnyL_take0 (i := 11) (v := ?_) rfl (by kernel_rfl) (by kernel_rfl) (by kernel_rfl) (by rfl) (fun _ _ _ h => h) (Or.inl ⟨by rfl, ?_⟩) (by assumption) ?_
              rotate_left
              · (intro W _; go_simp; (with_reducible rfl))
              intro hHeld'
              clear hHeld; have hHeld := hHeld'; clear hHeld'
              try simp only [Act.put, List.setIfInBounds_toArray, List.set_cons_zero, List.set_cons_succ]
              refine wpAnyL_takeT (i := 12) 15 (v := vO) (fun w' : World => w'.cell? ⟨(w.heap.size + 1), 1, none⟩ = some vO) rfl rfl (by kernel_rfl) (by kernel_rfl) (by kernel_rfl) (by rfl) (by decide +kernel) (by decide +kernel) (by decide +kernel) (by simp) (fun _ _ _ h => h) (Or.inl ⟨by rfl, ?_⟩) (by assumption) ?_
              · (intro W hW; (try dsimp only at hW); go_simp)
              intro hHeld'
              clear hHeld; have hHeld := hHeld'; clear hHeld'
              try simp only [Act.put, List.setIfInBounds_toArray, List.set_cons_zero, List.set_cons_succ]
              refine wpAnyL_take0 (i := 13) (v := ?_) rfl (by kernel_rfl) (by kernel_rfl) (by kernel_rfl) (by rfl) (fun _ _ _ h => h) (Or.inl ⟨by rfl, ?_⟩) (by assumption) ?_
              rotate_left
              · (intro W _; go_simp; (with_reducible rfl))
              intro hHeld'
              clear hHeld; have hHeld := hHeld'; clear hHeld'
              try simp only [Act.put, List.setIfInBounds_toArray, List.set_cons_zero, List.set_cons_succ]
              refine wpAnyL_ready (rs := [7, 14]) (by kernel_rfl) (by simp) ?_
              refine AllReadyL.cons rfl (fun K hK => ?_) ?_
              · skip
                go_simp
                have hg' := hid (hg.out.newBlk #[(Value.slice (some ⟨g1, 0, none⟩) l c1)] 29); clear hg; have hg := hg'; clear hg'
                generalize wd.heap.size = bA at *
                generalize wd.alloc (.cells #[(Value.slice (some ⟨g1, 0, none⟩) l c1)] 29) = we at *
                refine hK.out _ _ (HeldL.cons (fun _ => (cell_of_row _ _ 0 _ _ _ hg.out.k1)) (HeldL.cons (fun _ => (cell_of_row _ _ 1 _ _ _ hg.out.k1)) HeldL.nil)) (fun hHeld' => ?_)
                clear hK K hHeld; have hHeld := hHeld'; clear hHeld'
                try simp only [Act.put, List.setIfInBounds_toArray, List.set_cons_zero, List.set_cons_succ]
                refine wpAnyL_ready (rs := [8, 14]) (by kernel_rfl) (by simp) ?_
                refine AllReadyL.cons rfl (fun K hK => ?_) ?_
                · skip
                  refine St.stepM 29 rfl _ _ rfl _ _ _ _ _ rfl (hg.out.f2.f3.f1) bA rfl _ (tbL_length _ _ _) (by omega) ?_
                  intro ga ca wf hg'
                  replace hg := hid hg'.f1.drop; clear hg'
                  refine hK.out _ _ (HeldL.cons (fun _ => (cell_of_row _ _ 0 _ _ _ hg.out.k1)) (HeldL.cons (fun _ => (cell_of_row _ _ 1 _ _ _ hg.out.k1)) HeldL.nil)) (fun hHeld' => ?_)
                  clear hK K hHeld; have hHeld := hHeld'; clear hHeld'
                  try simp only [Act.put, List.setIfInBounds_toArray, List.set_cons_zero, List.set_cons_succ]
                  refine wpAnyL_ready (rs := [14]) (by kernel_rfl) (by simp) ?_
                  refine AllReadyL.cons rfl (fun K hK => ?_) AllReadyL.nil
                  go_simp
                  have hg' := hid (hg.out.newBlk #[(Value.slice (some ⟨g2, 0, none⟩) l c2)] 29); clear hg; have hg := hg'; clear hg'
                  generalize wf.heap.size = bB at *
                  generalize wf.alloc (.cells #[(Value.slice (some ⟨g2, 0, none⟩) l c2)] 29) = wg at *
                  refine hK.out _ _ (HeldL.cons (fun _ => (cell_of_row _ _ 0 _ _ _ hg.out.k2)) (HeldL.cons (fun _ => (cell_of_row _ _ 1 _ _ _ hg.out.k2)) HeldL.nil)) (fun hHeld' => ?_)
                  clear hK K hHeld; have hHeld := hHeld'; clear hHeld'
                  try simp only [Act.put, List.setIfInBounds_toArray, List.set_cons_zero, List.set_cons_succ]
                  refine wpAnyL_ready (rs := [15]) (by kernel_rfl) (by simp) ?_
                  refine AllReadyL.cons rfl (fun K hK => ?_) AllReadyL.nil
                  refine St.stepM 29 rfl _ _ rfl _ _ _ _ _ rfl (hg.out.f3.f4.f1) bB rfl _ (tbL_length _ _ _) (by omega) ?_
                  intro gb cb wx hg'
                  replace hg := hid hg'.f1.drop; clear hg'
                  replace hg := hid hg.out.f2
                  refine hK.out _ _ (HeldL.cons (fun _ => (cell_of_row _ _ 0 _ _ _ hg.out.k0)) (HeldL.cons (fun _ => (cell_of_row _ _ 1 _ _ _ hg.out.k0)) HeldL.nil)) (fun hHeld' => ?_)
                  clear hK K hHeld; have hHeld := hHeld'; clear hHeld'
                  try simp only [Act.put, List.setIfInBounds_toArray, List.set_cons_zero, List.set_cons_succ]
                  refine wpAnyL_take0 (i := 16) (v := ?_) rfl (by kernel_rfl) (by kernel_rfl) (by kernel_rfl) (by rfl) (fun _ _ _ h => h) (Or.inl ⟨by rfl, ?_⟩) (by assumption) ?_
                  rotate_left
                  · (intro W _; go_simp; (with_reducible rfl))
                  intro hHeld'
                  clear hHeld; have hHeld := hHeld'; clear hHeld'
                  try simp only [Act.put, List.setIfInBounds_toArray, List.set_cons_zero, List.set_cons_succ]
                  refine wpAnyL_take0 (i := 17) (v := ?_) rfl (by kernel_rfl) (by kernel_rfl) (by kernel_rfl) (by rfl) (fun _ _ _ h => h) (Or.inl ⟨by rfl, ?_⟩) (by assumption) ?_
                  rotate_left
                  · (intro W _; go_simp; (with_reducible rfl))
                  intro hHeld'
                  clear hHeld; have hHeld := hHeld'; clear hHeld'
                  try simp only [Act.put, List.setIfInBounds_toArray, List.set_cons_zero, List.set_cons_succ]
                  have q1 := (cell_of_row _ _ 0 _ _ _ hg.out.k0)
                  have q2 := frozen_of_row _ _ 0 _ _ hg.out.k0
                  refine wpAnyL_ready (rs := [18]) (by kernel_rfl) (by simp) ?_
                  refine AllReadyL.cons rfl (fun K hK => ?_) AllReadyL.nil
                  go_simp
                  replace hg := hid (hg.out.setBlk (hle.out) 0 (.slice (some ⟨ga, 0, none⟩) ((P + b) + 1) ca)); clear q1 q2
                  refine hK.out _ _ (HeldL.cons (fun h => absurd h (by decide +kernel)) (HeldL.cons (fun h => absurd h (by decide +kernel)) HeldL.nil)) (fun hHeld' => ?_)
                  clear hK K hHeld; have hHeld := hHeld'; clear hHeld'
                  try simp only [Act.put, List.setIfInBounds_toArray, List.set_cons_zero, List.set_cons_succ]
                  refine wpAnyL_take0 (i := 19) (v := ?_) rfl (by kernel_rfl) (by kernel_rfl) (by kernel_rfl) (by rfl) (fun _ _ _ h => h) (Or.inl ⟨by rfl, ?_⟩) (by assumption) ?_
                  rotate_left
                  · (intro W _; go_simp; (with_reducible rfl))
                  intro hHeld'
                  clear hHeld; have hHeld := hHeld'; clear hHeld'
                  try simp only [Act.put, List.setIfInBounds_toArray, List.set_cons_zero, List.set_cons_succ]
                  refine wpAnyL_take0 (i := 20) (v := ?_) rfl (by kernel_rfl) (by kernel_rfl) (by kernel_rfl) (by rfl) (fun _ _ _ h => h) (Or.inl ⟨by rfl, ?_⟩) (by assumption) ?_
                  rotate_left
                  · (intro W _; go_simp; (with_reducible rfl))
                  intro hHeld'
                  clear hHeld; have hHeld := hHeld'; clear hHeld'
                  try simp only [Act.put, List.setIfInBounds_toArray, List.set_cons_zero, List.set_cons_succ]
                  have q1 := (cell_of_row _ _ 1 _ _ _ hg.out.k0)
                  have q2 := frozen_of_row _ _ 1 _ _ hg.out.k0
                  refine wpAnyL_ready (rs := [21]) (by kernel_rfl) (by simp) ?_
                  refine AllReadyL.cons rfl (fun K hK => ?_) AllReadyL.nil
                  go_simp
                  replace hg := hid (hg.out.setBlk (hle.out) 1 (.slice (some ⟨gb, 0, none⟩) ((P + b) + 1) cb)); clear q1 q2
                  refine hK.out _ _ (HeldL.cons (fun h => absurd h (by decide +kernel)) (HeldL.cons (fun h => absurd h (by decide +kernel)) HeldL.nil)) (fun hHeld' => ?_)
                  clear hK K hHeld; have hHeld := hHeld'; clear hHeld'
                  try simp only [Act.put, List.setIfInBounds_toArray, List.set_cons_zero, List.set_cons_succ]
                  refine wpAnyL_done (by kernel_rfl) ?_ _
                  replace hg := hid (show St _ _ (Asn.blk (w.heap.size + 1) #[(.slice (some ⟨ga, 0, none⟩) ((P + b) + 1) ca), (.slice (some ⟨gb, 0, none⟩) ((P + b) + 1) cb)] 189 :: _) _ from hg.out)
                  try simp only [List.setIfInBounds_toArray, List.set_cons_zero, List.set_cons_succ] at hg
                  go_wp2
                  go_roundw
                  case rel => exact ⟨b + 1, by omega, by go_num, _, _, _, _, by rw [hsN.out, hsO.out]; exact hg.out.s1⟩
                  case measure => simp [intOf]; omega
                refine AllReadyL.cons rfl (fun K hK => ?_) AllReadyL.nil
                go_simp
                have hg' := hid (hg.out.newBlk #[(Value.slice (some ⟨g2, 0, none⟩) l c2)] 29); clear hg; have hg := hg'; clear hg'
                generalize we.heap.size = bB at *
                generalize we.alloc (.cells #[(Value.slice (some ⟨g2, 0, none⟩) l c2)] 29) = wf at *
                refine hK.out _ _ (HeldL.cons (fun _ => (cell_of_row _ _ 0 _ _ _ hg.out.k2)) (HeldL.cons (fun _ => (cell_of_row _ _ 1 _ _ _ hg.out.k2)) HeldL.nil)) (fun hHeld' => ?_)
                clear hK K hHeld; have hHeld := hHeld'; clear hHeld'
                try simp only [Act.put, List.setIfInBounds_toArray, List.set_cons_zero, List.set_cons_succ]
                refine wpAnyL_ready (rs := [8]) (by kernel_rfl) (by simp) ?_
                refine AllReadyL.cons rfl (fun K hK => ?_) AllReadyL.nil
                refine St.stepM 29 rfl _ _ rfl _ _ _ _ _ rfl (hg.out.f3.f4.f1.s2) bA rfl _ (tbL_length _ _ _) (by omega) ?_
                intro ga ca wg hg'
                replace hg := hid hg'.f1.drop; clear hg'
                refine hK.out _ _ (HeldL.cons (fun _ => (cell_of_row _ _ 0 _ _ _ hg.out.k2)) (HeldL.cons (fun _ => (cell_of_row _ _ 1 _ _ _ hg.out.k2)) HeldL.nil)) (fun hHeld' => ?_)
                clear hK K hHeld; have hHeld := hHeld'; clear hHeld'
                try simp only [Act.put, List.setIfInBounds_toArray, List.set_cons_zero, List.set_cons_succ]
                refine wpAnyL_ready (rs := [15]) (by kernel_rfl) (by simp) ?_
                refine AllReadyL.cons rfl (fun K hK => ?_) AllReadyL.nil
                refine St.stepM 29 rfl _ _ rfl _ _ _ _ _ rfl (hg.out.f3.f4.f1.s2) bB rfl _ (tbL_length _ _ _) (by omega) ?_
                intro gb cb wx hg'
                replace hg := hid hg'.f1.drop; clear hg'
                replace hg := hid hg.out.f2
                refine hK.out _ _ (HeldL.cons (fun _ => (cell_of_row _ _ 0 _ _ _ hg.out.k0)) (HeldL.cons (fun _ => (cell_of_row _ _ 1 _ _ _ hg.out.k0)) HeldL.nil)) (fun hHeld' => ?_)
                clear hK K hHeld; have hHeld := hHeld'; clear hHeld'
                try simp only [Act.put, List.setIfInBounds_toArray, List.set_cons_zero, List.set_cons_succ]
                refine wpAnyL_take0 (i := 16) (v := ?_) rfl (by kernel_rfl) (by kernel_rfl) (by kernel_rfl) (by rfl) (fun _ _ _ h => h) (Or.inl ⟨by rfl, ?_⟩) (by assumption) ?_
                rotate_left
                · (intro W _; go_simp; (with_reducible rfl))
                intro hHeld'
                clear hHeld; have hHeld := hHeld'; clear hHeld'
                try simp only [Act.put, List.setIfInBounds_toArray, List.set_cons_zero, List.set_cons_succ]
                refine wpAnyL_take0 (i := 17) (v := ?_) rfl (by kernel_rfl) (by kernel_rfl) (by kernel_rfl) (by rfl) (fun _ _ _ h => h) (Or.inl ⟨by rfl, ?_⟩) (by assumption) ?_
                rotate_left
                · (intro W _; go_simp; (with_reducible rfl))
                intro hHeld'
                clear hHeld; have hHeld := hHeld'; clear hHeld'
                try simp only [Act.put, List.setIfInBounds_toArray, List.set_cons_zero, List.set_cons_succ]
                have q1 := (cell_of_row _ _ 0 _ _ _ hg.out.k0)
                have q2 := frozen_of_row _ _ 0 _ _ hg.out.k0
                refine wpAnyL_ready (rs := [18]) (by kernel_rfl) (by simp) ?_
                refine AllReadyL.cons rfl (fun K hK => ?_) AllReadyL.nil
                go_simp
                replace hg := hid (hg.out.setBlk (hle.out) 0 (.slice (some ⟨ga, 0, none⟩) ((P + b) + 1) ca)); clear q1 q2
                refine hK.out _ _ (HeldL.cons (fun h => absurd h (by decide +kernel)) (HeldL.cons (fun h => absurd h (by decide +kernel)) HeldL.nil)) (fun hHeld' => ?_)
                clear hK K hHeld; have hHeld := hHeld'; clear hHeld'
                try simp only [Act.put, List.setIfInBounds_toArray, List.set_cons_zero, List.set_cons_succ]
                refine wpAnyL_take0 (i := 19) (v := ?_) rfl (by kernel_rfl) (by kernel_rfl) (by kernel_rfl) (by rfl) (fun _ _ _ h => h) (Or.inl ⟨by rfl, ?_⟩) (by assumption) ?_
                rotate_left
                · (intro W _; go_simp; (with_reducible rfl))
                intro hHeld'
                clear hHeld; have hHeld := hHeld'; clear hHeld'
                try simp only [Act.put, List.setIfInBounds_toArray, List.set_cons_zero, List.set_cons_succ]
                refine wpAnyL_take0 (i := 20) (v := ?_) rfl (by kernel_rfl) (by kernel_rfl) (by kernel_rfl) (by rfl) (fun _ _ _ h => h) (Or.inl ⟨by rfl, ?_⟩) (by assumption) ?_
                rotate_left
                · (intro W _; go_simp; (with_reducible rfl))
                intro hHeld'
                clear hHeld; have hHeld := hHeld'; clear hHeld'
                try simp only [Act.put, List.setIfInBounds_toArray, List.set_cons_zero, List.set_cons_succ]
                have q1 := (cell_of_row _ _ 1 _ _ _ hg.out.k0)
                have q2 := frozen_of_row _ _ 1 _ _ hg.out.k0
                refine wpAnyL_ready (rs := [21]) (by kernel_rfl) (by simp) ?_
                refine AllReadyL.cons rfl (fun K hK => ?_) AllReadyL.nil
                go_simp
                replace hg := hid (hg.out.setBlk (hle.out) 1 (.slice (some ⟨gb, 0, none⟩) ((P + b) + 1) cb)); clear q1 q2
                refine hK.out _ _ (HeldL.cons (fun h => absurd h (by decide +kernel)) (HeldL.cons (fun h => absurd h (by decide +kernel)) HeldL.nil)) (fun hHeld' => ?_)
                clear hK K hHeld; have hHeld := hHeld'; clear hHeld'
                try simp only [Act.put, List.setIfInBounds_toArray, List.set_cons_zero, List.set_cons_succ]
                refine wpAnyL_done (by kernel_rfl) ?_ _
                replace hg := hid (show St _ _ (Asn.blk (w.heap.size + 1) #[(.slice (some ⟨ga, 0, none⟩) ((P + b) + 1) ca), (.slice (some ⟨gb, 0, none⟩) ((P + b) + 1) cb)] 189 :: _) _ from hg.out)
                try simp only [List.setIfInBounds_toArray, List.set_cons_zero, List.set_cons_succ] at hg
                go_wp2
                go_roundw
                case rel => exact ⟨b + 1, by omega, by go_num, _, _, _, _, by rw [hsN.out, hsO.out]; exact hg.out.s1⟩
                case measure => simp [intOf]; omega
              refine AllReadyL.cons rfl (fun K hK => ?_) AllReadyL.nil
              go_simp
              have hg' := hid (hg.out.newBlk #[(Value.slice (some ⟨g2, 0, none⟩) l c2)] 29); clear hg; have hg := hg'; clear hg'
              generalize wd.heap.size = bB at *
              generalize wd.alloc (.cells #[(Value.slice (some ⟨g2, 0, none⟩) l c2)] 29) = we at *
              refine hK.out _ _ (HeldL.cons (fun _ => (cell_of_row _ _ 0 _ _ _ hg.out.k1)) (HeldL.cons (fun _ => (cell_of_row _ _ 1 _ _ _ hg.out.k1)) HeldL.nil)) (fun hHeld' => ?_)
              clear hK K hHeld; have hHeld := hHeld'; clear hHeld'
              try simp only [Act.put, List.setIfInBounds_toArray, List.set_cons_zero, List.set_cons_succ]
              refine wpAnyL_ready (rs := [7]) (by kernel_rfl) (by simp) ?_
              refine AllReadyL.cons rfl (fun K hK => ?_) AllReadyL.nil
              go_simp
              have hg' := hid (hg.out.newBlk #[(Value.slice (some ⟨g1, 0, none⟩) l c1)] 29); clear hg; have hg := hg'; clear hg'
              generalize we.heap.size = bA at *
              generalize we.alloc (.cells #[(Value.slice (some ⟨g1, 0, none⟩) l c1)] 29) = wf at *
              refine hK.out _ _ (HeldL.cons (fun _ => (cell_of_row _ _ 0 _ _ _ hg.out.k2)) (HeldL.cons (fun _ => (cell_of_row _ _ 1 _ _ _ hg.out.k2)) HeldL.nil)) (fun hHeld' => ?_)
              clear hK K hHeld; have hHeld := hHeld'; clear hHeld'
              try simp only [Act.put, List.setIfInBounds_toArray, List.set_cons_zero, List.set_cons_succ]
              refine wpAnyL_ready (rs := [8]) (by kernel_rfl) (by simp) ?_
              refine AllReadyL.cons rfl (fun K hK => ?_) AllReadyL.nil
              refine St.stepM 29 rfl _ _ rfl _ _ _ _ _ rfl (hg.out.f3.f4.f1) bA rfl _ (tbL_length _ _ _) (by omega) ?_
              intro ga ca wg hg'
              replace hg := hid hg'.f1.drop; clear hg'
              refine hK.out _ _ (HeldL.cons (fun _ => (cell_of_row _ _ 0 _ _ _ hg.out.k2)) (HeldL.cons (fun _ => (cell_of_row _ _ 1 _ _ _ hg.out.k2)) HeldL.nil)) (fun hHeld' => ?_)
              clear hK K hHeld; have hHeld := hHeld'; clear hHeld'
              try simp only [Act.put, List.setIfInBounds_toArray, List.set_cons_zero, List.set_cons_succ]
              refine wpAnyL_ready (rs := [15]) (by kernel_rfl) (by simp) ?_
              refine AllReadyL.cons rfl (fun K hK => ?_) AllReadyL.nil
              refine St.stepM 29 rfl _ _ rfl _ _ _ _ _ rfl (hg.out.f3.f4.f1.s2) bB rfl _ (tbL_length _ _ _) (by omega) ?_
              intro gb cb wx hg'
              replace hg := hid hg'.f1.drop; clear hg'
              replace hg := hid hg.out.f2
              refine hK.out _ _ (HeldL.cons (fun _ => (cell_of_row _ _ 0 _ _ _ hg.out.k0)) (HeldL.cons (fun _ => (cell_of_row _ _ 1 _ _ _ hg.out.k0)) HeldL.nil)) (fun hHeld' => ?_)
              clear hK K hHeld; have hHeld := hHeld'; clear hHeld'
              try simp only [Act.put, List.setIfInBounds_toArray, List.set_cons_zero, List.set_cons_succ]
              refine wpAnyL_take0 (i := 16) (v := ?_) rfl (by kernel_rfl) (by kernel_rfl) (by kernel_rfl) (by rfl) (fun _ _ _ h => h) (Or.inl ⟨by rfl, ?_⟩) (by assumption) ?_
              rotate_left
              · (intro W _; go_simp; (with_reducible rfl))
              intro hHeld'
              clear hHeld; have hHeld := hHeld'; clear hHeld'
              try simp only [Act.put, List.setIfInBounds_toArray, List.set_cons_zero, List.set_cons_succ]
              refine wpAnyL_take0 (i := 17) (v := ?_) rfl (by kernel_rfl) (by kernel_rfl) (by kernel_rfl) (by rfl) (fun _ _ _ h => h) (Or.inl ⟨by rfl, ?_⟩) (by assumption) ?_
              rotate_left
              · (intro W _; go_simp; (with_reducible rfl))
              intro hHeld'
              clear hHeld; have hHeld := hHeld'; clear hHeld'
              try simp only [Act.put, List.setIfInBounds_toArray, List.set_cons_zero, List.set_cons_succ]
              have q1 := (cell_of_row _ _ 0 _ _ _ hg.out.k0)
              have q2 := frozen_of_row _ _ 0 _ _ hg.out.k0
              refine wpAnyL_ready (rs := [18]) (by kernel_rfl) (by simp) ?_
              refine AllReadyL.cons rfl (fun K hK => ?_) AllReadyL.nil
              go_simp
              replace hg := hid (hg.out.setBlk (hle.out) 0 (.slice (some ⟨ga, 0, none⟩) ((P + b) + 1) ca)); clear q1 q2
              refine hK.out _ _ (HeldL.cons (fun h => absurd h (by decide +kernel)) (HeldL.cons (fun h => absurd h (by decide +kernel)) HeldL.nil)) (fun hHeld' => ?_)
              clear hK K hHeld; have hHeld := hHeld'; clear hHeld'
              try simp only [Act.put, List.setIfInBounds_toArray, List.set_cons_zero, List.set_cons_succ]
              refine wpAnyL_take0 (i := 19) (v := ?_) rfl (by kernel_rfl) (by kernel_rfl) (by kernel_rfl) (by rfl) (fun _ _ _ h => h) (Or.inl ⟨by rfl, ?_⟩) (by assumption) ?_
              rotate_left
              · (intro W _; go_simp; (with_reducible rfl))
              intro hHeld'
              clear hHeld; have hHeld := hHeld'; clear hHeld'
              try simp only [Act.put, List.setIfInBounds_toArray, List.set_cons_zero, List.set_cons_succ]
              refine wpAnyL_take0 (i := 20) (v := ?_) rfl (by kernel_rfl) (by kernel_rfl) (by kernel_rfl) (by rfl) (fun _ _ _ h => h) (Or.inl ⟨by rfl, ?_⟩) (by assumption) ?_
              rotate_left
              · (intro W _; go_simp; (with_reducible rfl))
              intro hHeld'
              clear hHeld; have hHeld := hHeld'; clear hHeld'
              try simp only [Act.put, List.setIfInBounds_toArray, List.set_cons_zero, List.set_cons_succ]
              have q1 := (cell_of_row _ _ 1 _ _ _ hg.out.k0)
              have q2 := frozen_of_row _ _ 1 _ _ hg.out.k0
              refine wpAnyL_ready (rs := [21]) (by kernel_rfl) (by simp) ?_
              refine AllReadyL.cons rfl (fun K hK => ?_) AllReadyL.nil
              go_simp
              replace hg := hid (hg.out.setBlk (hle.out) 1 (.slice (some ⟨gb, 0, none⟩) ((P + b) + 1) cb)); clear q1 q2
              refine hK.out _ _ (HeldL.cons (fun h => absurd h (by decide +kernel)) (HeldL.cons (fun h => absurd h (by decide +kernel)) HeldL.nil)) (fun hHeld' => ?_)
              clear hK K hHeld; have hHeld := hHeld'; clear hHeld'
              try simp only [Act.put, List.setIfInBounds_toArray, List.set_cons_zero, List.set_cons_succ]
              refine wpAnyL_done (by kernel_rfl) ?_ _
              replace hg := hid (show St _ _ (Asn.blk (w.heap.size + 1) #[(.slice (some ⟨ga, 0, none⟩) ((P + b) + 1) ca), (.slice (some ⟨gb, 0, none⟩) ((P + b) + 1) cb)] 189 :: _) _ from hg.out)
              try simp only [List.setIfInBounds_toArray, List.set_cons_zero, List.set_cons_succ] at hg
              go_wp2
              go_roundw
              case rel => exact ⟨b + 1, by omega, by go_num, _, _, _, _, by rw [hsN.out, hsO.out]; exact hg.out.s1⟩
              case measure => simp [intOf]; omega
        · obtain rfl : s' = b := by omega
          have hP' := hid (show P + s' = (a + 1) * s' by rw [hP.out]; exact (Nat.succ_mul a s').symm)
          go_wp2
          go_roundw
          case rel => exact ⟨a + 1, P + s', by omega, hP', by go_num, _, _, _, _, tS.out⟩
          case measure => simp [intOf]; omega
    · obtain rfl : s = a := by omega
      have hTB := hid (show TB wr (w.heap.size + 1) vN vO T from ⟨rS.out.k0, ⟨_, by have h := rS.out.g1; rw [hP.out] at h; rw [hTn.out, hTL.out]; exact h⟩, ⟨_, by have h := rS.out.g2; rw [hP.out] at h; rw [hTn.out, hTL.out]; exact h⟩⟩)
      have hU1 : IntKind.i64.wrap ((q : Int) * (s' : Int)) = (V0 : Int) := hu1.out
      have hr16 : r < 16 := by have := hrs.out; omega
      have hU2 : IntKind.i64.wrap ((V0 : Int) + (r : Int)) = ((V0 + r : Nat) : Int) := by rw [show (V0 : Int) + (r : Int) = ((V0 + r : Nat) : Int) by omega]; exact IntWalk.i64_in _ (by omega)
      generalize V0 + r = n0 at *
      go_upto_region 18 with (fail)
      replace rS := hid rS.out.drew.nothing
      replace hTB := hid (hTB.out.below ((Below.refl wr.heap.size wr).drew))
      refine wp_region_heldL (L := [(16, (fun w' : World => w'.cell? ⟨b1, 0, none⟩ = some (.int .i64 (l : Int)) ∧ w'.cell? ⟨b2, 1, none⟩ = some (.int .i64 (s' : Int))))]) (by kernel_rfl) (HeldL.cons (fun _ => ⟨(hml.out _ (hBel.out _ rS.out.bel)).2.1, (hkl.out _ (hBel.out _ rS.out.bel)).2⟩) HeldL.nil) (fun hHeld => ?_)
      generalize wr.drew = wd at *
      refine wpAnyL_take0 (i := 0) (v := ?_) rfl (by kernel_rfl) (by kernel_rfl) (by kernel_rfl) (by rfl) (fun _ _ _ h => h) (Or.inl ⟨by rfl, ?_⟩) (by assumption) ?_
      rotate_left
      · (intro W _; go_simp; (with_reducible rfl))
      intro hHeld'
      clear hHeld; have hHeld := hHeld'; clear hHeld'
      try simp only [Act.put, List.setIfInBounds_toArray, List.set_cons_zero, List.set_cons_succ]
      refine wpAnyL_take0 (i := 1) (v := ?_) rfl (by kernel_rfl) (by kernel_rfl) (by kernel_rfl) (by rfl) (fun _ _ _ h => h) (Or.inl ⟨by rfl, ?_⟩) (by assumption) ?_
      rotate_left
      · (intro W _; go_simp; (with_reducible rfl))
      intro hHeld'
      clear hHeld; have hHeld := hHeld'; clear hHeld'
      try simp only [Act.put, List.setIfInBounds_toArray, List.set_cons_zero, List.set_cons_succ]
      refine wpAnyL_take0 (i := 2) (v := ?_) rfl (by kernel_rfl) (by kernel_rfl) (by kernel_rfl) (by rfl) (fun _ _ _ h => h) (Or.inl ⟨by rfl, ?_⟩) (by assumption) ?_
      rotate_left
      · (intro W _; go_simp; (with_reducible rfl))
      intro hHeld'
      clear hHeld; have hHeld := hHeld'; clear hHeld'
      try simp only [Act.put, List.setIfInBounds_toArray, List.set_cons_zero, List.set_cons_succ]
      refine wpAnyL_take0 (i := 3) (v := ?_) rfl (by kernel_rfl) (by kernel_rfl) (by kernel_rfl) (by rfl) (fun _ _ _ h => h) (Or.inl ⟨by rfl, ?_⟩) (by assumption) ?_
      rotate_left
      · (intro W _; go_simp; (with_reducible rfl))
      intro hHeld'
      clear hHeld; have hHeld := hHeld'; clear hHeld'
      try simp only [Act.put, List.setIfInBounds_toArray, List.set_cons_zero, List.set_cons_succ]
      refine wpAnyL_takeP (i := 4) 16 [] (v := ?_) (fun w' : World => w'.cell? ⟨b1, 0, none⟩ = some (.int .i64 (l : Int)) ∧ w'.cell? ⟨b2, 1, none⟩ = some (.int .i64 (s' : Int))) rfl (by kernel_rfl) (by kernel_rfl) (by kernel_rfl) (by rfl) (by kernel_rfl) (by simp) (fun _ _ _ h => h) (Or.inl ⟨by rfl, ?_⟩) (by assumption) ?_
      rotate_left
      · (intro W hW; (obtain ⟨h1, h2⟩ := hW); go_simp; (with_reducible rfl))
      intro hHeld'
      clear hHeld; have hHeld := hHeld'; clear hHeld'
      try simp only [Act.put, List.setIfInBounds_toArray, List.set_cons_zero, List.set_cons_succ]
      refine wpAnyL_take0 (i := 5) (v := ?_) rfl (by kernel_rfl) (by kernel_rfl) (by kernel_rfl) (by rfl) (fun _ _ _ h => h) (Or.inl ⟨by rfl, ?_⟩) (by assumption) ?_
      rotate_left
      · (intro W _; go_simp; (with_reducible rfl))
      intro hHeld'
      clear hHeld; have hHeld := hHeld'; clear hHeld'
      try simp only [Act.put, List.setIfInBounds_toArray, List.set_cons_zero, List.set_cons_succ]
      refine wpAnyL_take0 (i := 6) (v := ?_) rfl (by kernel_rfl) (by kernel_rfl) (by kernel_rfl) (by rfl) (fun _ _ _ h => h) (Or.inl ⟨by rfl, ?_⟩) (by assumption) ?_
      rotate_left
      · (intro W _; go_simp; (with_reducible rfl))
      intro hHeld'
      clear hHeld; have hHeld := hHeld'; clear hHeld'
      try simp only [Act.put, List.setIfInBounds_toArray, List.set_cons_zero, List.set_cons_succ]
      refine wpAnyL_take0 (i := 7) (v := ?_) rfl (by kernel_rfl) (by kernel_rfl) (by kernel_rfl) (by rfl) (fun _ _ _ h => h) (Or.inl ⟨by rfl, ?_⟩) (by assumption) ?_
      rotate_left
      · (intro W _; go_simp; (with_reducible rfl))
      intro hHeld'
      clear hHeld; have hHeld := hHeld'; clear hHeld'
      try simp only [Act.put, List.setIfInBounds_toArray, List.set_cons_zero, List.set_cons_succ]
      refine wpAnyL_take0 (i := 8) (v := ?_) rfl (by kernel_rfl) (by kernel_rfl) (by kernel_rfl) (by rfl) (fun _ _ _ h => h) (Or.inl ⟨by rfl, ?_⟩) (by assumption) ?_
      rotate_left
      · (intro W _; go_simp; (with_reducible rfl))
      intro hHeld'
      clear hHeld; have hHeld := hHeld'; clear hHeld'
      try simp only [Act.put, List.setIfInBounds_toArray, List.set_cons_zero, List.set_cons_succ]
      refine wpAnyL_takeP (i := 9) 16 [] (v := ?_) (fun w' : World => w'.cell? ⟨b1, 0, none⟩ = some (.int .i64 (l : Int)) ∧ w'.cell? ⟨b2, 1, none⟩ = some (.int .i64 (s' : Int))) rfl (by kernel_rfl) (by kernel_rfl) (by kernel_rfl) (by rfl) (by kernel_rfl) (by simp) (fun _ _ _ h => h) (Or.inl ⟨by rfl, ?_⟩) (by assumption) ?_
      rotate_left
      · (intro W hW; (obtain ⟨h1, h2⟩ := hW); go_simp; (with_reducible rfl))
      intro hHeld'
      clear hHeld; have hHeld := hHeld'; clear hHeld'
      try simp only [Act.put, List.setIfInBounds_toArray, List.set_cons_zero, List.set_cons_succ]
      refine wpAnyL_take0 (i := 10) (v := ?_) rfl (by kernel_rfl) (by kernel_rfl) (by kernel_rfl) (by rfl) (fun _ _ _ h => h) (Or.inl ⟨by rfl, ?_⟩) (by assumption) ?_
      rotate_left
      · (intro W _; go_simp; (with_reducible rfl))
      intro hHeld'
      clear hHeld; have hHeld := hHeld'; clear hHeld'
      try simp only [Act.put, List.setIfInBounds_toArray, List.set_cons_zero, List.set_cons_succ]
      refine wpAnyL_take0 (i := 11) (v := ?_) rfl (by kernel_rfl) (by kernel_rfl) (by kernel_rfl) (by rfl) (fun _ _ _ h => h) (Or.inl ⟨by rfl, ?_⟩) (by assumption) ?_
      rotate_left
      · (intro W _; go_simp; (with_reducible rfl))
      intro hHeld'
      clear hHeld; have hHeld := hHeld'; clear hHeld'
      try simp only [Act.put, List.setIfInBounds_toArray, List.set_cons_zero, List.set_cons_succ]
      refine wpAnyL_take0 (i := 12) (v := ?_) rfl (by kernel_rfl) (by kernel_rfl) (by kernel_rfl) (by rfl) (fun _ _ _ h => h) (Or.inl ⟨by rfl, ?_⟩) (by assumption) ?_
      rotate_left
      · (intro W _; go_simp; (with_reducible rfl))
      intro hHeld'
      clear hHeld; have hHeld := hHeld'; clear hHeld'
      try simp only [Act.put, List.setIfInBounds_toArray, List.set_cons_zero, List.set_cons_succ]
      refine wpAnyL_ready (rs := [13]) (by kernel_rfl) (by simp) ?_
      refine AllReadyL.cons rfl (fun K hK => ?_) AllReadyL.nil
      go_simp
      go_at_call 236
      (with_reducible refine (hmf.out _ _ _ _ hTB.out).mono ?_)
      rintro e w2 ⟨rfl, hb⟩
      replace rS := hid (rS.out.call hb); clear hb hTB
      go_simp
      have hZ2 := hid (hZ.out _ rS.out.bel)
      have pB := hid (hBel.out _ rS.out.bel)
      refine hK.out _ _ (HeldL.cons (fun _ => ⟨(hml.out _ pB.out).2.1, (hkl.out _ pB.out).2⟩) HeldL.nil) (fun hHeld' => ?_)
      clear hK K hHeld; have hHeld := hHeld'; clear hHeld'
      try simp only [Act.put, List.setIfInBounds_toArray, List.set_cons_zero, List.set_cons_succ]
      refine wpAnyL_take0 (i := 14) (v := ?_) rfl (by kernel_rfl) (by kernel_rfl) (by kernel_rfl) (by rfl) (fun _ _ _ h => h) (Or.inl ⟨by rfl, ?_⟩) (by assumption) ?_
      rotate_left
      · (intro W _; go_simp; (with_reducible rfl))
      intro hHeld'
      clear hHeld; have hHeld := hHeld'; clear hHeld'
      try simp only [Act.put, List.setIfInBounds_toArray, List.set_cons_zero, List.set_cons_succ]
      refine wpAnyL_take0 (i := 15) (v := ?_) rfl (by kernel_rfl) (by kernel_rfl) (by kernel_rfl) (by rfl) (fun _ _ _ h => h) (Or.inl ⟨by rfl, ?_⟩) (by assumption) ?_
      rotate_left
      · (intro W _; go_simp; (with_reducible rfl))
      intro hHeld'
      clear hHeld; have hHeld := hHeld'; clear hHeld'
      try simp only [Act.put, List.setIfInBounds_toArray, List.set_cons_zero, List.set_cons_succ]
      refine wpAnyL_ready (rs := [16]) (by kernel_rfl) (by simp) ?_
      refine AllReadyL.cons rfl (fun K hK => ?_) AllReadyL.nil
      refine step_store_mach rfl _ _ rfl _ rfl fm rfl _ _ hZ2.out ?_
      intro w9 p2 ho hbl
      replace pB := hid (hbl _ _ (Nat.le_refl _) pB.out)
      replace p2 := hid p2; clear ho hbl hZ2 rS
      refine hK.out _ _ (HeldL.cons (fun h => absurd h (by decide +kernel)) HeldL.nil) (fun hHeld' => ?_)
      clear hK K hHeld; have hHeld := hHeld'; clear hHeld'
      try simp only [Act.put, List.setIfInBounds_toArray, List.set_cons_zero, List.set_cons_succ]
      refine wpAnyL_take0 (i := 17) (v := ?_) rfl (by kernel_rfl) (by kernel_rfl) (by kernel_rfl) (by rfl) (fun _ _ _ h => h) (Or.inl ⟨by rfl, ?_⟩) (by assumption) ?_
      rotate_left
      · (intro W _; go_simp; (with_reducible rfl))
      intro hHeld'
      clear hHeld; have hHeld := hHeld'; clear hHeld'
      try simp only [Act.put, List.setIfInBounds_toArray, List.set_cons_zero, List.set_cons_succ]
      refine wpAnyL_done (by kernel_rfl) ?_ _
      simp only [Act.put, List.getElem_toArray, List.getElem_cons_succ, List.getElem_cons_zero, List.setIfInBounds_toArray, List.set_cons_zero, List.set_cons_succ]
      go_wp2
      exact ret_mach_i rfl rfl rfl p2.out rfl ⟨rfl, pB.out⟩
end Go.Proofs.Ytbmkkaecfogmoaa

/- The trivial machine, and powers: the program's and the reference's. -/
namespace Go.Proofs.Ytbmkkaecfogmoaa
open Go.RowKit
set_option linter.unusedVariables false
set_option linter.unusedSimpArgs false

/-- The trivial machine, as far as it is written. -/
def trivP (l x : Nat) : Mach := ⟨l, 1, fun _ => 0, fun p => if p < x then p else 0⟩
theorem trivP_zero (l : Nat) : trivP l 0 = ⟨l, 1, fun _ => 0, fun _ => 0⟩ := by
  unfold trivP
  congr 1
theorem trivP_step (l x : Nat) : trivP l (x + 1) = { trivP l x with ot := upd (trivP l x).ot x x } := by
  unfold trivP upd
  congr 1
  funext p
  dsimp only
  by_cases h : p = x
  · subst h; simp
  · rw [if_neg h]
    by_cases hp : p < x
    · rw [if_pos hp, if_pos (by omega)]
    · rw [if_neg hp, if_neg (by omega)]
def trivM (l : Nat) : Mach := trivP l l
theorem trivM_ok (l : Nat) (hl : l ≤ 3) : (trivM l).Ok := fun i => ⟨by show 0 < 256; omega, by show (if i < l then i else 0) < 256; split <;> omega⟩
theorem trivM_good (l : Nat) (l2 : 2 ≤ l) (l3 : l ≤ 3) : Good (trivM l) l 1 := by
  refine ⟨rfl, rfl, l2, l3, by omega, by omega, ?_, ?_, ?_, ?_⟩
  · intro q x _ _; show 0 < 1; omega
  · intro q x hq hx
    show (if q * 3 + x < l then q * 3 + x else 0) < l
    rw [if_pos (by omega)]; omega
  · intro q hq y x hy hx
    show (if q * 3 + y < l then q * 3 + y else 0) ≠ (if q * 3 + x < l then q * 3 + x else 0)
    rw [if_pos (by omega), if_pos (by omega)]; omega
  · intro q x hq hx hn
    refine ⟨rfl, ?_⟩
    show (if q * 3 + x < l then q * 3 + x else 0) = 0
    by_cases h : q * 3 + x < l
    · exfalso; apply hn; omega
    · rw [if_neg h]

set_option maxHeartbeats 4000000 in
set_option maxRecDepth 100000 in
theorem trivialMachine_any (w : World) (l : Nat) (l3 : l ≤ 3) :
    Calls Try.prog 169 #[.int .i64 l] w fun e w' => e = .returned (.agg (mcells (trivM l))) ∧ Below w.heap.size w w' := by
  have hz := zero_mach
  have hS := hid (((St.start w).newMB ⟨0, 0, fun _ => 0, fun _ => 0⟩ 27).newMB ⟨0, 0, fun _ => 0, fun _ => 0⟩ 27)
  rw [heap_alloc_size] at hS
  have hz0 := hid (trivP_zero l)
  generalize mcells ⟨0, 0, fun _ => 0, fun _ => 0⟩ = zs at *
  go_enter Try.func169, Try.ntmps169
  go_wp2_with (first
    | ((with_reducible refine gate (N := 6) rfl ?_); refine build_mach rfl _ _ rfl (l : Int) 1 rfl rfl ?_)
    | ((with_reducible refine gateOp (op := .store 27 (.tmp 3) (.tmp 6)) rfl ?_); refine store_mach rfl _ _ rfl (w.heap.size + 1) rfl ⟨(l : Int), 1, fun _ => 0, fun _ => 0⟩ rfl 27 _ hS.out.m0 ?_; intro W1 p3 ho hsz hbl; replace hS := hid (hS.out.setM (Nat.le_succ _) p3 ho hbl); clear p3 ho hsz hbl))
  rw [← hz0.out] at hS
  go_loopw [8] (fun i wr => ∃ x : Nat, x ≤ l ∧ i = .int .i64 x ∧ St w.heap.size w [Asn.mb 27 (w.heap.size + 1) (trivP l x), Asn.mb 27 w.heap.size ⟨0, 0, fun _ => 0, fun _ => 0⟩] wr) (fun i _ => l - (intOf i).toNat)
  case atStart => exact ⟨0, Nat.zero_le _, rfl, hS.out⟩
  case round =>
    obtain ⟨x, hx, rfl, rS⟩ := hrel
    clear hS
    replace rS := hid rS
    by_cases hxl : x < l
    · have dx : decide ((x : Int) < (l : Int)) = true := decide_eq_true (by omega)
      have x3 : (x : Int) < 3 := by omega
      have x0 : (0 : Int) ≤ (x : Int) := Int.natCast_nonneg _
      have hst := hid (trivP_step l x)
      obtain ⟨u, co⟩ : ∃ u, wr.cell? ⟨w.heap.size + 1, 50 + x, none⟩ = some u := ⟨_, by have h := rS.out.m0.cot 0 x (by omega) (by omega); simpa using h⟩
      have fo : wr.frozen? ⟨w.heap.size + 1, 50 + x, none⟩ = false := World.rowIs.frozen rS.out.m0 _
      have zS := rS.out.setOt (Nat.le_succ _) 0 x x (by omega) (by omega)
      simp only [Nat.zero_mul, Nat.add_zero, Nat.zero_add] at zS
      replace zS := hid zS
      rw [← hst.out] at zS
      have xm : (x : Int) % 256 = x := by omega
      go_wp2
      go_roundw
      case rel => exact ⟨x + 1, by omega, by go_num, zS.out⟩
      case measure => simp [intOf]; omega
    · obtain rfl : l = x := by omega
      have dx : decide ((l : Int) < (l : Int)) = false := decide_eq_false (by omega)
      go_wp2_with (first
        | ((with_reducible refine gate (N := 18) rfl ?_); refine load_mach rfl _ rfl (w.heap.size + 1) rfl (trivP l l) rS.out.m0 ?_)
        | ((with_reducible refine gateOp (op := .store 27 (.tmp 2) (.tmp 18)) rfl ?_); refine store_mach rfl _ _ rfl w.heap.size rfl (trivP l l) rfl 27 _ rS.out.m1 ?_; intro W3 p2 ho hsz hbl; have pB := hid (hbl _ _ (Nat.le_refl _) rS.out.bel); replace p2 := hid p2; clear ho hsz hbl))
      exact ret_mach rfl rfl p2.out rfl ⟨rfl, pB.out⟩

set_option maxHeartbeats 4000000 in
set_option maxRecDepth 100000 in
theorem l07Trivial_any (w : World) (l : Nat) (l3 : l ≤ 3) :
    Calls Try.prog 172 #[.int .i64 l] w fun e w' => e = .returned (.agg (mcells (trivM l))) ∧ Below w.heap.size w w' := by
  have hz := zero_mach
  have hS := hid (((St.start w).newMB ⟨0, 0, fun _ => 0, fun _ => 0⟩ 27).newMB ⟨0, 0, fun _ => 0, fun _ => 0⟩ 27)
  rw [heap_alloc_size] at hS
  have hz0 := hid (trivP_zero l)
  generalize mcells ⟨0, 0, fun _ => 0, fun _ => 0⟩ = zs at *
  go_enter Try.func172, Try.ntmps172
  go_wp2_with (first
    | ((with_reducible refine gate (N := 6) rfl ?_); refine build_mach rfl _ _ rfl (l : Int) 1 rfl rfl ?_)
    | ((with_reducible refine gateOp (op := .store 27 (.tmp 3) (.tmp 6)) rfl ?_); refine store_mach rfl _ _ rfl (w.heap.size + 1) rfl ⟨(l : Int), 1, fun _ => 0, fun _ => 0⟩ rfl 27 _ hS.out.m0 ?_; intro W1 p3 ho hsz hbl; replace hS := hid (hS.out.setM (Nat.le_succ _) p3 ho hbl); clear p3 ho hsz hbl))
  rw [← hz0.out] at hS
  go_loopw [4] (fun i wr => ∃ x : Nat, x ≤ l ∧ i = .int .i64 x ∧ St w.heap.size w [Asn.mb 27 (w.heap.size + 1) (trivP l x), Asn.mb 27 w.heap.size ⟨0, 0, fun _ => 0, fun _ => 0⟩] wr) (fun i _ => l - (intOf i).toNat)
  case atStart => exact ⟨0, Nat.zero_le _, rfl, hS.out⟩
  case round =>
    obtain ⟨x, hx, rfl, rS⟩ := hrel
    clear hS
    replace rS := hid rS
    by_cases hxl : x < l
    · have dx : decide ((x : Int) < (l : Int)) = true := decide_eq_true (by omega)
      have x3 : (x : Int) < 3 := by omega
      have x0 : (0 : Int) ≤ (x : Int) := Int.natCast_nonneg _
      have hst := hid (trivP_step l x)
      obtain ⟨u, co⟩ : ∃ u, wr.cell? ⟨w.heap.size + 1, 50 + x, none⟩ = some u := ⟨_, by have h := rS.out.m0.cot 0 x (by omega) (by omega); simpa using h⟩
      have fo : wr.frozen? ⟨w.heap.size + 1, 50 + x, none⟩ = false := World.rowIs.frozen rS.out.m0 _
      have zS := rS.out.setOt (Nat.le_succ _) 0 x x (by omega) (by omega)
      simp only [Nat.zero_mul, Nat.add_zero, Nat.zero_add] at zS
      replace zS := hid zS
      rw [← hst.out] at zS
      have xm : (x : Int) % 256 = x := by omega
      go_wp2
      go_roundw
      case rel => exact ⟨x + 1, by omega, by go_num, zS.out⟩
      case measure => simp [intOf]; omega
    · obtain rfl : l = x := by omega
      have dx : decide ((l : Int) < (l : Int)) = false := decide_eq_false (by omega)
      go_wp2_with (first
        | ((with_reducible refine gate (N := 18) rfl ?_); refine load_mach rfl _ rfl (w.heap.size + 1) rfl (trivP l l) rS.out.m0 ?_)
        | ((with_reducible refine gateOp (op := .store 27 (.tmp 2) (.tmp 18)) rfl ?_); refine store_mach rfl _ _ rfl w.heap.size rfl (trivP l l) rfl 27 _ rS.out.m1 ?_; intro W3 p2 ho hsz hbl; have pB := hid (hbl _ _ (Nat.le_refl _) rS.out.bel); replace p2 := hid p2; clear ho hsz hbl))
      exact ret_mach rfl rfl p2.out rfl ⟨rfl, pB.out⟩

end Go.Proofs.Ytbmkkaecfogmoaa
