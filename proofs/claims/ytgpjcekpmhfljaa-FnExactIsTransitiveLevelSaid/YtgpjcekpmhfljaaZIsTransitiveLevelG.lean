/- What the proof of IsTransitiveLevel leans on, part 7 of 12. -/
import Derived.Test.YtgpjcekpmhfljaaZIsTransitiveLevelF
import Derived.Deep.Cut
import Derived.Deep.CutRange
import Derived.Laws.CopyOwn
import Derived.Laws.MakeOwn
/- Machines, compared by ==; and the machine of a state of a table is of bytes, and a machine again. -/
namespace Go.Proofs.Ytgpjcekpmhfljaa
open Go.RowKit
set_option linter.unusedVariables false
set_option linter.unusedSimpArgs false

theorem cells_b48 : Try.prog.cellsOf 23 = 48 := by kernel_rfl
theorem cells_mach : Try.prog.cellsOf 29 = 98 := by kernel_rfl
theorem cells_i64 : Try.prog.cellsOf 2 = 1 := by kernel_rfl
theorem wf_i64s (a : Nat) (h : a < 1000000) : (Lit.int .i64 (a : Int)).wf = true := by
  have h0 : IntKind.i64.min = -9223372036854775808 := by decide
  have h1 : IntKind.i64.max = 9223372036854775807 := by decide
  simp [Lit.wf, IntKind.has, h0, h1]; omega
theorem lits_i64 (d : Nat) (a : Nat) (h : a < 1000000) : Try.prog.keyLits (d + 1) 2 [.int .i64 (a : Int)] = some [.int .i64 (a : Int)] := by
  unfold Program.keyLits
  rw [Try.underlying2]
  simp [wf_i64s a h]
theorem mapM_all {α β : Type} (F : α → Option β) (G : α → β) : ∀ l : List α, (∀ a ∈ l, F a = some (G a)) → l.mapM F = some (l.map G)
  | [], _ => rfl
  | a :: l, h => by
    rw [List.mapM_cons, h a (by simp), mapM_all F G l (fun b hb => h b (by simp [hb]))]
    rfl
def lrow3 (f : Nat → Nat) (i : Nat) : List Lit := [.int .u8 (f (i * 3) : Nat), .int .u8 (f (i * 3 + 1) : Nat), .int .u8 (f (i * 3 + 2) : Nat)]
def lit48 (f : Nat → Nat) : List Lit := ((List.range 16).map (lrow3 f)).flatten
theorem cut3 {α : Type} (g : Nat → α) (i : Nat) (h : i < 16) : (((List.range 48).map g).drop (i * 3)).take 3 = [g (i * 3), g (i * 3 + 1), g (i * 3 + 2)] := by
  apply List.ext_getElem?
  intro n
  rw [List.getElem?_take]
  rcases n with _ | _ | _ | n
  · rw [if_pos (by omega), List.getElem?_drop, List.getElem?_map, List.getElem?_range (by omega)]; rfl
  · rw [if_pos (by omega), List.getElem?_drop, List.getElem?_map, List.getElem?_range (by omega)]; rfl
  · rw [if_pos (by omega), List.getElem?_drop, List.getElem?_map, List.getElem?_range (by omega)]; rfl
  · rw [if_neg (by omega)]; rfl
theorem lits_b48 (d : Nat) (f : Nat → Nat) (h : ∀ i, f i < 256) : Try.prog.keyLits (d + 3) 23 ((List.range 48).map fun i => .int .u8 (f i : Nat)) = some (lit48 f) := by
  unfold Program.keyLits
  rw [Try.underlying23]
  simp only [cells_b48, List.length_map, List.length_range, cells_b3, if_true]
  rw [mapM_all _ (lrow3 f)]
  · rfl
  · intro i hi
    rw [List.mem_range] at hi
    rw [cut3 _ i hi]
    exact lits_b3 d _ _ _ (h _) (h _) (h _)
theorem flat3_inj (f g : Nat → Nat) : ∀ l : List Nat, (l.map (lrow3 f)).flatten = (l.map (lrow3 g)).flatten ↔ ∀ i ∈ l, lrow3 f i = lrow3 g i
  | [] => by simp
  | a :: l => by
    simp only [List.map_cons, List.flatten_cons, List.mem_cons, forall_eq_or_imp]
    rw [← flat3_inj f g l]
    exact ⟨fun h => List.append_inj h rfl, fun h => by rw [h.1, h.2]⟩
theorem lit48_inj (f g : Nat → Nat) (h : lit48 f = lit48 g) : ∀ i, i < 48 → f i = g i := fun i hi => by
  have := (flat3_inj f g _).1 h (i / 3) (List.mem_range.2 (by omega))
  simp only [lrow3, List.cons.injEq, Lit.int.injEq, true_and, and_true, Int.natCast_inj] at this
  obtain ⟨h0, h1, h2⟩ := this
  rcases (show i = i / 3 * 3 ∨ i = i / 3 * 3 + 1 ∨ i = i / 3 * 3 + 2 by omega) with e | e | e
  · rw [e]; exact h0
  · rw [e]; exact h1
  · rw [e]; exact h2
theorem mcells_list (m : Mach) : (mcells m).toList = [.int .i64 m.L] ++ ([.int .i64 m.S] ++ (((List.range 48).map fun i => .int .u8 (m.nx i : Nat)) ++ ((List.range 48).map fun i => .int .u8 (m.ot i : Nat)))) := by
  apply List.ext_getElem?
  intro n
  rw [Array.getElem?_toList]
  by_cases h : n < 98
  · rw [mcells_get m n h]
    rcases n with _ | _ | n
    · rfl
    · rfl
    · rw [List.getElem?_append_right (by simp), List.getElem?_append_right (by simp)]
      simp only [List.length_cons, List.length_nil]
      rw [show n + 1 + 1 - (0 + 1) - (0 + 1) = n by omega]
      by_cases hn : n < 48
      · rw [List.getElem?_append_left (by simpa using hn)]
        simp [mf, hn]; omega
      · rw [List.getElem?_append_right (by simp; omega)]
        simp only [List.length_map, List.length_range]
        rw [List.getElem?_map, List.getElem?_range (by omega)]
        unfold mf
        rw [if_neg (by omega), if_neg (by omega), if_neg (by omega), show n + 1 + 1 - 50 = n - 48 by omega]
        rfl
  · rw [Array.getElem?_eq_none (by rw [size_mcells]; omega), List.getElem?_eq_none (by simp; omega)]
def mlits (a b : Nat) (m : Mach) : List Lit := [.int .i64 (a : Int)] ++ ([.int .i64 (b : Int)] ++ (lit48 m.nx ++ lit48 m.ot))
set_option maxRecDepth 4000 in
theorem lits_mach (d : Nat) (m : Mach) (hk : m.Ok) (a b : Nat) (ha : m.L = a) (hb : m.S = b) (ha' : a < 1000000) (hb' : b < 1000000) : Try.prog.keyLits (d + 4) 29 (mcells m).toList = some (mlits a b m) := by
  have hlen : (mcells m).toList.length = 98 := by rw [Array.length_toList, size_mcells]
  have hc := mcells_list m
  rw [ha, hb] at hc
  have hN : ((List.range 48).map fun i => Value.int .u8 (m.nx i : Nat)).length = 48 := by simp
  have hO : ((List.range 48).map fun i => Value.int .u8 (m.ot i : Nat)).length = 48 := by simp
  have kN := lits_b48 d m.nx (fun i => (hk i).1)
  have kO := lits_b48 d m.ot (fun i => (hk i).2)
  generalize (List.range 48).map (fun i => Value.int .u8 (m.nx i : Nat)) = N at *
  generalize (List.range 48).map (fun i => Value.int .u8 (m.ot i : Nat)) = O at *
  unfold Program.keyLits
  rw [Try.underlying29]
  simp only [hlen, cells_mach, if_true, true_and]
  rw [if_pos (by decide +kernel)]
  rw [hc]
  simp only [List.mapM_cons, List.mapM_nil, cells_i64, cells_b48]
  have e0 : ([Value.int .i64 (a : Int)] ++ ([Value.int .i64 (b : Int)] ++ (N ++ O))).drop 2 = N ++ O := rfl
  have e1 : ([Value.int .i64 (a : Int)] ++ ([Value.int .i64 (b : Int)] ++ (N ++ O))).drop 50 = O := by
    show (N ++ O).drop 48 = O
    rw [List.drop_append_of_le_length (by omega), List.drop_of_length_le (by omega), List.nil_append]
  have e2 : (N ++ O).take 48 = N := by rw [List.take_append_of_le_length (by omega), List.take_of_length_le (by omega)]
  have e3 : O.take 48 = O := List.take_of_length_le (by omega)
  have e4 : (([Value.int .i64 (a : Int)] ++ ([Value.int .i64 (b : Int)] ++ (N ++ O))).drop 0).take 1 = [Value.int .i64 (a : Int)] := rfl
  have e5 : (([Value.int .i64 (a : Int)] ++ ([Value.int .i64 (b : Int)] ++ (N ++ O))).drop 1).take 1 = [Value.int .i64 (b : Int)] := rfl
  rw [e0, e1, e2, e3, e4, e5, lits_i64 _ a ha', lits_i64 _ b hb', kN, kO]
  simp [mlits]
theorem mlits_inj {a b a' b' : Nat} {m k : Mach} (ha : m.L = a) (hb : m.S = b) (ha' : k.L = a') (hb' : k.S = b') : mlits a b m = mlits a' b' k ↔ mcells m = mcells k := by
  constructor
  · intro h
    unfold mlits at h
    have l1 : (lit48 m.nx).length = 48 := rfl
    have l2 : (lit48 k.nx).length = 48 := rfl
    have h1 := List.append_inj h rfl
    have h2 := List.append_inj h1.2 rfl
    have h3 := List.append_inj h2.2 (by rw [l1, l2])
    have i1 := lit48_inj _ _ h3.1
    have i2 := lit48_inj _ _ h3.2
    have e1 : a = a' := by have := h1.1; simp at this; omega
    have e2 : b = b' := by have := h2.1; simp at this; omega
    unfold mcells
    congr 1
    apply List.map_congr_left
    intro i hi
    rw [List.mem_range] at hi
    unfold mf
    rw [ha, hb, ha', hb', e1, e2]
    split
    · rfl
    · split
      · rfl
      · split
        · rw [i1 _ (by omega)]
        · rw [i2 _ (by omega)]
  · intro h
    have g : ∀ i, i < 98 → mf m i = mf k i := fun i hi => by
      have := mcells_get m i hi
      rw [h, mcells_get k i hi] at this
      exact (Option.some.inj this).symm
    have e1 : a = a' := by have := g 0 (by omega); simp [mf, ha, ha'] at this; omega
    have e2 : b = b' := by have := g 1 (by omega); simp [mf, hb, hb'] at this; omega
    have i1 : ∀ i, i < 48 → m.nx i = k.nx i := fun i hi => by
      have := g (i + 2) (by omega)
      unfold mf at this
      rw [if_neg (by omega), if_neg (by omega), if_pos (by omega), if_neg (by omega), if_neg (by omega), if_pos (by omega)] at this
      simp at this
      omega
    have i2 : ∀ i, i < 48 → m.ot i = k.ot i := fun i hi => by
      have := g (i + 50) (by omega)
      unfold mf at this
      rw [if_neg (by omega), if_neg (by omega), if_neg (by omega), if_neg (by omega), if_neg (by omega), if_neg (by omega)] at this
      simp at this
      omega
    unfold mlits lit48
    rw [e1, e2]
    congr 3
    · congr 1
      apply List.map_congr_left
      intro i hi
      rw [List.mem_range] at hi
      unfold lrow3
      rw [i1 _ (by omega), i1 _ (by omega), i1 _ (by omega)]
    · congr 1
      apply List.map_congr_left
      intro i hi
      rw [List.mem_range] at hi
      unfold lrow3
      rw [i2 _ (by omega), i2 _ (by omega), i2 _ (by omega)]
/-- Two machines. -/
theorem eq_mach (w : World) (m k : Mach) (hm : m.Ok) (hk : k.Ok) (a b a' b' : Nat) (ha : m.L = a) (hb : m.S = b) (ha' : k.L = a') (hb' : k.S = b') (la : a < 1000000) (lb : b < 1000000) (la' : a' < 1000000) (lb' : b' < 1000000) (r : Bool) (hr : Tells r (mcells m = mcells k)) :
    (Op.equalIn 10000 29 (.agg (mcells m)) (.agg (mcells k))).run Try.prog w = .ok r w := by
  have hf : ∀ m : Mach, (Value.agg (mcells m)).formed Try.prog 29 = true := fun m => by
    simp [Value.formed, Try.underlying29, cells_mach, size_mcells]
  obtain ⟨q, hq, hi⟩ := run_equalIn_deep (P := Try.prog) 9995 5 29 key_mach w 4 4 _ _ _ _ (hf m) (hf k) (lits_mach 0 m hm a b ha hb la lb) (lits_mach 0 k hk a' b' ha' hb' la' lb')
  have e : q = r := by
    rw [Bool.eq_iff_iff, hi, hr.out, mlits_inj ha hb ha' hb']
  rw [← e]
  exact hq

section
variable {T : Tab}
/-- The machine of a state of a table. -/
theorem fin_lt (hT : T.Ok) {q : Nat} (hq : q < T.n) {s : Nat} (hs : s ∈ fin T (fix T) q) : s < T.n := (bfs_uniq hT (fun q hq => fix_lt q hq) q hq T.n).2 s hs
theorem gth_nx (hT : T.Ok) {q : Nat} (hq : q < T.n) (p : Nat) : (gth T (fix T) (fin T (fix T) q)).nx p ≤ (fin T (fix T) q).length ∧ (p / 3 < (fin T (fix T) q).length → p % 3 < T.L → (gth T (fix T) (fin T (fix T) q)).nx p < (fin T (fix T) q).length) := by
  have hp := fin_pos T (fix T) q
  unfold gth gthP
  dsimp only
  split
  · rename_i h
    have hi : p / 3 < (fin T (fix T) q).length := by omega
    have hs : (fin T (fix T) q).getD (p / 3) 0 ∈ fin T (fix T) q := by
      rw [List.getD_eq_getElem?_getD, List.getElem?_eq_getElem hi]; exact List.getElem_mem hi
    have := mem_idxOf_lt (fin_closed hT (c := fix T) (fun q hq => fix_lt q hq) hq _ hs (p % 3) h.2)
    exact ⟨Nat.le_of_lt this, fun _ _ => this⟩
  · rename_i h
    exact ⟨Nat.zero_le _, fun h1 h2 => absurd ⟨.inl h1, h2⟩ h⟩
theorem gth_ot (hT : T.Ok) {q : Nat} (hq : q < T.n) {N : Nat} (hN : 0 < N) (hot : ∀ q x, q < T.n → x < T.L → T.ot q x < N) (p : Nat) : (gth T (fix T) (fin T (fix T) q)).ot p < N := by
  unfold gth gthP
  dsimp only
  split
  · rename_i h
    refine hot _ _ ?_ h.2
    have hi : p / 3 < (fin T (fix T) q).length := by omega
    rw [List.getD_eq_getElem?_getD, List.getElem?_eq_getElem hi]
    exact fin_lt hT hq (List.getElem_mem hi)
  · exact hN
theorem fromM_ok (hT : T.Ok) {q : Nat} (hq : q < T.n) (hot : ∀ q x, q < T.n → x < T.L → T.ot q x < 256) : (fromM T q).Ok := by
  unfold fromM
  split
  · rename_i h
    intro p
    exact ⟨by have := (gth_nx hT hq p).1; omega, gth_ot hT hq (by omega) hot p⟩
  · exact fun p => ⟨by show 0 < 256; omega, by show 0 < 256; omega⟩
theorem fromM_L (T : Tab) (q : Nat) : ∃ a : Nat, (fromM T q).L = a ∧ a ≤ T.L := by
  unfold fromM; split
  · exact ⟨T.L, rfl, Nat.le_refl _⟩
  · exact ⟨0, rfl, Nat.zero_le _⟩
theorem fromM_S (T : Tab) (q : Nat) : ∃ a : Nat, (fromM T q).S = a ∧ a ≤ 16 := by
  unfold fromM; split
  · rename_i h; exact ⟨_, rfl, h⟩
  · exact ⟨0, rfl, Nat.zero_le _⟩
/-- .. is a machine, where the table's rows are permutations. -/
theorem fromM_good (hT : T.Ok) {q : Nat} (hq : q < T.n) (h2 : 2 ≤ T.L) (h3 : T.L ≤ 3) (hot : ∀ q x, q < T.n → x < T.L → T.ot q x < T.L) (hinj : ∀ q, q < T.n → ∀ y x, y < x → x < T.L → T.ot q y ≠ T.ot q x) (hc : fromC T q = 0) :
    ∃ s, Good (fromM T q) T.L s := by
  have h : (fin T (fix T) q).length ≤ 16 := by
    unfold fromC at hc
    split at hc
    · assumption
    · cases hc
  refine ⟨(fin T (fix T) q).length, ?_⟩
  have hg : fromM T q = gth T (fix T) (fin T (fix T) q) := by unfold fromM; rw [if_pos h]
  rw [hg]
  have hat : ∀ r, r < (fin T (fix T) q).length → (fin T (fix T) q).getD r 0 < T.n := fun r hr => by
    rw [List.getD_eq_getElem?_getD, List.getElem?_eq_getElem hr]
    exact fin_lt hT hq (List.getElem_mem hr)
  refine ⟨rfl, rfl, h2, h3, fin_pos _ _ _, h, ?_, ?_, ?_, ?_⟩
  · intro r x hr hx
    exact (gth_nx hT hq _).2 (by omega) (by omega)
  · intro r x hr hx
    exact gth_ot hT hq (by omega) hot _
  · intro r hr y x hy hx
    unfold gth gthP
    dsimp only
    rw [if_pos (by omega), if_pos (by omega), show (r * 3 + y) / 3 = r by omega, show (r * 3 + x) / 3 = r by omega, show (r * 3 + y) % 3 = y by omega, show (r * 3 + x) % 3 = x by omega]
    exact hinj _ (hat r hr) y x hy hx
  · intro r x hr hx hn
    unfold gth gthP
    dsimp only
    rw [if_neg (by omega), if_neg (by omega)]
    exact ⟨rfl, rfl⟩
theorem tabOf_ot {m : Mach} {l s : Nat} (g : Good m l s) : ∀ q x, q < (tabOf m l s).n → x < (tabOf m l s).L → (tabOf m l s).ot q x < (tabOf m l s).L := fun q x hq hx => g.ot q x hq hx
theorem tabOf_inj {m : Mach} {l s : Nat} (g : Good m l s) : ∀ q, q < (tabOf m l s).n → ∀ y x, y < x → x < (tabOf m l s).L → (tabOf m l s).ot q y ≠ (tabOf m l s).ot q x := fun q hq y x hy hx => g.inj q hq y x hy hx
end
end Go.Proofs.Ytgpjcekpmhfljaa

/- The product of two states: the program's side. -/
namespace Go.Proofs.Ytgpjcekpmhfljaa
open Go.RowKit
set_option linter.unusedVariables false
set_option linter.unusedSimpArgs false

/-- The table of a product. -/
def prodT (m k : Mach) (l s s' : Nat) : Tab := ⟨s * s', l, fun p x => m.nx (p / s' * 3 + x) * s' + k.nx (p % s' * 3 + m.ot (p / s' * 3 + x)), fun p x => k.ot (p % s' * 3 + m.ot (p / s' * 3 + x))⟩
section
variable {m k : Mach} {l s s' : Nat}
theorem prod_nx (m k : Mach) (l s : Nat) {a b P : Nat} (x : Nat) (hb : b < s') (hP : P = a * s') : (prodT m k l s s').nx (P + b) x = m.nx (a * 3 + x) * s' + k.nx (b * 3 + m.ot (a * 3 + x)) := by
  have e1 : (P + b) / s' = a := by rw [hP, Nat.mul_comm, Nat.mul_add_div (by omega), Nat.div_eq_of_lt hb, Nat.add_zero]
  have e2 : (P + b) % s' = b := by rw [hP, Nat.mul_comm, Nat.mul_add_mod, Nat.mod_eq_of_lt hb]
  simp only [prodT, e1, e2]
theorem prod_ot (m k : Mach) (l s : Nat) {a b P : Nat} (x : Nat) (hb : b < s') (hP : P = a * s') : (prodT m k l s s').ot (P + b) x = k.ot (b * 3 + m.ot (a * 3 + x)) := by
  have e1 : (P + b) / s' = a := by rw [hP, Nat.mul_comm, Nat.mul_add_div (by omega), Nat.div_eq_of_lt hb, Nat.add_zero]
  have e2 : (P + b) % s' = b := by rw [hP, Nat.mul_comm, Nat.mul_add_mod, Nat.mod_eq_of_lt hb]
  simp only [prodT, e1, e2]
theorem prod_split {p : Nat} (hp : p < s * s') : p / s' < s ∧ p % s' < s' := by
  have h0 : 0 < s' := Nat.pos_of_ne_zero (fun h => by rw [h] at hp; simp at hp)
  exact ⟨Nat.div_lt_of_lt_mul (by rw [Nat.mul_comm]; exact hp), Nat.mod_lt _ h0⟩
theorem prod_in {a b : Nat} (ha : a < s) (hb : b < s') : a * s' + b < s * s' := by
  have h1 : a * s' + s' ≤ s * s' := by rw [← Nat.succ_mul]; exact Nat.mul_le_mul_right _ ha
  omega
theorem prod_ok (g : Good m l s) (g' : Good k l s') : (prodT m k l s s').Ok := by
  refine ⟨Nat.mul_pos g.s1 g'.s1, fun p x hp hx => ?_⟩
  obtain ⟨h1, h2⟩ := prod_split hp
  exact prod_in (g.nx _ x h1 hx) (g'.nx _ _ h2 (g.ot _ x h1 hx))
theorem prod_o (g : Good m l s) (g' : Good k l s') : ∀ p x, p < (prodT m k l s s').n → x < (prodT m k l s s').L → (prodT m k l s s').ot p x < (prodT m k l s s').L := fun p x hp hx => by
  obtain ⟨h1, h2⟩ := prod_split hp
  exact g'.ot _ _ h2 (g.ot _ x h1 hx)
theorem prod_o256 (g : Good m l s) (g' : Good k l s') : ∀ p x, p < (prodT m k l s s').n → x < (prodT m k l s s').L → (prodT m k l s s').ot p x < 256 := fun p x hp hx => by
  have h := prod_o g g' p x hp hx
  have : (prodT m k l s s').L = l := rfl
  have := g.l3
  omega
theorem prod_inj (g : Good m l s) (g' : Good k l s') : ∀ p, p < (prodT m k l s s').n → ∀ y x, y < x → x < (prodT m k l s s').L → (prodT m k l s s').ot p y ≠ (prodT m k l s s').ot p x := fun p hp y x hy hx => by
  obtain ⟨h1, h2⟩ := prod_split hp
  have hx' : x < l := hx
  have i := g.inj _ h1 y x hy hx'
  have o1 := g.ot _ y h1 (by omega)
  have o2 := g.ot _ x h1 hx'
  show k.ot _ ≠ k.ot _
  rcases Nat.lt_or_gt_of_ne i with h | h
  · exact g'.inj _ h2 _ _ h o2
  · exact (g'.inj _ h2 _ _ h o1).symm
theorem prod_n (g : Good m l s) (g' : Good k l s') : (prodT m k l s s').n ≤ 256 := by
  show s * s' ≤ 256
  exact Nat.mul_le_mul g.s16 g'.s16
end

end Go.Proofs.Ytgpjcekpmhfljaa

/- The trivial machine, and powers: the program's and the reference's. -/
namespace Go.Proofs.Ytgpjcekpmhfljaa
open Go.RowKit
set_option linter.unusedVariables false
set_option linter.unusedSimpArgs false

/-- The trivial machine, as far as it is written. -/
def trivP (l x : Nat) : Mach := ⟨l, 1, fun _ => 0, fun p => if p < x then p else 0⟩
theorem trivP_zero (l : Nat) : trivP l 0 = ⟨l, 1, fun _ => 0, fun _ => 0⟩ := by
  unfold trivP
  congr 1
theorem trivP_step (l x : Nat) : trivP l (x + 1) = { trivP l x with ot := upd (trivP l x).ot x x } := by
  unfold trivP upd
  congr 1
  funext p
  dsimp only
  by_cases h : p = x
  · subst h; simp
  · rw [if_neg h]
    by_cases hp : p < x
    · rw [if_pos hp, if_pos (by omega)]
    · rw [if_neg hp, if_neg (by omega)]
def trivM (l : Nat) : Mach := trivP l l
theorem trivM_ok (l : Nat) (hl : l ≤ 3) : (trivM l).Ok := fun i => ⟨by show 0 < 256; omega, by show (if i < l then i else 0) < 256; split <;> omega⟩
theorem trivM_good (l : Nat) (l2 : 2 ≤ l) (l3 : l ≤ 3) : Good (trivM l) l 1 := by
  refine ⟨rfl, rfl, l2, l3, by omega, by omega, ?_, ?_, ?_, ?_⟩
  · intro q x _ _; show 0 < 1; omega
  · intro q x hq hx
    show (if q * 3 + x < l then q * 3 + x else 0) < l
    rw [if_pos (by omega)]; omega
  · intro q hq y x hy hx
    show (if q * 3 + y < l then q * 3 + y else 0) ≠ (if q * 3 + x < l then q * 3 + x else 0)
    rw [if_pos (by omega), if_pos (by omega)]; omega
  · intro q x hq hx hn
    refine ⟨rfl, ?_⟩
    show (if q * 3 + x < l then q * 3 + x else 0) = 0
    by_cases h : q * 3 + x < l
    · exfalso; apply hn; omega
    · rw [if_neg h]



end Go.Proofs.Ytgpjcekpmhfljaa

/- Slices of elements of several cells that a function made itself. -/
namespace Go.Proofs.Ytgpjcekpmhfljaa
open Go.RowKit
set_option linter.unusedVariables false
set_option linter.unusedSimpArgs false

/-- The slice value v holds n elements of sz cells each: just the cells cs, in a block of its own from 'base' on. -/
def OwnN (w : World) (base e sz : Nat) (v : Value) (n : Nat) (cs : List Value) : Prop := w.ownsRow base e sz v n cs
section
variable {w w' : World} {base e sz n : Nat} {v : Value} {cs : List Value}
theorem OwnN.len (h : OwnN w base e sz v n cs) : cs.length = n * sz := h.1
theorem OwnN.nil (w : World) (base e sz : Nat) : OwnN w base e sz (.slice none 0 0) 0 [] := World.ownsRow_nil w base e sz
theorem OwnN.new (w : World) (base e sz : Nat) (hb : base ≤ w.heap.size) : OwnN (w.alloc (.cells #[] e)) base e sz (.slice (some ⟨w.heap.size, 0, none⟩) 0 0) 0 [] := by
  have := World.ownsRow_lit (base := base) (e := e) (size := sz) w #[] 0 hb (by simp [maxLen]) (by simp)
  exact this
theorem OwnN.keep (h : OwnN w base e sz v n cs) (hk : ∀ k, v.ownBlock = some k → w'.heap[k]? = w.heap[k]?) : OwnN w' base e sz v n cs := by
  refine ⟨h.1, ?_⟩
  rcases h.2 with hn | ⟨g, cap, cur, rfl, hb, hg, rest⟩
  · exact .inl hn
  · exact .inr ⟨g, cap, cur, rfl, hb, (hk g rfl).trans hg, rest⟩
theorem OwnN.lt (h : OwnN w base e sz v n cs) : ∀ k, v.ownBlock = some k → base ≤ k ∧ k < w.heap.size := World.ownsRow.lt h
theorem OwnN.mono {b' : Nat} (h : OwnN w base e sz v n cs) (hb : b' ≤ base) : OwnN w b' e sz v n cs := by
  refine ⟨h.1, ?_⟩
  rcases h.2 with hn | ⟨g, cap, cur, rfl, hg0, rest⟩
  · exact .inl hn
  · exact .inr ⟨g, cap, cur, rfl, Nat.le_trans hb hg0, rest⟩
theorem OwnN.form (h : OwnN w base e sz v n cs) : (v = .slice none 0 0 ∧ n = 0) ∨ ∃ g cap, v = .slice (some ⟨g, 0, none⟩) n cap := by
  rcases h.2 with h | ⟨g, cap, cur, rfl, _⟩
  · exact .inl h
  · exact .inr ⟨g, cap, rfl⟩
theorem OwnN.blk (h : OwnN w base e sz v n cs) (hn : 0 < n) : ∃ g cap, v = .slice (some ⟨g, 0, none⟩) n cap := by
  rcases h.form with ⟨_, h0⟩ | h
  · omega
  · exact h
theorem OwnN.cellAt {g cap : Nat} (h : OwnN w base e sz (.slice (some ⟨g, 0, none⟩) n cap) n cs) (j : Nat) (u : Value) (hu : cs[j]? = some u) : w.cell? ⟨g, j, none⟩ = some u := by
  have hj : j < n * sz := by rw [← h.len]; exact (List.getElem?_eq_some_iff.1 hu).1
  rw [World.ownsRow.cellAt h j hj]; exact hu
theorem OwnN.frozenAt {g cap : Nat} (h : OwnN w base e sz (.slice (some ⟨g, 0, none⟩) n cap) n cs) (j : Nat) : w.frozen? ⟨g, j, none⟩ = false := World.ownsRow.frozenAt h j
theorem OwnN.set {g cap : Nat} (h : OwnN w base e sz (.slice (some ⟨g, 0, none⟩) n cap) n cs) (j : Nat) (u : Value) : OwnN (w.setCell ⟨g, j, none⟩ u) base e sz (.slice (some ⟨g, 0, none⟩) n cap) n (cs.set j u) := (World.ownsRow.stored h j u).1
/-- One element's cells, as a load of it wants them. -/
theorem OwnN.range {g cap : Nat} (h : OwnN w base e sz (.slice (some ⟨g, 0, none⟩) n cap) n cs) (o : Nat) (l : List Value) (hl : ∀ j, j < l.length → cs[o + j]? = l[j]?) : w.rangeAt g o l := fun j u hu => by
  have hj := (List.getElem?_eq_some_iff.1 hu).1
  exact h.cellAt (o + j) u ((hl j hj).trans hu)
end
def Asn.ownN (base e sz : Nat) (v : Value) (n : Nat) (cs : List Value) : Asn := ⟨fun k => v.ownBlock = some k, fun w => OwnN w base e sz v n cs, fun h hk => h.keep hk, fun h k hk => (h.lt k hk).2⟩

/-- One element appended, as the walk meets it: behind its box. -/
theorem appN {P : Program} {ops : Array Oper} {rest : List Oper} {o : Oper} {a : Act} {W : World} {Q : Exit → Act → World → Prop} (t e : TypeId) (z : Value) (sz bytes : Nat)
    (ht : P.underlying t = some (.slice e)) (hinfo : (P.info? e).map (fun i => (i.zero, i.size, i.bytes)) = some (some z, sz, bytes)) (hz : z.cells.size = sz) (hsz : 0 < sz) (hb : bytes ≤ 64)
    (hgd : o.guard = none) (s x : Operand) (ho : o.op = .call { callee := .builtin .append, args := #[s, x], argTypes := #[t, t] })
    (base : Nat) (v : Value) (n : Nat) (cs : List Value) (hs : a.eval s = v) (hown : OwnN W base e sz v n cs) (hbase : base ≤ W.heap.size) (news : List Value) (hnl : news.length = sz) (hc1 : ∀ u ∈ news, u.oneCell' = true)
    (hx : a.eval x = .slice (some ⟨W.heap.size, 0, none⟩) 1 1) (hlen : n ≤ 1000000000)
    (h : ∀ g cap w', OwnN w' base e sz (.slice (some ⟨g, 0, none⟩) (n + 1) cap) (n + 1) (cs ++ news) → Below base W w' → (∀ k, k < W.heap.size → v.ownBlock ≠ some k → w'.heap[k]? = W.heap[k]?) → W.heap.size < w'.heap.size → (v.ownBlock = some g ∨ W.heap.size < g) →
      wpList P ops Q rest (a.put o.dst (.slice (some ⟨g, 0, none⟩) (n + 1) cap)) w') :
    wpList P ops Q (o :: rest) a (W.alloc (.cells news.toArray e)) := by
  obtain ⟨i, hi, hz0, hz1, hz2⟩ := info_parts hinfo
  refine wpList_plain hgd fun K hK => ?_
  refine wp_append_lies (W.alloc (.cells news.toArray e)) s x t ho base e i z sz bytes ht hi hz0 hz1 hz2 hz hsz v n cs hs (World.ownsRow.alloc hown _) ⟨W.heap.size, 0, none⟩ 1 1 news hx (by rw [hnl, Nat.one_mul])
    (fun j u hu => ?_) hc1 (by omega) (by simp only [maxLen]; omega) (Nat.le_trans (Nat.mul_le_mul_left _ hb) (by omega)) (by simp; omega) (W.heap.size + 1) (by simp) ?_
  · rw [Addr.add_mid, Nat.zero_add, cell_of_row _ W.heap.size j _ _ _ (heap_alloc_new W _)]
    simpa using hu
  · intro g cap w' h1 h2 h3 h4
    have hsz' : W.heap.size < w'.heap.size := by have := h2.size; simp at this; omega
    have hold : ∀ k, k < W.heap.size → v.ownBlock ≠ some k → w'.heap[k]? = W.heap[k]? := fun k hk hne => by
      rw [h2.block k (by simp; omega) (fun e => hne e.symm)]
      exact Below.heap_alloc W _ k hk
    exact hK _ _ (h g cap w' h1 ⟨h2.os, h2.tape, h2.output, by omega, fun k hk => hold k (by omega) (fun e => by have := (hown.lt k e).1; omega)⟩ hold hsz' (h3.imp id (fun e => by omega)))

section
variable {w w' W w0 : World} {L : List Asn} {base : Nat} {a b c d e f : Asn}
theorem St.n0 {bs t sz n : Nat} {v : Value} {cs : List Value} (h : St base w0 (Asn.ownN bs t sz v n cs :: L) w) : OwnN w bs t sz v n cs := h.g0
theorem St.n1 {bs t sz n : Nat} {v : Value} {cs : List Value} (h : St base w0 (a :: Asn.ownN bs t sz v n cs :: L) w) : OwnN w bs t sz v n cs := h.g1
theorem St.n2 {bs t sz n : Nat} {v : Value} {cs : List Value} (h : St base w0 (a :: b :: Asn.ownN bs t sz v n cs :: L) w) : OwnN w bs t sz v n cs := h.g2
theorem St.n3 {bs t sz n : Nat} {v : Value} {cs : List Value} (h : St base w0 (a :: b :: c :: Asn.ownN bs t sz v n cs :: L) w) : OwnN w bs t sz v n cs := h.g3
theorem St.n4 {bs t sz n : Nat} {v : Value} {cs : List Value} (h : St base w0 (a :: b :: c :: d :: Asn.ownN bs t sz v n cs :: L) w) : OwnN w bs t sz v n cs := h.g4
theorem St.n5 {bs t sz n : Nat} {v : Value} {cs : List Value} (h : St base w0 (a :: b :: c :: d :: e :: Asn.ownN bs t sz v n cs :: L) w) : OwnN w bs t sz v n cs := h.g5
theorem St.nilN (h : St base w0 L w) (t sz : Nat) : St base w0 (Asn.ownN base t sz (.slice none 0 0) 0 [] :: L) w := h.push (a := Asn.ownN base t sz _ 0 []) (OwnN.nil _ _ _ _) fun k hk => by cases hk
theorem St.newN (h : St base w0 L w) (t sz : Nat) : St base w0 (Asn.ownN base t sz (.slice (some ⟨w.heap.size, 0, none⟩) 0 0) 0 [] :: L) (w.alloc (.cells #[] t)) :=
  h.allocPush (a := Asn.ownN base t sz _ 0 []) _ (OwnN.new w base t sz h.le) fun k hk => by
    have : w.heap.size = k := by simpa [Asn.ownN, Value.ownBlock] using hk
    exact this.symm
theorem St.appdN {t sz n n' gn m cap : Nat} {v : Value} {cs cs' : List Value} (h : St base w0 (Asn.ownN base t sz v n cs :: L) w) (hO : OwnN w' base t sz (.slice (some ⟨gn, 0, none⟩) m cap) n' cs') (hb : Below base w w') (hold : ∀ k, k < w.heap.size → v.ownBlock ≠ some k → w'.heap[k]? = w.heap[k]?)
    (hg : v.ownBlock = some gn ∨ w.heap.size ≤ gn) : St base w0 (Asn.ownN base t sz (.slice (some ⟨gn, 0, none⟩) m cap) n' cs' :: L) w' :=
  h.turn (a' := Asn.ownN base t sz _ n' cs') hO (fun k hk => by
    have e : gn = k := by simpa [Asn.ownN, Value.ownBlock] using hk
    subst e
    exact hg) (fun k hk => ((show OwnN w base t sz v n cs from h.star.1).lt k hk).1) hb fun k hk hne => hold k hk hne
theorem St.setN {t sz gn n cap : Nat} {cs : List Value} (h : St base w0 (Asn.ownN base t sz (.slice (some ⟨gn, 0, none⟩) n cap) n cs :: L) w) (i : Nat) (u : Value) : St base w0 (Asn.ownN base t sz (.slice (some ⟨gn, 0, none⟩) n cap) n (cs.set i u) :: L) (w.setCell ⟨gn, i, none⟩ u) :=
  have hb : base ≤ gn := ((show OwnN w base t sz _ n cs from h.star.1).lt gn rfl).1
  h.turn (a' := Asn.ownN base t sz _ n (cs.set i u)) (OwnN.set h.star.1 i u) (fun k hk => .inl hk) (fun k hk => ((show OwnN w base t sz _ n cs from h.star.1).lt k hk).1) ((Below.refl _ _).setCell hb u)
    fun k _ hk => heap_setCell_other w ⟨gn, i, none⟩ k u fun e => hk (show Value.ownBlock _ = some k by rw [e]; rfl)
theorem St.callN {t sz n : Nat} {v : Value} {cs : List Value} (h : St base w0 L w) (hb : Below w.heap.size w w') (ha : OwnN w' w.heap.size t sz v n cs) : St base w0 (Asn.ownN base t sz v n cs :: L) w' :=
  h.callPush (a := Asn.ownN base t sz v n cs) hb (ha.mono h.le) fun k hk => (ha.lt k hk).1
theorem St.appNw {ops : Array Oper} {rest : List Oper} {o : Oper} {act : Act} {Q : Exit → Act → World → Prop} (t e : TypeId) (z : Value) (sz bytes : Nat)
    (ht : Try.prog.underlying t = some (.slice e)) (hinfo : (Try.prog.info? e).map (fun i => (i.zero, i.size, i.bytes)) = some (some z, sz, bytes)) (hz : z.cells.size = sz) (hsz : 0 < sz) (hb : bytes ≤ 64)
    (hgd : o.guard = none) (s x : Operand) (ho : o.op = .call { callee := .builtin .append, args := #[s, x], argTypes := #[t, t] })
    (v : Value) (n : Nat) (cs : List Value) (hs : act.eval s = v) (hS : St base w0 (Asn.ownN base e sz v n cs :: L) W) (news : List Value) (hnl : news.length = sz) (hc1 : ∀ u ∈ news, u.oneCell' = true)
    (hx : act.eval x = .slice (some ⟨W.heap.size, 0, none⟩) 1 1) (hlen : n ≤ 1000000000)
    (h : ∀ g cap w', St base w0 (Asn.ownN base e sz (.slice (some ⟨g, 0, none⟩) (n + 1) cap) (n + 1) (cs ++ news) :: L) w' → wpList Try.prog ops Q rest (act.put o.dst (.slice (some ⟨g, 0, none⟩) (n + 1) cap)) w') :
    wpList Try.prog ops Q (o :: rest) act (W.alloc (.cells news.toArray e)) := by
  refine appN t e z sz bytes ht hinfo hz hsz hb hgd s x ho base v n cs hs hS.star.1 hS.le news hnl hc1 hx hlen ?_
  intro g cap w' h1 h2 h3 h4 h5
  exact h g cap w' (hS.appdN h1 h2 h3 (h5.imp id Nat.le_of_lt))
end
end Go.Proofs.Ytgpjcekpmhfljaa

/- The reference's machines with any number of states. -/
namespace Go.Proofs.Ytgpjcekpmhfljaa
open Go.RowKit
set_option linter.unusedVariables false
set_option linter.unusedSimpArgs false

/-- An element of several cells appended, at a step of a region that draws: it lies in a box. -/
theorem St.stepN {ops : Array Oper} {o : Oper} {act : Act} {W w0 : World} {K : Act → World → Prop} {Q : Exit → Act → World → Prop} {E : Prop} {L : List Asn} {base : Nat} (t e tb : TypeId) (z : Value) (sz bytes : Nat)
    (ht : Try.prog.underlying t = some (.slice e)) (hinfo : (Try.prog.info? e).map (fun i => (i.zero, i.size, i.bytes)) = some (some z, sz, bytes)) (hz : z.cells.size = sz) (hsz : 0 < sz) (hb : bytes ≤ 64)
    (hgd : o.guard = none) (s x : Operand) (ho : o.op = .call { callee := .builtin .append, args := #[s, x], argTypes := #[t, t] })
    (v : Value) (n : Nat) (cs : List Value) (hs : act.eval s = v) {B : Nat} {news : List Value} (hS : St base w0 (Asn.ownN base e sz v n cs :: Asn.blk B news.toArray tb :: L) W) (hnl : news.length = sz) (hc1 : ∀ u ∈ news, u.oneCell' = true)
    (hx : act.eval x = .slice (some ⟨B, 0, none⟩) 1 1) (hlen : n ≤ 1000000)
    (h : ∀ g cap w', St base w0 (Asn.ownN base e sz (.slice (some ⟨g, 0, none⟩) (n + 1) cap) (n + 1) (cs ++ news) :: Asn.blk B news.toArray tb :: L) w' → K (act.put o.dst (.slice (some ⟨g, 0, none⟩) (n + 1) cap)) w') :
    if Region.wanted o (yielded ops act.tmps) = true then Oper.wp Try.prog o act W K Q else E := by
  obtain ⟨i, hi, hz0, hz1, hz2⟩ := info_parts hinfo
  have hw : Region.wanted o (yielded ops act.tmps) = true := by simp [Region.wanted, hgd]
  rw [if_pos hw]
  have hown : OwnN W base e sz v n cs := hS.star.1
  refine wp_append_lies W s x t ho base e i z sz bytes ht hi hz0 hz1 hz2 hz hsz v n cs hs hown ⟨B, 0, none⟩ 1 1 news hx (by rw [hnl, Nat.one_mul])
    (fun j u hu => ?_) hc1 (by omega) (by simp only [maxLen]; omega) (Nat.le_trans (Nat.mul_le_mul_left _ hb) (by omega)) hS.le _ rfl ?_
  · rw [Addr.add_mid, Nat.zero_add, cell_of_row W B j _ _ _ hS.star.2.2.1]
    simpa using hu
  · intro g cap w' h1 h2 h3 h4
    have hold : ∀ k, k < W.heap.size → v.ownBlock ≠ some k → w'.heap[k]? = W.heap[k]? := fun k hk hne => h2.block k hk (fun e => hne e.symm)
    exact h g cap w' (hS.appdN h1 ⟨h2.os, h2.tape, h2.output, h2.size, fun k hk => hold k (by have := hS.le; omega) (fun e => by have := (hown.lt k e).1; omega)⟩ hold (h3.imp id (fun e => Nat.le_of_eq e.symm)))

theorem OwnN.oneCell {w : World} {b e sz n : Nat} {v : Value} {cs : List Value} (h : OwnN w b e sz v n cs) : v.oneCell' = true := by
  rcases h.2 with ⟨rfl, _⟩ | ⟨g, cap, cur, rfl, _⟩ <;> rfl
/-- A struct or an array in a block of its own is handed back. -/
theorem ret_blk {P : Program} {fn : Func} {R : Ending → World → Prop} {a : Act} {w : World} {p ty : Nat} (h : fn.results = #[.cell p ty]) {g t : Nat} {cs : Array Value} {d : TypeDesc}
    (hp : a.tmps.getD p undef = .pointer (some ⟨g, 0, none⟩)) (hb : w.heap[g]? = some (.cells cs t (0, 0))) (hu : P.underlying ty = some d) (hd : (match d with | .struct _ | .array _ _ => true | _ => false) = true)
    (hi : (P.info? ty).map (·.size) = some cs.size) (hdf : a.defers = []) (hR : R (.returned (.agg cs)) w) : bodyPost P fn R .ret a w :=
  bodyPost_ret (results_cell_row h a.tmps w g t _ _ d hp hb hu hd hi) hdf hR

/-- The rows of a function as cells, three a row. -/
def rcs (k : IntKind) (f : Nat → Nat → Nat) (L n : Nat) : List Value := (List.range (n * 3)).map fun p => .int k ((if p % 3 < L then f (p / 3) (p % 3) else 0 : Nat) : Int)
def rc1 (k : IntKind) (f : Nat → Nat → Nat) (L q : Nat) : List Value := (List.range 3).map fun x => .int k ((if x < L then f q x else 0 : Nat) : Int)
theorem rcs_length (k : IntKind) (f : Nat → Nat → Nat) (L n : Nat) : (rcs k f L n).length = n * 3 := by simp [rcs]
theorem rc1_one (k : IntKind) (f : Nat → Nat → Nat) (L q : Nat) : ∀ u ∈ rc1 k f L q, u.oneCell' = true := by
  intro u hu
  obtain ⟨x, _, rfl⟩ := List.mem_map.1 hu
  rfl
theorem rc1_lit (k : IntKind) (f : Nat → Nat → Nat) (L q : Nat) : ∃ a b c : Nat, rc1 k f L q = [.int k (a : Int), .int k (b : Int), .int k (c : Int)] := ⟨_, _, _, rfl⟩
theorem rc1_get (k : IntKind) (f : Nat → Nat → Nat) (L q x : Nat) (hx : x < 3) : (rc1 k f L q)[x]? = some (.int k ((if x < L then f q x else 0 : Nat) : Int)) := by simp [rc1, hx]
theorem rcs_snoc (k : IntKind) (f : Nat → Nat → Nat) (L n : Nat) : rcs k f L (n + 1) = rcs k f L n ++ rc1 k f L n := by
  unfold rcs rc1
  rw [show (n + 1) * 3 = n * 3 + 3 by omega, List.range_add, List.map_append, List.map_map]
  congr 1
  apply List.map_congr_left
  intro x hx
  have hx3 := List.mem_range.1 hx
  simp only [Function.comp]
  rw [show (n * 3 + x) % 3 = x by omega, show (n * 3 + x) / 3 = n by omega]
theorem rcs_get (k : IntKind) (f : Nat → Nat → Nat) (L n q x : Nat) (hq : q < n) (hx : x < 3) : (rcs k f L n)[q * 3 + x]? = some (.int k ((if x < L then f q x else 0 : Nat) : Int)) := by
  unfold rcs
  rw [List.getElem?_map, List.getElem?_range (by omega), Option.map_some, show (q * 3 + x) % 3 = x by omega, show (q * 3 + x) / 3 = q by omega]
theorem rcs_row (k : IntKind) (f : Nat → Nat → Nat) (L n q : Nat) (hq : q < n) : ∀ j, j < (rc1 k f L q).length → (rcs k f L n)[q * 3 + j]? = (rc1 k f L q)[j]? := fun j hj => by
  have hj3 : j < 3 := by simpa [rc1] using hj
  rw [rcs_get k f L n q j hq hj3, rc1_get k f L q j hj3]
theorem rcs_in (k : IntKind) (f : Nat → Nat → Nat) (L n q x : Nat) (hq : q < n) (hx : x < L) (hL : L ≤ 3) : (rcs k f L n)[q * 3 + x]? = some (.int k (f q x : Nat)) := by
  rw [rcs_get k f L n q x hq (by omega), if_pos hx]


/-- A row that is filled. -/
def fil3 (f : Nat → Nat → Nat) (q x : Nat) : Array Value := #[.int .i64 ((if 0 < x then f q 0 else 0 : Nat) : Int), .int .i64 ((if 1 < x then f q 1 else 0 : Nat) : Int), .int .i64 ((if 2 < x then f q 2 else 0 : Nat) : Int)]
theorem fil3_set (f : Nat → Nat → Nat) (q x : Nat) (hx : x < 3) : (fil3 f q x).setIfInBounds x (.int .i64 (f q x : Nat)) = fil3 f q (x + 1) := by
  have : x = 0 ∨ x = 1 ∨ x = 2 := by omega
  rcases this with rfl | rfl | rfl <;> simp [fil3, Array.setIfInBounds]
theorem fil3_all (f : Nat → Nat → Nat) (q L : Nat) : fil3 f q L = (rc1 .i64 f L q).toArray := rfl
theorem fil3_get (f : Nat → Nat → Nat) (q x j : Nat) (hj : j < 3) : ∃ u, (fil3 f q x)[j]? = some u := ⟨_, Array.getElem?_eq_getElem (by simpa [fil3] using hj)⟩

theorem mf_row {m : Mach} {l s : Nat} (g : Good m l s) (q : Nat) (hq : q < s) : ∀ j, j < 3 → mf m (50 + q * 3 + j) = .int .u8 ((if j < l then (tabOf m l s).ot q j else 0 : Nat) : Int) := fun j hj => by
  rw [mf_ot]
  by_cases h : j < l
  · rw [if_pos h]; rfl
  · rw [if_neg h, (g.z q j (by have := g.s16; omega) hj (fun hh => h hh.2)).2]

end Go.Proofs.Ytgpjcekpmhfljaa

/- The reference's least equal states of a large machine. -/
namespace Go.Proofs.Ytgpjcekpmhfljaa
open Go.RowKit
set_option linter.unusedVariables false
set_option linter.unusedSimpArgs false

/-- Equal rows of bytes. -/
theorem rc1_iff (f : Nat → Nat → Nat) (L a b : Nat) (hL : L ≤ 3) : rc1 .u8 f L a = rc1 .u8 f L b ↔ (alls L fun x => f a x == f b x) = true := by
  rw [alls_iff]
  constructor
  · intro h x hx
    have h1 := rc1_get .u8 f L a x (by omega)
    rw [h, rc1_get .u8 f L b x (by omega), if_pos hx, if_pos hx] at h1
    simp at h1; simp; omega
  · intro h
    unfold rc1
    apply List.map_congr_left
    intro x _
    by_cases hx : x < L
    · have := h x hx
      simp at this
      rw [if_pos hx, if_pos hx, this]
    · rw [if_neg hx, if_neg hx]
theorem lit3_iff {a b c a' b' c' : Nat} : ([Value.int .u8 (a : Int), .int .u8 (b : Int), .int .u8 (c : Int)] = [.int .u8 (a' : Int), .int .u8 (b' : Int), .int .u8 (c' : Int)]) ↔ a = a' ∧ b = b' ∧ c = c' := by
  constructor
  · intro h; simp at h; omega
  · rintro ⟨rfl, rfl, rfl⟩; rfl
theorem rc1_lit256 (f : Nat → Nat → Nat) (L q : Nat) (h : ∀ x, x < L → f q x < 256) : ∃ a b c : Nat, rc1 .u8 f L q = [.int .u8 (a : Int), .int .u8 (b : Int), .int .u8 (c : Int)] ∧ a < 256 ∧ b < 256 ∧ c < 256 := by
  have hx : ∀ x, (if x < L then f q x else 0) < 256 := fun x => by
    by_cases hx : x < L
    · rw [if_pos hx]; exact h x hx
    · rw [if_neg hx]; omega
  exact ⟨_, _, _, rfl, hx 0, hx 1, hx 2⟩
theorem clsL_stable {T : Tab} {k : Nat} (h : Stable T k) : clsL T (k + 1) T.n = clsL T k T.n := by
  unfold clsL
  apply List.map_congr_left
  intro q hq
  exact h q (List.mem_range.1 hq)
/-- A list filled up to q, with x at q. -/
theorem filL_at (f : Nat → Nat) (q n x : Nat) (hq : q < n) : ∀ j, j < n → ((nats (filL f q n)).set q (.int .i64 (x : Int)))[j]? = some (.int .i64 ((if j = q then x else if j < q then f j else 0 : Nat) : Int)) := fun j hj => by
  rw [List.getElem?_set]
  by_cases e : q = j
  · subst e; rw [if_pos rfl, if_pos (by rw [nats_length, filL_length]; exact hj), if_pos rfl]
  · rw [if_neg e, if_neg (Ne.symm e)]
    simp [nats, filL, hj]
theorem filL_done (f : Nat → Nat) (q n x : Nat) (h : x = f q) : (nats (filL f q n)).set q (.int .i64 (x : Int)) = nats (filL f (q + 1) n) := by subst h; exact filL_set f q n

end Go.Proofs.Ytgpjcekpmhfljaa

/- The machine of a state of a large machine: the reference's search. -/
namespace Go.Proofs.Ytgpjcekpmhfljaa
open Go.RowKit
set_option linter.unusedVariables false
set_option linter.unusedSimpArgs false

/-- The numbers of what has been met. -/
def nmL (st : List Nat) (n : Nat) : List Int := (List.range n).map fun c => if c ∈ st then ((st.idxOf c : Nat) : Int) else -1
theorem nmL_length (st : List Nat) (n : Nat) : (nmL st n).length = n := by simp [nmL]
theorem nmL_get (st : List Nat) (n c : Nat) (h : c < n) : (ints (nmL st n))[c]? = some (.int .i64 (if c ∈ st then ((st.idxOf c : Nat) : Int) else -1)) := by simp [ints, nmL, h]
theorem nmL_add (st : List Nat) (n c : Nat) (hc : c ∉ st) : (ints (nmL st n)).set c (.int .i64 (st.length : Nat)) = ints (nmL (st ++ [c]) n) := by
  apply List.ext_getElem?
  intro i
  rw [List.getElem?_set]
  by_cases h : i < n
  · rw [nmL_get _ _ _ h, nmL_get _ _ _ h]
    by_cases e : c = i
    · subst e
      rw [if_pos rfl, if_pos (by rw [ints_length, nmL_length]; exact h), if_pos (by simp), List.idxOf_append, if_neg hc]
      simp
    · rw [if_neg e]
      by_cases hm : i ∈ st
      · rw [if_pos hm, if_pos (by simp [hm]), List.idxOf_append, if_pos hm]
      · rw [if_neg hm, if_neg (by simp [hm]; exact fun e' => e e'.symm)]
  · have h1 : ∀ l, (ints (nmL l n))[i]? = none := fun l => List.getElem?_eq_none (by rw [ints_length, nmL_length]; omega)
    rw [h1, h1]
    by_cases e : c = i
    · rw [if_pos e, if_neg (by rw [ints_length, nmL_length]; omega)]
    · rw [if_neg e]
/-- A list that is filled with -1. -/
def filM (q n : Nat) : List Int := (List.range n).map fun j => if j < q then -1 else 0
theorem filM_length (q n : Nat) : (filM q n).length = n := by simp [filM]
theorem filM_zero (n : Nat) : List.replicate n (Value.int .i64 0) = ints (filM 0 n) := by
  apply List.ext_getElem?
  intro i
  by_cases h : i < n
  · simp [ints, filM, h]
  · simp [ints, filM, h]
theorem filM_set (q n : Nat) : (ints (filM q n)).set q (.int .i64 (-1)) = ints (filM (q + 1) n) := by
  apply List.ext_getElem?
  intro i
  rw [List.getElem?_set]
  by_cases hi : q = i
  · subst hi
    by_cases h : q < n
    · rw [if_pos rfl, if_pos (by simp [ints, filM]; exact h)]
      simp [ints, filM, h]
    · rw [if_pos rfl, if_neg (by simp [ints, filM]; omega)]
      simp [ints, filM, h]
  · rw [if_neg hi]
    by_cases h : i < n
    · simp only [ints, filM, List.getElem?_map, List.getElem?_range h, Option.map_some]
      by_cases hl : i < q
      · rw [if_pos hl, if_pos (by omega)]
      · rw [if_neg hl, if_neg (by omega)]
    · simp [ints, filM, h]
theorem filM_all (n : Nat) : filM n n = nmL [] n := by
  unfold filM nmL
  apply List.map_congr_left
  intro j hj
  rw [if_pos (List.mem_range.1 hj)]
  simp

/-- The reference's machine as far as it is written: the row i has its outputs already. -/
def gthS (T : Tab) (c : Nat → Nat) (st : List Nat) (i x : Nat) : Mach := ⟨T.L, st.length, (gthP T c st i x).nx, (gthP T c st (i + 1) 0).ot⟩
theorem gthS_row (T : Tab) (c : Nat → Nat) (st : List Nat) (i : Nat) (hL : T.L ≤ 3) : gthS T c st i T.L = gthP T c st (i + 1) 0 := by
  have h := gthP_row T c st i hL
  unfold gthS
  rw [h]
  rfl
theorem gthS_step (T : Tab) (c : Nat → Nat) (st : List Nat) (i x s : Nat) (hx : x < T.L) (hL : T.L ≤ 3) (hs : st[i]? = some s) :
    gthS T c st i (x + 1) = { (gthS T c st i x) with nx := upd (gthS T c st i x).nx (i * 3 + x) (st.idxOf (c (T.nx s x))) } := by
  have h := gthP_step T c st i x s hx hL hs
  unfold gthS
  rw [h]
theorem gthS_out (T : Tab) (c : Nat → Nat) (st : List Nat) (i s a0 a1 a2 : Nat) (hs : st[i]? = some s) (h0 : a0 = if 0 < T.L then T.ot s 0 else 0) (h1 : a1 = if 1 < T.L then T.ot s 1 else 0) (h2 : a2 = if 2 < T.L then T.ot s 2 else 0) :
    gthS T c st i 0 = { (gthP T c st i 0) with ot := upd (upd (upd (gthP T c st i 0).ot (i * 3 + 0) a0) (i * 3 + 1) a1) (i * 3 + 2) a2 } := by
  have hg : st.getD i 0 = s := by rw [List.getD_eq_getElem?_getD, hs]; rfl
  unfold gthS gthP upd
  dsimp only
  congr 1
  funext p
  by_cases e : p / 3 = i
  · have hp : p = i * 3 + 0 ∨ p = i * 3 + 1 ∨ p = i * 3 + 2 := by omega
    rcases hp with rfl | rfl | rfl
    · rw [if_neg (show ¬ i * 3 + 0 = i * 3 + 2 by omega), if_neg (show ¬ i * 3 + 0 = i * 3 + 1 by omega), if_pos rfl, h0, show (i * 3 + 0) / 3 = i by omega, show (i * 3 + 0) % 3 = 0 by omega, hg]
      by_cases hl : 0 < T.L
      · rw [if_pos hl, if_pos ⟨.inl (by omega), hl⟩]
      · rw [if_neg hl, if_neg (fun h => hl h.2)]
    · rw [if_neg (show ¬ i * 3 + 1 = i * 3 + 2 by omega), if_pos rfl, h1, show (i * 3 + 1) / 3 = i by omega, show (i * 3 + 1) % 3 = 1 by omega, hg]
      by_cases hl : 1 < T.L
      · rw [if_pos hl, if_pos ⟨.inl (by omega), hl⟩]
      · rw [if_neg hl, if_neg (fun h => hl h.2)]
    · rw [if_pos rfl, h2, show (i * 3 + 2) / 3 = i by omega, show (i * 3 + 2) % 3 = 2 by omega, hg]
      by_cases hl : 2 < T.L
      · rw [if_pos hl, if_pos ⟨.inl (by omega), hl⟩]
      · rw [if_neg hl, if_neg (fun h => hl h.2)]
  · rw [if_neg (show ¬ p = i * 3 + 2 by omega), if_neg (show ¬ p = i * 3 + 1 by omega), if_neg (show ¬ p = i * 3 + 0 by omega)]
    by_cases h : (p / 3 < i + 1 ∨ p / 3 = i + 1 ∧ p % 3 < 0) ∧ p % 3 < T.L
    · rw [if_pos h, if_pos ⟨by omega, h.2⟩]
    · rw [if_neg h, if_neg (fun h' => h ⟨by omega, h'.2⟩)]
def fromB (T : Tab) (q : Nat) : Bool := decide ((fin T (fix T) q).length ≤ 16)
theorem ret_mach_v {fn : Func} {R : Ending → World → Prop} {a : Act} {w : World} {p q : Nat} (h : fn.results = #[.cell p 29, .tmp q]) {g t : Nat} {m : Mach} {v : Value}
    (hp : a.tmps.getD p undef = .pointer (some ⟨g, 0, none⟩)) (hq : a.tmps.getD q undef = v) (hm : MB w t g m) (hdf : a.defers = []) (hR : R (.returned (.tuple #[.agg (mcells m), v])) w) : bodyPost Try.prog fn R .ret a w := by
  refine bodyPost_ret (v := .tuple #[.agg (mcells m), v]) ?_ hdf hR
  have hp' : a.tmps[p]?.getD undef = .pointer (some ⟨g, 0, none⟩) := by simpa using hp
  have hq' : a.tmps[q]?.getD undef = v := by simpa using hq
  have := run_loadVar_row (P := Try.prog) w g t 29 (mcells m) (0, 0) _ hm.heap Try.underlying29 rfl (by rw [size_mcells]; exact sz_mach)
  simp [results, h, hp', hq', asAddr, this]

end Go.Proofs.Ytgpjcekpmhfljaa

/- LevelPermutation: the program's and the reference's come to the same; the law's body. -/
namespace Go.Proofs.Ytgpjcekpmhfljaa
open Go.RowKit
set_option linter.unusedVariables false
set_option linter.unusedSimpArgs false

open Classical in
/-- What LevelPermutation answers. -/
noncomputable def levelAns (m : Mach) (q n : Int) : List Int × Int :=
  if IsM m then if (0 ≤ q ∧ q < m.S) ∧ 0 ≤ n ∧ n ≤ 5 then ((perm m m.L.toNat q.toNat n.toNat).map Int.ofNat, 0) else ([], 2) else ([], 1)
theorem levelAns_1 {m : Mach} {q n : Int} (h : ¬ IsM m) : levelAns m q n = ([], 1) := by unfold levelAns; rw [if_neg h]
theorem levelAns_2 {m : Mach} {q n : Int} {l s : Nat} (g : Good m l s) (h : ¬ ((0 ≤ q ∧ q < (s : Int)) ∧ 0 ≤ n ∧ n ≤ 5)) : levelAns m q n = ([], 2) := by unfold levelAns; rw [if_pos g.isM, g.S, if_neg h]
theorem levelAns_0 {m : Mach} {l s : Nat} (g : Good m l s) (q n : Nat) (hq : q < s) (hn : n ≤ 5) : levelAns m q n = ((perm m l q n).map Int.ofNat, 0) := by
  unfold levelAns
  rw [if_pos g.isM, g.S, g.L, if_pos (by omega)]
  rfl

theorem levelAns_len (m : Mach) (q n : Int) : (levelAns m q n).1.length < 999999 := by
  by_cases hm : IsM m
  · obtain ⟨l, s, g⟩ := hm.good
    by_cases h : (0 ≤ q ∧ q < (s : Int)) ∧ 0 ≤ n ∧ n ≤ 5
    · obtain ⟨q, rfl⟩ := Int.eq_ofNat_of_zero_le h.1.1
      obtain ⟨n, rfl⟩ := Int.eq_ofNat_of_zero_le h.2.1
      rw [levelAns_0 g q n (by omega) (by omega)]
      have := pw_small l n g.l3 (by omega)
      rw [List.length_map, perm_length]; omega
    · rw [levelAns_2 g h]; simp
  · rw [levelAns_1 hm]; simp
/-- Two that answer alike. -/
def AnsL (w : World) (A : List Int × Int) (e : Ending) (w' : World) : Prop := ∃ v, e = .returned (.tuple #[v, .int .i64 A.2]) ∧ Own w' w.heap.size 2 v (ints A.1) ∧ Below w.heap.size w w'


theorem codeI_one {m : Mach} {l s : Nat} {q : Int} (g : Good m l s) (hq : 0 ≤ q ∧ q < (s : Int)) : codeI m { data := #[] } [q] = 0 := codeI_0 g (isWd_nil _) (fun x hx => by simp at hx; subst hx; exact hq)
theorem codeI_bad {m : Mach} {l s : Nat} {q : Int} (g : Good m l s) (hq : ¬ (0 ≤ q ∧ q < (s : Int))) : codeI m { data := #[] } [q] = 2 := codeI_2 g (isWd_nil _) (fun h => hq (h q (by simp)))

end Go.Proofs.Ytgpjcekpmhfljaa

/- MachineOfState: what the program and the reference answer. -/
namespace Go.Proofs.Ytgpjcekpmhfljaa
open Go.RowKit
set_option linter.unusedVariables false
set_option linter.unusedSimpArgs false


open Classical in
/-- What MachineOfState answers. -/
noncomputable def mosAns (m : Mach) (q : Int) : Mach × Int := if codeI m { data := #[] } [q] = 0 then (fromM (tabOf m m.L.toNat m.S.toNat) q.toNat, 0) else (⟨0, 0, fun _ => 0, fun _ => 0⟩, codeI m { data := #[] } [q])
theorem mosAns_0 {m : Mach} {l s q : Nat} (g : Good m l s) (hq : q < s) : mosAns m q = (fromM (tabOf m l s) q, 0) := by
  unfold mosAns; rw [if_pos (codeI_one g ⟨by omega, by omega⟩), g.L, g.S]; rfl
theorem mosAns_2 {m : Mach} {l s : Nat} {q : Int} (g : Good m l s) (hq : ¬ (0 ≤ q ∧ q < (s : Int))) : mosAns m q = (⟨0, 0, fun _ => 0, fun _ => 0⟩, 2) := by
  unfold mosAns; rw [codeI_bad g hq, if_neg (by decide)]
theorem mosAns_1 {m : Mach} {q : Int} (hm : ¬ IsM m) : mosAns m q = (⟨0, 0, fun _ => 0, fun _ => 0⟩, 1) := by
  unfold mosAns; rw [codeI_1 hm, if_neg (by decide)]

theorem codeI_cases (m : Mach) (q : Int) : codeI m { data := #[] } [q] = 1 ∨ codeI m { data := #[] } [q] = 2 ∨ ∃ l s q', Good m l s ∧ q = ((q' : Nat) : Int) ∧ q' < s ∧ codeI m { data := #[] } [q] = 0 := by
  by_cases hm : IsM m
  · obtain ⟨l, s, g⟩ := hm.good
    by_cases hq : 0 ≤ q ∧ q < (s : Int)
    · obtain ⟨q', rfl⟩ := Int.eq_ofNat_of_zero_le hq.1
      exact .inr (.inr ⟨l, s, q', g, rfl, by omega, codeI_one g hq⟩)
    · exact .inr (.inl (codeI_bad g hq))
  · exact .inl (codeI_1 hm)


end Go.Proofs.Ytgpjcekpmhfljaa

/- The product of two states: the reference's side. -/
namespace Go.Proofs.Ytgpjcekpmhfljaa
open Go.RowKit
set_option linter.unusedVariables false
set_option linter.unusedSimpArgs false

/-- A row of bytes that is filled. -/
def fil3b (f : Nat → Nat → Nat) (q x : Nat) : Array Value := #[.int .u8 ((if 0 < x then f q 0 else 0 : Nat) : Int), .int .u8 ((if 1 < x then f q 1 else 0 : Nat) : Int), .int .u8 ((if 2 < x then f q 2 else 0 : Nat) : Int)]
theorem fil3b_set (f : Nat → Nat → Nat) (q x : Nat) (hx : x < 3) : (fil3b f q x).setIfInBounds x (.int .u8 (f q x : Nat)) = fil3b f q (x + 1) := by
  have : x = 0 ∨ x = 1 ∨ x = 2 := by omega
  rcases this with rfl | rfl | rfl <;> simp [fil3b, Array.setIfInBounds]
theorem fil3b_all (f : Nat → Nat → Nat) (q L : Nat) : fil3b f q L = (rc1 .u8 f L q).toArray := rfl
theorem fil3b_get (f : Nat → Nat → Nat) (q x j : Nat) (hj : j < 3) : ∃ u, (fil3b f q x)[j]? = some u := ⟨_, Array.getElem?_eq_getElem (by simpa [fil3b] using hj)⟩

end Go.Proofs.Ytgpjcekpmhfljaa

/- Two machines and a state of each: their code, in the program and in the reference. -/
namespace Go.Proofs.Ytgpjcekpmhfljaa
open Go.RowKit
set_option linter.unusedVariables false
set_option linter.unusedSimpArgs false

open Classical in
/-- The code of states of two machines. -/
noncomputable def pairI (m : Mach) (q : Int) (k : Mach) (r : Int) : Int := if IsM m ∧ IsM k then if (0 ≤ q ∧ q < m.S) ∧ (0 ≤ r ∧ r < k.S) ∧ m.L = k.L then 0 else 2 else 1

theorem pairI_cases (m : Mach) (q : Int) (k : Mach) (r : Int) : (pairI m q k r = 1 ∧ ¬ (IsM m ∧ IsM k)) ∨ (pairI m q k r = 2) ∨ ∃ l s s' q' r', Good m l s ∧ Good k l s' ∧ q = ((q' : Nat) : Int) ∧ q' < s ∧ r = ((r' : Nat) : Int) ∧ r' < s' ∧ pairI m q k r = 0 := by
  unfold pairI
  by_cases h : IsM m ∧ IsM k
  · rw [if_pos h]
    by_cases hq : (0 ≤ q ∧ q < m.S) ∧ (0 ≤ r ∧ r < k.S) ∧ m.L = k.L
    · rw [if_pos hq]
      obtain ⟨l, s, g⟩ := h.1.good
      obtain ⟨l', s', g'⟩ := h.2.good
      obtain ⟨q', rfl⟩ := Int.eq_ofNat_of_zero_le hq.1.1
      obtain ⟨r', rfl⟩ := Int.eq_ofNat_of_zero_le hq.2.1.1
      have e := hq.2.2
      rw [g.L, g'.L] at e
      have e' : l' = l := by omega
      rw [e'] at g'
      have h1 := hq.1.2; have h2 := hq.2.1.2
      rw [g.S] at h1; rw [g'.S] at h2
      exact .inr (.inr ⟨l, s, s', q', r', g, g', rfl, by omega, rfl, by omega, rfl⟩)
    · rw [if_neg hq]; exact .inr (.inl rfl)
  · rw [if_neg h]; exact .inl ⟨rfl, h⟩

end Go.Proofs.Ytgpjcekpmhfljaa

/- ProductOfStates: what the program and the reference answer. -/
namespace Go.Proofs.Ytgpjcekpmhfljaa
open Go.RowKit
set_option linter.unusedVariables false
set_option linter.unusedSimpArgs false

open Classical in
/-- What ProductOfStates answers. -/
noncomputable def posAns (m : Mach) (q : Int) (k : Mach) (r : Int) : Mach × Int := if pairI m q k r = 0 then (fromM (prodT m k m.L.toNat m.S.toNat k.S.toNat) (q.toNat * k.S.toNat + r.toNat), fromC (prodT m k m.L.toNat m.S.toNat k.S.toNat) (q.toNat * k.S.toNat + r.toNat)) else (⟨0, 0, fun _ => 0, fun _ => 0⟩, pairI m q k r)
theorem posAns_0 {m k : Mach} {l s s' q r : Nat} (g : Good m l s) (g' : Good k l s') (h : pairI m q k r = 0) : posAns m q k r = (fromM (prodT m k l s s') (q * s' + r), fromC (prodT m k l s s') (q * s' + r)) := by
  unfold posAns; rw [if_pos h, g.L, g.S, g'.S]; rfl
theorem posAns_n {m : Mach} {q : Int} {k : Mach} {r c : Int} (h : pairI m q k r = c) (hc : c ≠ 0) : posAns m q k r = (⟨0, 0, fun _ => 0, fun _ => 0⟩, c) := by
  unfold posAns; rw [h, if_neg hc]
theorem from_cases (T : Tab) (q : Nat) : (fromB T q = true ∧ fromC T q = 0) ∨ (fromB T q = false ∧ fromC T q = 3 ∧ fromM T q = ⟨0, 0, fun _ => 0, fun _ => 0⟩) := by
  unfold fromB fromC fromM
  by_cases h : (fin T (fix T) q).length ≤ 16
  · exact .inl ⟨decide_eq_true h, if_pos h⟩
  · exact .inr ⟨decide_eq_false h, if_neg h, if_neg h⟩

end Go.Proofs.Ytgpjcekpmhfljaa

/- OrderByPowers: what the program and the reference answer. -/
namespace Go.Proofs.Ytgpjcekpmhfljaa
open Go.RowKit
set_option linter.unusedVariables false
set_option linter.unusedSimpArgs false

/-- The next power, and its code. -/
def nextM (m : Mach) (l s q : Nat) (now : Mach) : Mach := fromM (prodT now m l now.S.toNat s) (0 * s + q)
def nextC (m : Mach) (l s q : Nat) (now : Mach) : Int := fromC (prodT now m l now.S.toNat s) (0 * s + q)
open Classical in
/-- The search. -/
noncomputable def ordGo (m : Mach) (l s q : Nat) : Nat → Nat → Mach → Int × Int
  | 0, _, _ => (0, 4)
  | f + 1, k, now => if nextC m l s q now = 0 then (if mcells (nextM m l s q now) = mcells (trivM l) then ((k : Int), 0) else ordGo m l s q f (k + 1) (nextM m l s q now)) else (0, 3)
open Classical in
noncomputable def obpAns (m : Mach) (q n : Int) : Int × Int :=
  if codeI m { data := #[] } [q] = 0 then (if 1 ≤ n ∧ n ≤ 16 then ordGo m m.L.toNat m.S.toNat q.toNat n.toNat 1 (trivM m.L.toNat) else (0, 2)) else (0, codeI m { data := #[] } [q])
theorem obpAns_n {m : Mach} {q n c : Int} (h : codeI m { data := #[] } [q] = c) (hc : c ≠ 0) : obpAns m q n = (0, c) := by
  unfold obpAns; rw [h, if_neg hc]
theorem obpAns_r {m : Mach} {q n : Int} (h : codeI m { data := #[] } [q] = 0) (hn : ¬ (1 ≤ n ∧ n ≤ 16)) : obpAns m q n = (0, 2) := by
  unfold obpAns; rw [h, if_pos rfl, if_neg hn]
theorem obpAns_0 {m : Mach} {l s q : Nat} {n : Nat} (g : Good m l s) (h : codeI m { data := #[] } [(q : Int)] = 0) (hn : 1 ≤ n ∧ n ≤ 16) : obpAns m q n = ordGo m l s q n 1 (trivM l) := by
  unfold obpAns; rw [h, if_pos rfl, if_pos (by omega), g.L, g.S]; rfl
theorem next_cases (m : Mach) (l s q : Nat) (hq : q < s) (g : Good m l s) (now : Mach) (sN : Nat) (gN : Good now l sN) :
    (nextC m l s q now = 3 ∧ fromB (prodT now m l sN s) (0 * s + q) = false) ∨ (nextC m l s q now = 0 ∧ fromB (prodT now m l sN s) (0 * s + q) = true ∧ ∃ s2, Good (nextM m l s q now) l s2 ∧ (nextM m l s q now).Ok) := by
  have e : now.S.toNat = sN := by rw [gN.S]; rfl
  have hin := prod_in (s' := s) (show 0 < sN from gN.s1) hq
  rcases from_cases (prodT now m l sN s) (0 * s + q) with ⟨h1, h2⟩ | ⟨h1, h2, _⟩
  · refine .inr ⟨by unfold nextC; rw [e]; exact h2, h1, ?_⟩
    obtain ⟨s2, g2⟩ := fromM_good (prod_ok gN g) hin g.l2 g.l3 (prod_o gN g) (prod_inj gN g) h2
    exact ⟨s2, by unfold nextM; rw [e]; exact g2, by unfold nextM; rw [e]; exact fromM_ok (prod_ok gN g) hin (prod_o256 gN g)⟩
  · exact .inl ⟨by unfold nextC; rw [e]; exact h2, h1⟩
theorem next_M (m : Mach) (l s q : Nat) (now : Mach) (sN : Nat) (gN : Good now l sN) : fromM (prodT now m l sN s) (0 * s + q) = nextM m l s q now ∧ fromC (prodT now m l sN s) (0 * s + q) = nextC m l s q now := by
  have e : now.S.toNat = sN := by rw [gN.S]; rfl
  unfold nextM nextC; rw [e]; exact ⟨rfl, rfl⟩
open Classical in
theorem eq_triv (m : Mach) (l s2 : Nat) (g : Good m l s2) (hk : m.Ok) : ∃ b : Bool, Hid (b = true ↔ mcells m = mcells (trivM l)) ∧ ∀ W : World, (Op.equalIn 10000 29 (.agg (mcells m)) (.agg (mcells (trivM l)))).run Try.prog W = .ok b W := by
  have l3 := g.l3; have s16 := g.s16
  exact ⟨_, hid decide_eq_true_iff, fun W => eq_mach W m (trivM l) hk (trivM_ok l l3) l s2 l 1 g.L g.S rfl rfl (by omega) (by omega) (by omega) (by omega) _ decide_eq_true_iff⟩
theorem ordGo_3 {m : Mach} {l s q f k : Nat} {now : Mach} (h : nextC m l s q now = 3) : ordGo m l s q (f + 1) k now = (0, 3) := by
  unfold ordGo; rw [h, if_neg (by decide)]
theorem ordGo_t {m : Mach} {l s q f k : Nat} {now : Mach} (h : nextC m l s q now = 0) (he : mcells (nextM m l s q now) = mcells (trivM l)) : ordGo m l s q (f + 1) k now = ((k : Int), 0) := by
  unfold ordGo; rw [if_pos h, if_pos he]
theorem ordGo_n {m : Mach} {l s q f k : Nat} {now : Mach} (h : nextC m l s q now = 0) (he : ¬ mcells (nextM m l s q now) = mcells (trivM l)) : ordGo m l s q (f + 1) k now = ordGo m l s q f (k + 1) (nextM m l s q now) := by
  conv => lhs; unfold ordGo
  rw [if_pos h, if_neg he]

end Go.Proofs.Ytgpjcekpmhfljaa

/- Products of lists of states: the program's productOf. -/
namespace Go.Proofs.Ytgpjcekpmhfljaa
open Go.RowKit
set_option linter.unusedVariables false
set_option linter.unusedSimpArgs false

/-- The product of a list, from what has been made: fs i is (machine, its states, the state). -/
def chn (fs : Nat → Mach × Nat × Nat) (l : Nat) : Nat → Nat → Mach → Mach × Int
  | 0, _, now => (now, 0)
  | f + 1, i, now => if nextC (fs i).1 l (fs i).2.1 (fs i).2.2 now = 0 then chn fs l f (i + 1) (nextM (fs i).1 l (fs i).2.1 (fs i).2.2 now) else (⟨0, 0, fun _ => 0, fun _ => 0⟩, 3)
theorem chn_3 {fs : Nat → Mach × Nat × Nat} {l f i : Nat} {now : Mach} (h : nextC (fs i).1 l (fs i).2.1 (fs i).2.2 now = 3) : chn fs l (f + 1) i now = (⟨0, 0, fun _ => 0, fun _ => 0⟩, 3) := by
  unfold chn; rw [h, if_neg (by decide)]
theorem chn_0 {fs : Nat → Mach × Nat × Nat} {l f i : Nat} {now : Mach} (h : nextC (fs i).1 l (fs i).2.1 (fs i).2.2 now = 0) : chn fs l (f + 1) i now = chn fs l f (i + 1) (nextM (fs i).1 l (fs i).2.1 (fs i).2.2 now) := by
  conv => lhs; unfold chn
  rw [if_pos h]

end Go.Proofs.Ytgpjcekpmhfljaa

/- Powers: the reference's l07Power. -/
namespace Go.Proofs.Ytgpjcekpmhfljaa
open Go.RowKit
set_option linter.unusedVariables false
set_option linter.unusedSimpArgs false

/-- The machine whose powers are made. -/
def powB (m : Mach) (l s : Nat) (n : Int) : Mach := if n < 0 then inv m l s else m
theorem powB_good {m : Mach} {l s : Nat} (g : Good m l s) (n : Int) : Good (powB m l s n) l s := by
  unfold powB; split
  · exact inv_good g
  · exact g
/-- A power. -/
def powR (m : Mach) (l s q : Nat) (n : Int) : Mach × Int := chn (fun _ => (powB m l s n, s, q)) l n.natAbs 0 (trivM l)

end Go.Proofs.Ytgpjcekpmhfljaa

/- copy of elements of any size, between rows. -/
namespace Go.Proofs.Ytgpjcekpmhfljaa
open Go.RowKit
set_option linter.unusedVariables false
set_option linter.unusedSimpArgs false

/-- As many elements as the shorter of the two has go over, sz cells each. -/
theorem run_copy_N {P : Program} (w : World) (dT sT ty elem : TypeId) (sz g o dLen dCap : Nat) (a : Addr) (sLen sCap : Nat) (cur : Array Value) (t : TypeId) (cs : List Value)
    (hu : P.underlying dT = some (.slice elem)) (hs : (P.info? elem).map (·.size) = some sz)
    (hg : w.heap[g]? = some (.cells cur t (0, 0))) (hn : cs.length = Nat.min sLen dLen * sz)
    (hsrc : ∀ j v, cs[j]? = some v → w.cell? (a.add j) = some v) (hfit : o + cs.length ≤ cur.size) (h1 : ∀ v ∈ cs, v.oneCell' = true) :
    (Builtin.copy_ #[dT, sT] ty #[.slice (some ⟨g, o, none⟩) dLen dCap, .slice (some a) sLen sCap]).run P w =
      .ok (goInt (Nat.min sLen dLen)) (w.setRow g (cur.toList.take o ++ cs ++ cur.toList.drop (o + cs.length)).toArray) := by
  have hl := run_loadCells_list (P := P) w a cs hsrc
  have hst := run_storeCells_at P g o t cs 0 cur w hg (by simpa using hfit) h1
  cases hq : P.info? elem with
  | none => simp [hq] at hs
  | some i =>
    have hi : i.size = sz := by simpa [hq] using hs
    rw [hn] at hl
    simp [Builtin.copy_, run_underlying hu, Builtin.lenOf, Builtin.firstCells, sizeOf, typeInfo, hq, hi, hl, hst]

/-- .. as a law for the walk. -/
theorem wpList_copy_N {P : Program} {w : World} {ops : Array Oper} {rest : List Oper} {o : Oper} {a : Act} {Q : Exit → Act → World → Prop} (hgd : o.guard = none) (d s : Operand) (dT sT : TypeId)
    (ho : o.op = .call { callee := .builtin .copy, args := #[d, s], argTypes := #[dT, sT] }) (elem : TypeId) (sz : Nat) (hu : P.underlying dT = some (.slice elem)) (hsz : (P.info? elem).map (·.size) = some sz)
    (g off dLen dCap : Nat) (ad : Addr) (sLen sCap : Nat) (hd : a.eval d = .slice (some ⟨g, off, none⟩) dLen dCap) (hs : a.eval s = .slice (some ad) sLen sCap)
    (cur : List Value) (t : TypeId) (hg : w.heap[g]? = some (.cells cur.toArray t (0, 0))) (cs : List Value) (hn : cs.length = Nat.min sLen dLen * sz)
    (hsrc : ∀ j v, cs[j]? = some v → w.cell? (ad.add j) = some v) (hfit : off + cs.length ≤ cur.length) (h1 : ∀ v ∈ cs, v.oneCell' = true)
    (h : wpList P ops Q rest (a.put o.dst (goInt (Nat.min sLen dLen))) (w.setRow g (splice cur off cs).toArray)) : wpList P ops Q (o :: rest) a w := by
  refine wpList_plain hgd fun K hK => ?_
  have hrun := run_copy_N (P := P) w dT sT o.type elem sz g off dLen dCap ad sLen sCap cur.toArray t cs hu hsz hg hn hsrc (by simpa using hfit) h1
  unfold Oper.wp
  simp [execOp, ho, resolve, invoke, builtin, hd, hs, hrun, Result.andThen]
  have e : w.setRow g (splice cur off cs).toArray = w.setRow g (List.take off cur ++ (cs ++ List.drop (off + cs.length) cur)).toArray := rfl
  first
    | exact hK _ _ h
    | (rw [e] at h; simpa using hK _ _ h)
end Go.Proofs.Ytgpjcekpmhfljaa

/- bits.Mul at 1 and small numbers. -/
namespace Go.Proofs.Ytgpjcekpmhfljaa
open Go.RowKit
set_option linter.unusedVariables false
set_option linter.unusedSimpArgs false
set_option maxRecDepth 4000 in
theorem bitsMul64_small (w : World) (n : Nat) (hn : n ≤ 16) :
    Calls Try.prog 139 #[.int .u64 1, .int .u64 n] w fun e w' => e = .returned (.tuple #[.int .u64 0, .int .u64 n]) ∧ w = w' := by
  have h : n = 0 ∨ n = 1 ∨ n = 2 ∨ n = 3 ∨ n = 4 ∨ n = 5 ∨ n = 6 ∨ n = 7 ∨ n = 8 ∨ n = 9 ∨ n = 10 ∨ n = 11 ∨ n = 12 ∨ n = 13 ∨ n = 14 ∨ n = 15 ∨ n = 16 := by omega
  clear hn
  rcases h with rfl | rfl | rfl | rfl | rfl | rfl | rfl | rfl | rfl | rfl | rfl | rfl | rfl | rfl | rfl | rfl | rfl <;>
  · go_enter Try.func139, Try.ntmps139
    go_wp2
    go_ret2
    exact ⟨rfl, rfl⟩
theorem bitsMul_small (w : World) (n : Nat) (hn : n ≤ 16) :
    Calls Try.prog 106 #[.int .u64 1, .int .u64 n] w fun e w' => e = .returned (.tuple #[.int .u64 0, .int .u64 n]) ∧ w = w' := by
  have hm := hid (fun W => bitsMul64_small W n hn)
  have xn : (n : Int) % 18446744073709551616 = n := by omega
  clear hn
  go_enter Try.func106, Try.ntmps106
  go_wp2_with (first
    | (go_at_call 139; (with_reducible refine (hm.out _).mono ?_); rintro e w1 ⟨rfl, rfl⟩))
  go_ret2
  exact ⟨rfl, rfl⟩
end Go.Proofs.Ytgpjcekpmhfljaa

/- slices.Repeat of one element, a few times. -/
namespace Go.Proofs.Ytgpjcekpmhfljaa
open Go.RowKit
set_option linter.unusedVariables false
set_option linter.unusedSimpArgs false
-- @LONG

/-- The cells cs, n times. -/
def rp (cs : List Value) (n : Nat) : List Value := (List.range (n * cs.length)).map fun j => cs.getD (j % cs.length) undef
theorem rp_length (cs : List Value) (n : Nat) : (rp cs n).length = n * cs.length := by simp [rp]
theorem rp_get (cs : List Value) (n j : Nat) (h : j < n * cs.length) : (rp cs n)[j]? = some (cs.getD (j % cs.length) undef) := by simp [rp, h]
theorem rp_at (cs : List Value) (n i j : Nat) (u : Value) (hi : i < n) (hu : cs[j]? = some u) : (rp cs n)[i * cs.length + j]? = some u := by
  have hj := (List.getElem?_eq_some_iff.1 hu).1
  have h1 : i * cs.length + cs.length ≤ n * cs.length := by rw [← Nat.succ_mul]; exact Nat.mul_le_mul_right _ hi
  rw [rp_get _ _ _ (by omega), Nat.mul_comm i, Nat.mul_add_mod, Nat.mod_eq_of_lt hj, List.getD_eq_getElem?_getD, hu]; rfl
theorem rp_one (cs : List Value) (n : Nat) (h1 : ∀ v ∈ cs, v.oneCell' = true) : ∀ v ∈ rp cs n, v.oneCell' = true := fun v hv => by
  unfold rp at hv
  obtain ⟨j, hj, rfl⟩ := List.mem_map.1 hv
  have hj' := List.mem_range.1 hj
  have hpos : 0 < cs.length := Nat.pos_of_ne_zero (fun e => by rw [e] at hj'; simp at hj')
  have hlt := Nat.mod_lt j hpos
  rw [List.getD_eq_getElem?_getD, List.getElem?_eq_getElem hlt]
  exact h1 _ (List.getElem_mem hlt)
/-- What is in the row when k elements are there. -/
def Rep (cs : List Value) (n k : Nat) (cur : List Value) : Prop := cur.length = n * cs.length ∧ ∀ j, j < k * cs.length → cur[j]? = (rp cs n)[j]?
theorem Rep.all {cs cur : List Value} {n : Nat} (h : Rep cs n n cur) : cur = rp cs n := by
  apply List.ext_getElem?
  intro j
  by_cases hj : j < n * cs.length
  · exact h.2 j hj
  · rw [List.getElem?_eq_none (by rw [h.1]; omega), List.getElem?_eq_none (by rw [rp_length]; omega)]
theorem Rep.step {cs cur : List Value} {n k c : Nat} (h : Rep cs n k cur) (hc : k + c ≤ n) : Rep cs n (k + c) (splice cur (k * cs.length) ((rp cs n).take (c * cs.length))) := by
  have e1 : k * cs.length + c * cs.length = (k + c) * cs.length := (Nat.add_mul _ _ _).symm
  have e2 : (k + c) * cs.length ≤ n * cs.length := Nat.mul_le_mul_right _ hc
  have hl : ((rp cs n).take (c * cs.length)).length = c * cs.length := by rw [List.length_take, rp_length]; omega
  refine ⟨by rw [length_splice _ _ _ (by rw [hl, h.1]; omega)]; exact h.1, fun j hj => ?_⟩
  unfold splice
  have hk : (cur.take (k * cs.length)).length = k * cs.length := by rw [List.length_take, h.1]; omega
  by_cases hj1 : j < k * cs.length
  · rw [List.getElem?_append_left (by omega), List.getElem?_take_of_lt hj1]
    exact h.2 j hj1
  · rw [List.getElem?_append_right (by omega), hk, List.getElem?_append_left (by omega), List.getElem?_take_of_lt (by omega), rp_get _ _ _ (by omega), rp_get _ _ _ (by omega)]
    have e3 : j % cs.length = (j - k * cs.length) % cs.length := by
      conv => lhs; rw [show j = k * cs.length + (j - k * cs.length) by omega, Nat.mul_comm k, Nat.mul_add_mod]
      rw [Nat.mul_comm k]
    rw [e3]
theorem Rep.zero {cs Z : List Value} {n : Nat} (h : Z.length = n * cs.length) : Rep cs n 0 Z := ⟨h, fun j hj => by omega⟩

/-- A part that is one block, its row anew. -/
theorem St.setRow {base bn : Nat} {w0 w : World} {L : List Asn} {cs : Array Value} {t : Nat} (h : St base w0 (Asn.blk bn cs t :: L) w) (hb : base ≤ bn) (cs' : Array Value) : St base w0 (Asn.blk bn cs' t :: L) (w.setRow bn cs') :=
  h.turn (a' := Asn.blk bn cs' t) (setRow_heap w bn _ _ t _ h.star.1) (fun k hk => .inl hk) (fun k hk => (show k = bn from hk) ▸ hb) (below_setRow (Below.refl _ _) hb _)
    fun k _ hk => setRow_other w bn k _ hk
/-- copy as a step of a region that draws. -/
theorem step_copy_N {P : Program} {ops : Array Oper} {o : Oper} {a : Act} {w : World} {K : Act → World → Prop} {Q : Exit → Act → World → Prop} {E : Prop} (hgd : o.guard = none) (d s : Operand) (dT sT : TypeId)
    (ho : o.op = .call { callee := .builtin .copy, args := #[d, s], argTypes := #[dT, sT] }) (elem : TypeId) (sz : Nat) (hu : P.underlying dT = some (.slice elem)) (hsz : (P.info? elem).map (·.size) = some sz)
    (g off dLen dCap : Nat) (ad : Addr) (sLen sCap : Nat) (hd : a.eval d = .slice (some ⟨g, off, none⟩) dLen dCap) (hs : a.eval s = .slice (some ad) sLen sCap)
    (cur : List Value) (t : TypeId) (hg : w.heap[g]? = some (.cells cur.toArray t (0, 0))) (cs : List Value) (hn : cs.length = Nat.min sLen dLen * sz)
    (hsrc : ∀ j v, cs[j]? = some v → w.cell? (ad.add j) = some v) (hfit : off + cs.length ≤ cur.length) (h1 : ∀ v ∈ cs, v.oneCell' = true)
    (h : K (a.put o.dst (goInt (Nat.min sLen dLen))) (w.setRow g (splice cur off cs).toArray)) :
    if Region.wanted o (yielded ops a.tmps) = true then Oper.wp P o a w K Q else E := by
  have hw : Region.wanted o (yielded ops a.tmps) = true := by simp [Region.wanted, hgd]
  rw [if_pos hw]
  have hrun := run_copy_N (P := P) w dT sT o.type elem sz g off dLen dCap ad sLen sCap cur.toArray t cs hu hsz hg hn hsrc (by simpa using hfit) h1
  unfold Oper.wp
  simp [execOp, ho, resolve, invoke, builtin, hd, hs, hrun, Result.andThen]
  have e : w.setRow g (splice cur off cs).toArray = w.setRow g (List.take off cur ++ (cs ++ List.drop (off + cs.length) cur)).toArray := rfl
  first
    | exact h
    | (rw [e] at h; simpa using h)
/-- The numbers of times that are asked for. -/
def Few (n : Nat) : Prop := n ≤ 16 ∨ n = 27 ∨ n = 32 ∨ n = 81

end Go.Proofs.Ytgpjcekpmhfljaa

/- bits.Mul at 1 and the sizes of levels. -/
namespace Go.Proofs.Ytgpjcekpmhfljaa
open Go.RowKit
set_option linter.unusedVariables false
set_option linter.unusedSimpArgs false
theorem Few.le {n : Nat} (h : Few n) : n ≤ 81 := by rcases h with h | h | h | h <;> omega
set_option maxRecDepth 4000 in
theorem bitsMul64_few (w : World) (n : Nat) (hn : Few n) :
    Calls Try.prog 139 #[.int .u64 1, .int .u64 n] w fun e w' => e = .returned (.tuple #[.int .u64 0, .int .u64 n]) ∧ w = w' := by
  rcases hn with hn | rfl | rfl | rfl
  · exact bitsMul64_small w n hn
  all_goals
    go_enter Try.func139, Try.ntmps139
    go_wp2
    go_ret2
    exact ⟨rfl, rfl⟩
theorem bitsMul_few (w : World) (n : Nat) (hn : Few n) :
    Calls Try.prog 106 #[.int .u64 1, .int .u64 n] w fun e w' => e = .returned (.tuple #[.int .u64 0, .int .u64 n]) ∧ w = w' := by
  have hm := hid (fun W => bitsMul64_few W n hn)
  have h81 := hn.le
  have xn : (n : Int) % 18446744073709551616 = n := by omega
  clear hn
  go_enter Try.func106, Try.ntmps106
  go_wp2_with (first
    | (go_at_call 139; (with_reducible refine (hm.out _).mono ?_); rintro e w1 ⟨rfl, rfl⟩))
  go_ret2
  exact ⟨rfl, rfl⟩
end Go.Proofs.Ytgpjcekpmhfljaa

/- slices.Repeat of one number, a few times. -/
namespace Go.Proofs.Ytgpjcekpmhfljaa
open Go.RowKit
set_option linter.unusedVariables false
set_option linter.unusedSimpArgs false
-- @LONG
theorem sz_i64 : (Try.prog.info? 2).map (·.size) = some 1 := by kernel_rfl
set_option maxHeartbeats 2000000 in
set_option maxRecDepth 4000 in
theorem repInt_any (w : World) (gs cap n : Nat) (cs : List Value) (hc : cs.length = 1) (h1 : ∀ v ∈ cs, v.oneCell' = true) (hf : Few n)
    (hsrc : ∀ j v, cs[j]? = some v → w.cell? ⟨gs, j, none⟩ = some v) (hgs : gs < w.heap.size) :
    Calls Try.prog 74 #[.slice (some ⟨gs, 0, none⟩) 1 cap, .int .i64 n] w fun e w' => e = .returned (.slice (some ⟨w.heap.size, 0, none⟩) n n) ∧ St w.heap.size w [Asn.blk w.heap.size (rp cs n).toArray 2] w' := by
  have hn := hf.le
  have hmk := fun W : World => run_make_row' (P := Try.prog) 34 2 (.int .i64 0) 8 Try.underlying34 info_i64 rfl .i64 .i64 n (by omega) (by omega) W
  have hmc := hid (toList_madeCells_one (.int .i64 0) n)
  generalize madeCells #[.int .i64 0] n = mc at *
  obtain ⟨Z, rfl⟩ : ∃ Z : List Value, mc = Z.toArray := ⟨mc.toList, by simp⟩
  have hZl := hid (show Z.length = n * cs.length by have h := congrArg List.length hmc.out; simp at h; rw [hc, h]; omega)
  clear hmc
  have hb := hid (fun W => bitsMul_few W n hf)
  have xn : (n : Int) % 18446744073709551616 = n := by omega
  have hS := hid ((St.start w).newBlk Z.toArray 2)
  replace hsrc := hid hsrc; replace h1 := hid h1; replace hc := hid hc
  go_enter Try.func74, Try.ntmps74
  go_upto_region 7 with (first
    | (go_at_call 106; (with_reducible refine (hb.out _).mono ?_); rintro e w1 ⟨rfl, rfl⟩))
  have hpre : Hid (∃ k : Nat, k = Nat.min 1 n ∧ k ≤ n ∧ (0 < n → 0 < k)) := ⟨_, rfl, by simp only [Nat.min_def]; split <;> omega, fun h => by simp only [Nat.min_def]; split <;> omega⟩
  obtain ⟨k0, hk0, hk0n, hk0p⟩ := hpre.out
  replace hk0 := hid hk0
  have pl := hid (show ((rp cs n).take (k0 * cs.length)).length = Nat.min 1 n * 1 by
    have h2 : k0 * cs.length ≤ n * cs.length := Nat.mul_le_mul_right _ hk0n
    rw [List.length_take, rp_length, ← hk0.out, hc.out] at *; omega)
  have psrc := hid (fun (W : World) (hW : Below w.heap.size w W) => (show ∀ j v, ((rp cs n).take (k0 * cs.length))[j]? = some v → W.cell? ((⟨gs, 0, none⟩ : Addr).add j) = some v from fun j v hv => by
    have hj := (List.getElem?_eq_some_iff.1 hv).1
    rw [pl.out, ← hk0.out] at hj
    have h01 : k0 ≤ 1 := by rw [hk0.out]; exact Nat.min_le_left _ _
    have h2 : j < cs.length := by rw [hc.out]; omega
    have h3 : k0 * cs.length ≤ n * cs.length := Nat.mul_le_mul_right _ hk0n
    rw [hc.out] at h3
    rw [List.getElem?_take_of_lt (by rw [hc.out]; omega), rp_get _ _ _ (by rw [hc.out]; omega), Nat.mod_eq_of_lt h2] at hv
    rw [Addr.add_mid, Nat.zero_add]
    refine (hW.cell (p := ⟨gs, j, none⟩) hgs).trans (hsrc.out j v ?_)
    rw [List.getD_eq_getElem?_getD, List.getElem?_eq_getElem h2] at hv
    rw [List.getElem?_eq_getElem h2]; exact hv))
  have pfit := hid (show 0 + ((rp cs n).take (k0 * cs.length)).length ≤ Z.length by
    have h2 : k0 * cs.length ≤ n * cs.length := Nat.mul_le_mul_right _ hk0n
    rw [List.length_take, rp_length, hZl.out]; omega)
  have pone := hid (fun v (hv : v ∈ (rp cs n).take (k0 * cs.length)) => rp_one cs n h1.out v (List.mem_of_mem_take hv))
  go_wp2_with (first
    | ((with_reducible refine gate (N := 33) rfl ?_); refine wpList_copy_N rfl _ _ _ _ rfl 2 1 Try.underlying34 sz_i64 w.heap.size 0 n n ⟨gs, 0, none⟩ 1 cap rfl rfl Z _ hS.out.k0 ((rp cs n).take (k0 * cs.length)) pl.out (psrc.out _ hS.out.bel) pfit.out pone.out ?_; replace hS := hid (hS.out.setRow (Nat.le_refl _) (splice Z 0 ((rp cs n).take (k0 * cs.length))).toArray)))
  have hR := hid (show Rep cs n k0 (splice Z 0 ((rp cs n).take (k0 * cs.length))) from by have h := Rep.step (c := k0) (Rep.zero hZl.out) (show 0 + k0 ≤ n by omega); rw [Nat.zero_add, Nat.zero_mul] at h; exact h)
  go_loopw [8] (fun i wr => ∃ (k : Nat) (cur : List Value), k ≤ n ∧ (0 < n → 0 < k) ∧ i = .int .i64 k ∧ Hid (Rep cs n k cur) ∧ St w.heap.size w [Asn.blk w.heap.size cur.toArray 2] wr) (fun i _ => n - (intOf i).toNat)
  case atStart => exact ⟨k0, _, hk0n, hk0p, by rw [hk0.out], hR, hS.out⟩
  case round =>
    obtain ⟨k, cur, hk, hkp, rfl, hR2, rS⟩ := hrel
    clear hS hR pl psrc pfit pone
    replace rS := hid rS
    by_cases hkn : k < n
    · have dc : decide ((k : Int) < (n : Int)) = true := decide_eq_true (by omega)
      have i0 : (0 : Int) ≤ (k : Int) := Int.natCast_nonneg _
      have i1 : (k : Int) ≤ (n : Int) := by omega
      have hnk : ¬ n = k := by omega
      obtain ⟨c, hcc⟩ : ∃ c, c = Nat.min k (n - k) := ⟨_, rfl⟩
      have hcn : k + c ≤ n := by rw [hcc]; show k + min k (n - k) ≤ n; omega
      have hck : c ≤ k := by rw [hcc]; exact Nat.min_le_left _ _
      have hcp : 0 < c := by rw [hcc]; show 0 < min k (n - k); omega
      replace hcc := hid hcc
      have ew : IntKind.i64.wrap ((k : Int) + (c : Int)) = ((k + c : Nat) : Int) := by rw [IntWalk.i64_in _ (by omega)]; rfl
      have m1 : k * cs.length + c * cs.length = (k + c) * cs.length := (Nat.add_mul _ _ _).symm
      have m2 : (k + c) * cs.length ≤ n * cs.length := Nat.mul_le_mul_right _ hcn
      have m3 : c * cs.length ≤ k * cs.length := Nat.mul_le_mul_right _ hck
      replace m1 := hid m1; replace m2 := hid m2; replace m3 := hid m3
      have pl := hid (show ((rp cs n).take (c * cs.length)).length = Nat.min k (n - k) * 1 by rw [List.length_take, rp_length, ← hcc.out, ← hc.out]; have := m1.out; have := m2.out; omega)
      have psrc := hid (fun (W : World) (hW : W.heap[w.heap.size]? = some (.cells cur.toArray 2 (0, 0))) => (show ∀ j v, ((rp cs n).take (c * cs.length))[j]? = some v → W.cell? ((⟨w.heap.size, 0, none⟩ : Addr).add j) = some v from fun j v hv => by
        have hj := (List.getElem?_eq_some_iff.1 hv).1
        rw [List.length_take] at hj
        rw [List.getElem?_take_of_lt (by omega), ← hR2.out.2 j (by have := m3.out; omega)] at hv
        rw [Addr.add_mid, Nat.zero_add, cell_of_row W w.heap.size j _ _ _ hW]
        simpa using hv))
      have pfit := hid (show k + ((rp cs n).take (c * cs.length)).length ≤ cur.length by rw [List.length_take, rp_length, hR2.out.1]; have h1 := m1.out; have h2 := m2.out; have h3 := hc.out; have h4 : k * cs.length = k := (by rw [h3, Nat.mul_one]); rw [h4] at h1; omega)
      have pone := hid (fun v (hv : v ∈ (rp cs n).take (c * cs.length)) => rp_one cs n h1.out v (List.mem_of_mem_take hv))
      have hR3 := hid (show Rep cs n (k + c) (splice cur k ((rp cs n).take (c * cs.length))) from by have h := hR2.out.step hcn; rw [show k * cs.length = k by rw [hc.out, Nat.mul_one]] at h; exact h)
      go_upto_region 9 with (fail)
      refine wp_region_heldL (L := []) (by kernel_rfl) HeldL.nil (fun hHeld => ?_)
      replace rS := hid rS.out.drew
      generalize wr.drew = wd at *
      refine wpAnyL_take0 (i := 0) (v := ?_) rfl (by kernel_rfl) (by kernel_rfl) (by kernel_rfl) (by rfl) (fun _ _ _ h => h) (Or.inl ⟨by rfl, ?_⟩) (by assumption) ?_
      rotate_left
      · (intro W _; go_simp; (with_reducible rfl))
      intro hHeld'
      clear hHeld; have hHeld := hHeld'; clear hHeld'
      try simp only [Act.put, List.getElem_toArray, List.getElem_cons_succ, List.getElem_cons_zero, List.setIfInBounds_toArray, List.set_cons_zero, List.set_cons_succ]
      refine wpAnyL_take0 (i := 1) (v := ?_) rfl (by kernel_rfl) (by kernel_rfl) (by kernel_rfl) (by rfl) (fun _ _ _ h => h) (Or.inl ⟨by rfl, ?_⟩) (by assumption) ?_
      rotate_left
      · (intro W _; go_simp; (with_reducible rfl))
      intro hHeld'
      clear hHeld; have hHeld := hHeld'; clear hHeld'
      try simp only [Act.put, List.getElem_toArray, List.getElem_cons_succ, List.getElem_cons_zero, List.setIfInBounds_toArray, List.set_cons_zero, List.set_cons_succ]
      refine wpAnyL_take0 (i := 2) (v := ?_) rfl (by kernel_rfl) (by kernel_rfl) (by kernel_rfl) (by rfl) (fun _ _ _ h => h) (Or.inl ⟨by rfl, ?_⟩) (by assumption) ?_
      rotate_left
      · (intro W _; go_simp; (with_reducible rfl))
      intro hHeld'
      clear hHeld; have hHeld := hHeld'; clear hHeld'
      try simp only [Act.put, List.getElem_toArray, List.getElem_cons_succ, List.getElem_cons_zero, List.setIfInBounds_toArray, List.set_cons_zero, List.set_cons_succ]
      refine wpAnyL_take0 (i := 3) (v := ?_) rfl (by kernel_rfl) (by kernel_rfl) (by kernel_rfl) (by rfl) (fun _ _ _ h => h) (Or.inl ⟨by rfl, ?_⟩) (by assumption) ?_
      rotate_left
      · (intro W _; go_simp; (with_reducible rfl))
      intro hHeld'
      clear hHeld; have hHeld := hHeld'; clear hHeld'
      try simp only [Act.put, List.getElem_toArray, List.getElem_cons_succ, List.getElem_cons_zero, List.setIfInBounds_toArray, List.set_cons_zero, List.set_cons_succ]
      refine wpAnyL_take0 (i := 4) (v := ?_) rfl (by kernel_rfl) (by kernel_rfl) (by kernel_rfl) (by rfl) (fun _ _ _ h => h) (Or.inl ⟨by rfl, ?_⟩) (by assumption) ?_
      rotate_left
      · (intro W _; go_simp; (with_reducible rfl))
      intro hHeld'
      clear hHeld; have hHeld := hHeld'; clear hHeld'
      try simp only [Act.put, List.getElem_toArray, List.getElem_cons_succ, List.getElem_cons_zero, List.setIfInBounds_toArray, List.set_cons_zero, List.set_cons_succ]
      refine wpAnyL_take0 (i := 5) (v := ?_) rfl (by kernel_rfl) (by kernel_rfl) (by kernel_rfl) (by rfl) (fun _ _ _ h => h) (Or.inl ⟨by rfl, ?_⟩) (by assumption) ?_
      rotate_left
      · (intro W _; go_simp; (with_reducible rfl))
      intro hHeld'
      clear hHeld; have hHeld := hHeld'; clear hHeld'
      try simp only [Act.put, List.getElem_toArray, List.getElem_cons_succ, List.getElem_cons_zero, List.setIfInBounds_toArray, List.set_cons_zero, List.set_cons_succ]
      refine wpAnyL_take0 (i := 6) (v := ?_) rfl (by kernel_rfl) (by kernel_rfl) (by kernel_rfl) (by rfl) (fun _ _ _ h => h) (Or.inl ⟨by rfl, ?_⟩) (by assumption) ?_
      rotate_left
      · (intro W _; go_simp; (with_reducible rfl))
      intro hHeld'
      clear hHeld; have hHeld := hHeld'; clear hHeld'
      try simp only [Act.put, List.getElem_toArray, List.getElem_cons_succ, List.getElem_cons_zero, List.setIfInBounds_toArray, List.set_cons_zero, List.set_cons_succ]
      refine wpAnyL_ready (rs := [7]) (by kernel_rfl) (by simp) ?_
      refine AllReadyL.cons rfl (fun K hK => ?_) AllReadyL.nil
      refine step_copy_N rfl _ _ _ _ rfl 2 1 Try.underlying34 sz_i64 w.heap.size k (n - k) (n - k) ⟨w.heap.size, 0, none⟩ k n rfl rfl cur _ rS.out.k0 ((rp cs n).take (c * cs.length)) (by rw [pl.out]) (psrc.out _ rS.out.k0) pfit.out pone.out ?_
      replace rS := hid (rS.out.setRow (Nat.le_refl _) (splice cur k ((rp cs n).take (c * cs.length))).toArray)
      generalize wd.setRow w.heap.size (splice cur k ((rp cs n).take (c * cs.length))).toArray = we at *
      rw [← hcc.out]
      refine hK.out _ _ (HeldL.nil) (fun hHeld' => ?_)
      clear hK K hHeld; have hHeld := hHeld'; clear hHeld'
      try simp only [Act.put, List.getElem_toArray, List.getElem_cons_succ, List.getElem_cons_zero, List.setIfInBounds_toArray, List.set_cons_zero, List.set_cons_succ]
      refine wpAnyL_take0 (i := 8) (v := ?_) rfl (by kernel_rfl) (by kernel_rfl) (by kernel_rfl) (by rfl) (fun _ _ _ h => h) (Or.inl ⟨by rfl, ?_⟩) (by assumption) ?_
      rotate_left
      · (intro W _; go_simp; (with_reducible rfl))
      intro hHeld'
      clear hHeld; have hHeld := hHeld'; clear hHeld'
      try simp only [Act.put, List.getElem_toArray, List.getElem_cons_succ, List.getElem_cons_zero, List.setIfInBounds_toArray, List.set_cons_zero, List.set_cons_succ]
      refine wpAnyL_take0 (i := 9) (v := ?_) rfl (by kernel_rfl) (by kernel_rfl) (by kernel_rfl) (by rfl) (fun _ _ _ h => h) (Or.inl ⟨by rfl, ?_⟩) (by assumption) ?_
      rotate_left
      · (intro W _; go_simp; (with_reducible rfl))
      intro hHeld'
      clear hHeld; have hHeld := hHeld'; clear hHeld'
      try simp only [Act.put, List.getElem_toArray, List.getElem_cons_succ, List.getElem_cons_zero, List.setIfInBounds_toArray, List.set_cons_zero, List.set_cons_succ]
      refine wpAnyL_done (by kernel_rfl) ?_ _
      go_wp2
      go_roundw
      case rel => exact ⟨k + c, _, hcn, fun _ => by omega, by go_num, hR3, rS.out⟩
      case measure => simp [intOf]; omega
    · obtain rfl : k = n := by omega
      have dc : decide ((k : Int) < (k : Int)) = false := decide_eq_false (by omega)
      have hall := hid hR2.out.all
      go_wp2
      go_ret
      exact ⟨rfl, by rw [← hall.out]; exact rS.out⟩
end Go.Proofs.Ytgpjcekpmhfljaa
