/- What the proof of FnLevels leans on, part 8 of 19. -/
import Derived.Test.YthmcdfjijkecfaaGreatZFnLevelsG
/- The product of two states: the program's side. -/
namespace Go.Proofs.YthmcdfjijkecfaaGreat
open Go.RowKit
set_option linter.unusedVariables false
set_option linter.unusedSimpArgs false

/-- The table of a product. -/
def prodT (m k : Mach) (l s s' : Nat) : Tab := ⟨s * s', l, fun p x => m.nx (p / s' * 3 + x) * s' + k.nx (p % s' * 3 + m.ot (p / s' * 3 + x)), fun p x => k.ot (p % s' * 3 + m.ot (p / s' * 3 + x))⟩
section
variable {m k : Mach} {l s s' : Nat}
theorem prod_nx (m k : Mach) (l s : Nat) {a b P : Nat} (x : Nat) (hb : b < s') (hP : P = a * s') : (prodT m k l s s').nx (P + b) x = m.nx (a * 3 + x) * s' + k.nx (b * 3 + m.ot (a * 3 + x)) := by
  have e1 : (P + b) / s' = a := by rw [hP, Nat.mul_comm, Nat.mul_add_div (by omega), Nat.div_eq_of_lt hb, Nat.add_zero]
  have e2 : (P + b) % s' = b := by rw [hP, Nat.mul_comm, Nat.mul_add_mod, Nat.mod_eq_of_lt hb]
  simp only [prodT, e1, e2]
theorem prod_ot (m k : Mach) (l s : Nat) {a b P : Nat} (x : Nat) (hb : b < s') (hP : P = a * s') : (prodT m k l s s').ot (P + b) x = k.ot (b * 3 + m.ot (a * 3 + x)) := by
  have e1 : (P + b) / s' = a := by rw [hP, Nat.mul_comm, Nat.mul_add_div (by omega), Nat.div_eq_of_lt hb, Nat.add_zero]
  have e2 : (P + b) % s' = b := by rw [hP, Nat.mul_comm, Nat.mul_add_mod, Nat.mod_eq_of_lt hb]
  simp only [prodT, e1, e2]
theorem prod_split {p : Nat} (hp : p < s * s') : p / s' < s ∧ p % s' < s' := by
  have h0 : 0 < s' := Nat.pos_of_ne_zero (fun h => by rw [h] at hp; simp at hp)
  exact ⟨Nat.div_lt_of_lt_mul (by rw [Nat.mul_comm]; exact hp), Nat.mod_lt _ h0⟩
theorem prod_in {a b : Nat} (ha : a < s) (hb : b < s') : a * s' + b < s * s' := by
  have h1 : a * s' + s' ≤ s * s' := by rw [← Nat.succ_mul]; exact Nat.mul_le_mul_right _ ha
  omega
theorem prod_ok (g : Good m l s) (g' : Good k l s') : (prodT m k l s s').Ok := by
  refine ⟨Nat.mul_pos g.s1 g'.s1, fun p x hp hx => ?_⟩
  obtain ⟨h1, h2⟩ := prod_split hp
  exact prod_in (g.nx _ x h1 hx) (g'.nx _ _ h2 (g.ot _ x h1 hx))
theorem prod_o (g : Good m l s) (g' : Good k l s') : ∀ p x, p < (prodT m k l s s').n → x < (prodT m k l s s').L → (prodT m k l s s').ot p x < (prodT m k l s s').L := fun p x hp hx => by
  obtain ⟨h1, h2⟩ := prod_split hp
  exact g'.ot _ _ h2 (g.ot _ x h1 hx)
theorem prod_o256 (g : Good m l s) (g' : Good k l s') : ∀ p x, p < (prodT m k l s s').n → x < (prodT m k l s s').L → (prodT m k l s s').ot p x < 256 := fun p x hp hx => by
  have h := prod_o g g' p x hp hx
  have : (prodT m k l s s').L = l := rfl
  have := g.l3
  omega
theorem prod_inj (g : Good m l s) (g' : Good k l s') : ∀ p, p < (prodT m k l s s').n → ∀ y x, y < x → x < (prodT m k l s s').L → (prodT m k l s s').ot p y ≠ (prodT m k l s s').ot p x := fun p hp y x hy hx => by
  obtain ⟨h1, h2⟩ := prod_split hp
  have hx' : x < l := hx
  have i := g.inj _ h1 y x hy hx'
  have o1 := g.ot _ y h1 (by omega)
  have o2 := g.ot _ x h1 hx'
  show k.ot _ ≠ k.ot _
  rcases Nat.lt_or_gt_of_ne i with h | h
  · exact g'.inj _ h2 _ _ h o2
  · exact (g'.inj _ h2 _ _ h o1).symm
theorem prod_n (g : Good m l s) (g' : Good k l s') : (prodT m k l s s').n ≤ 256 := by
  show s * s' ≤ 256
  exact Nat.mul_le_mul g.s16 g'.s16
end

set_option maxHeartbeats 8000000 in
set_option maxRecDepth 100000 in
theorem product_any (b1 b2 : Nat) (w : World) (m k : Mach) (hm : MB w 27 b1 m) (hk : MB w 27 b2 k) (l s s' : Nat) (g : Good m l s) (g' : Good k l s') (q r : Nat) (hq : q < s) (hr : r < s') :
    Calls Tryz.prog 82 #[.pointer (some ⟨b1, 0, none⟩), .int .i64 q, .pointer (some ⟨b2, 0, none⟩), .int .i64 r] w fun e w' => e = .returned (.tuple #[.agg (mcells (fromM (prodT m k l s s') (q * s' + r))), .int .i64 (fromC (prodT m k l s s') (q * s' + r))]) ∧ Below w.heap.size w w' := by
  have hz := zero_mach
  have hB0 := below_alloc (Below.refl w.heap.size w) (Nat.le_refl _) (.cells (mcells ⟨0, 0, fun _ => 0, fun _ => 0⟩) 27)
  have hBel := hid (fun W (hb : Below (w.heap.size + 1) (w.alloc (.cells (mcells ⟨0, 0, fun _ => 0, fun _ => 0⟩) 27)) W) => hB0.trans (hb.mono (Nat.le_succ _)))
  have hml := hid (fun W (hb : Below w.heap.size w W) => (show MB W 27 b1 m ∧ W.cell? ⟨b1, 0, none⟩ = some (.int .i64 (l : Int)) ∧ W.cell? ⟨b1, 1, none⟩ = some (.int .i64 (s : Int)) from ⟨hm.below hb hm.lt, by have h := (hm.below hb hm.lt).cL; rw [g.L] at h; exact h, by have h := (hm.below hb hm.lt).cS; rw [g.S] at h; exact h⟩))
  have hkl := hid (fun W (hb : Below w.heap.size w W) => (show MB W 27 b2 k ∧ W.cell? ⟨b2, 1, none⟩ = some (.int .i64 (s' : Int)) from ⟨hk.below hb hk.lt, by have h := (hk.below hb hk.lt).cS; rw [g'.S] at h; exact h⟩))
  have hZ := hid (fun W (hb : Below (w.heap.size + 1) (w.alloc (.cells (mcells ⟨0, 0, fun _ => 0, fun _ => 0⟩) 27)) W) => (MB.new w ⟨0, 0, fun _ => 0, fun _ => 0⟩ 27).below hb (Nat.lt_succ_self _))
  have l2 := g.l2
  have l3 := g.l3
  have s16 := g.s16
  have s16' := g'.s16
  have hlt := hid (fun a b x (ha : a < s) (hb : b < s') (hx : x < l) => (show m.nx (a * 3 + x) < 16 ∧ m.ot (a * 3 + x) < 3 ∧ k.nx (b * 3 + m.ot (a * 3 + x)) < 16 ∧ k.ot (b * 3 + m.ot (a * 3 + x)) < 3 from by
    have h1 := g.nx a x ha hx; have h2 := g.ot a x ha hx; have h3 := g'.nx b _ hb h2; have h4 := g'.ot b _ hb h2
    exact ⟨by omega, by omega, by omega, by omega⟩))
  have hTn := hid (show (prodT m k l s s').n = s * s' from rfl)
  have hTL := hid (show (prodT m k l s s').L = l from rfl)
  have hmf := hid (fun W G vN vO hW => machineFrom_any W G (q * s' + r) vN vO (prodT m k l s s') (prod_ok g g') g.l3 (by show 0 < l; omega) (Nat.lt_of_le_of_lt (prod_n g g') (by omega)) hW (prod_o256 g g') (prod_in hq hr))
  rw [hTL.out] at hmf
  have eN := hid (fun a b P x => prod_nx (a := a) (b := b) (P := P) (s' := s') m k l s x)
  have eO := hid (fun a b P x => prod_ot (a := a) (b := b) (P := P) (s' := s') m k l s x)
  have hS := (St.start (w.alloc (.cells (mcells ⟨0, 0, fun _ => 0, fun _ => 0⟩) 27))).newBlk #[.slice none 0 0, .slice none 0 0] 105
  simp only [heap_alloc_size] at hS
  have hS2 := hid (show St (w.heap.size + 1) _ [Asn.blk (w.heap.size + 1) #[.slice none 0 0, .slice none 0 0] 105, Asn.mat (w.heap.size + 1) (.slice none 0 0) [] [], Asn.mat (w.heap.size + 1) (.slice none 0 0) [] []] _ from
    ((hS.push (a := Asn.mat (w.heap.size + 1) (.slice none 0 0) [] []) ⟨Own.nil _ _ _, rfl, fun i r l h => by simp at h⟩ (fun k hk => by rcases hk with hk | ⟨r, hr, _⟩ <;> simp [Value.ownBlock] at *)).push (a := Asn.mat (w.heap.size + 1) (.slice none 0 0) [] []) ⟨Own.nil _ _ _, rfl, fun i r l h => by simp at h⟩ (fun k hk => by rcases hk with hk | ⟨r, hr, _⟩ <;> simp [Value.ownBlock] at *)).f2)
  have c0 := (hml.out _ (hBel.out _ hS2.out.bel)).2.2
  have hqs := hid hq; have hrs := hid hr
  obtain ⟨V0, hV0⟩ : ∃ V, V = q * s' := ⟨_, rfl⟩
  have hVb0 : V0 ≤ 256 := by rw [hV0]; exact Nat.mul_le_mul (Nat.le_trans (Nat.le_of_lt hq) s16) s16'
  have hu1 : IntKind.i64.wrap ((q : Int) * (s' : Int)) = (V0 : Int) := by rw [show (q : Int) * (s' : Int) = (V0 : Int) by rw [hV0]; exact (Int.natCast_mul _ _).symm]; exact IntWalk.i64_in _ (by omega)
  rw [← hV0] at hmf ⊢
  replace hV0 := hid hV0
  clear hS hm hk g g' hB0 hq hr
  have hS := hS2
  clear hS2
  generalize fromC (prodT m k l s s') (V0 + r) = fc at *
  generalize fromM (prodT m k l s s') (V0 + r) = fm at *
  generalize hgT : prodT m k l s s' = T at *
  clear hgT
  generalize mcells ⟨0, 0, fun _ => 0, fun _ => 0⟩ = zs at *
  replace hu1 := hid hu1
  go_enter Tryz.func82, Tryz.ntmps82
  go_wp2
  clear c0
  go_loopw [23] (fun i wr => ∃ a P : Nat, a ≤ s ∧ Hid (P = a * s') ∧ i = .int .i64 a ∧ ∃ vN vO rN rO, St (w.heap.size + 1) (w.alloc (.cells zs 27)) [Asn.blk (w.heap.size + 1) #[vN, vO] 105, Asn.mat (w.heap.size + 1) vN rN (tbL T.nx P l), Asn.mat (w.heap.size + 1) vO rO (tbL T.ot P l)] wr) (fun i _ => s - (intOf i).toNat)
  case atStart => exact ⟨0, 0, Nat.zero_le _, hid (Nat.zero_mul _).symm, rfl, _, _, _, _, hS.out⟩
  case round =>
    obtain ⟨a, P, ha, hP, rfl, vN, vO, rN, rO, rS⟩ := hrel
    clear hS
    replace rS := hid rS
    by_cases has : a < s
    · have hc := (hkl.out _ (hBel.out _ rS.out.bel)).2
      go_wp2
      clear hc
      go_loopw [30] (fun i wr => ∃ b : Nat, b ≤ s' ∧ i = .int .i64 b ∧ ∃ vN vO rN rO, St (w.heap.size + 1) (w.alloc (.cells zs 27)) [Asn.blk (w.heap.size + 1) #[vN, vO] 105, Asn.mat (w.heap.size + 1) vN rN (tbL T.nx (P + b) l), Asn.mat (w.heap.size + 1) vO rO (tbL T.ot (P + b) l)] wr) (fun i _ => s' - (intOf i).toNat)
      case atStart => exact ⟨0, Nat.zero_le _, rfl, _, _, _, _, rS.out⟩
      case round =>
        obtain ⟨b, hb, rfl, vN, vO, rN, rO, tS⟩ := hrel
        clear rS
        replace tS := hid tS
        by_cases hbs : b < s'
        · have hc := (hml.out _ (hBel.out _ tS.out.bel)).2.1
          have rS2 := hid ((tS.out.nilOwn 2).nilOwn 2)
          go_wp2
          clear hc
          go_loopw [13, 14, 37] (fun u v i wr => ∃ x : Nat, x ≤ l ∧ i = .int .i64 x ∧ St (w.heap.size + 1) (w.alloc (.cells zs 27)) [Asn.own (w.heap.size + 1) 2 u (ints (rwI T.nx (P + b) x)), Asn.own (w.heap.size + 1) 2 v (ints (rwI T.ot (P + b) x)), Asn.blk (w.heap.size + 1) #[vN, vO] 105, Asn.mat (w.heap.size + 1) vN rN (tbL T.nx (P + b) l), Asn.mat (w.heap.size + 1) vO rO (tbL T.ot (P + b) l)] wr) (fun _ _ i _ => l - (intOf i).toNat)
          case atStart => exact ⟨0, Nat.zero_le _, rfl, rS2.out⟩
          case round =>
            obtain ⟨x, hx, rfl, yS⟩ := hrel
            clear tS rS2
            replace yS := hid yS
            have hlN := hid (show (ints (rwI T.nx (P + b) x)).length = x by rw [ints_length, rwI_length])
            have hlO := hid (show (ints (rwI T.ot (P + b) x)).length = x by rw [ints_length, rwI_length])
            by_cases hxl : x < l
            · obtain ⟨t1, t2, t3, t4⟩ := hlt.out a b x has hbs hxl
              have hn1 := hid (fun W hW => next_any b1 W m hW a x (by omega) (by omega) (by omega))
              have ho1 := hid (fun W hW => out_any b1 W m hW a x (by omega) (by omega) (by omega))
              have hn2 := hid (fun W hW => next_any b2 W k hW b (m.ot (a * 3 + x)) (by omega) (by omega) (by omega))
              have ho2 := hid (fun W hW => out_any b2 W k hW b (m.ot (a * 3 + x)) (by omega) (by omega) (by omega))
              have eF := eN.out a b P x hbs hP.out
              have eG := eO.out a b P x hbs hP.out
              obtain ⟨V, hV⟩ : ∃ V, V = m.nx (a * 3 + x) * s' := ⟨_, rfl⟩
              have hVb : V ≤ 256 := by rw [hV]; exact Nat.mul_le_mul (Nat.le_of_lt t1) s16'
              have hw1 : IntKind.i64.wrap ((m.nx (a * 3 + x) : Int) * (s' : Int)) = (V : Int) := by rw [show (m.nx (a * 3 + x) : Int) * (s' : Int) = (V : Int) by rw [hV]; exact (Int.natCast_mul _ _).symm]; exact IntWalk.i64_in _ (by omega)
              rw [← hV] at eF
              clear hV
              generalize k.ot (b * 3 + m.ot (a * 3 + x)) = o2 at *
              generalize k.nx (b * 3 + m.ot (a * 3 + x)) = v2 at *
              generalize m.ot (a * 3 + x) = y at *
              generalize m.nx (a * 3 + x) = v1 at *
              have hw2 : IntKind.i64.wrap ((V : Int) + (v2 : Int)) = ((V + v2 : Nat) : Int) := by rw [show (V : Int) + (v2 : Int) = ((V + v2 : Nat) : Int) by omega]; exact IntWalk.i64_in _ (by omega)
              have hsN := hid (rwI_snoc T.nx (P + b) x)
              have hsO := hid (rwI_snoc T.ot (P + b) x)
              rw [eF] at hsN
              rw [eG] at hsO
              clear eF eG
              generalize V + v2 = F at *
              go_upto_region 13 with (first
                | (go_at_call 176; (with_reducible refine (ho1.out _ (hml.out _ (hBel.out _ yS.out.bel)).1).mono ?_); rintro e w3 ⟨rfl, rfl⟩))
              have hg' := hid yS.out.drew; clear yS; have yS := hg'; clear hg'
              refine wp_region_heldL (L := [(23, (fun w' : World => w'.cell? ⟨b2, 1, none⟩ = some (.int .i64 (s' : Int))))]) (by kernel_rfl) (HeldL.cons (fun _ => (hkl.out _ (hBel.out _ yS.out.bel)).2) HeldL.nil) (fun hHeld => ?_)
              generalize wr.drew = wd at *
              refine wpAnyL_take0 (i := 0) (v := ?_) rfl (by kernel_rfl) (by kernel_rfl) (by kernel_rfl) (by rfl) (fun _ _ _ h => h) (Or.inl ⟨by rfl, ?_⟩) (by assumption) ?_
              rotate_left
              · (intro W _; go_simp; (with_reducible rfl))
              intro hHeld'
              clear hHeld; have hHeld := hHeld'; clear hHeld'
              try simp only [Act.put, List.setIfInBounds_toArray, List.set_cons_zero, List.set_cons_succ]
              refine wpAnyL_take0 (i := 1) (v := ?_) rfl (by kernel_rfl) (by kernel_rfl) (by kernel_rfl) (by rfl) (fun _ _ _ h => h) (Or.inl ⟨by rfl, ?_⟩) (by assumption) ?_
              rotate_left
              · (intro W _; go_simp; (with_reducible rfl))
              intro hHeld'
              clear hHeld; have hHeld := hHeld'; clear hHeld'
              try simp only [Act.put, List.setIfInBounds_toArray, List.set_cons_zero, List.set_cons_succ]
              refine wpAnyL_take0 (i := 2) (v := ?_) rfl (by kernel_rfl) (by kernel_rfl) (by kernel_rfl) (by rfl) (fun _ _ _ h => h) (Or.inl ⟨by rfl, ?_⟩) (by assumption) ?_
              rotate_left
              · (intro W _; go_simp; (with_reducible rfl))
              intro hHeld'
              clear hHeld; have hHeld := hHeld'; clear hHeld'
              try simp only [Act.put, List.setIfInBounds_toArray, List.set_cons_zero, List.set_cons_succ]
              refine wpAnyL_take0 (i := 3) (v := ?_) rfl (by kernel_rfl) (by kernel_rfl) (by kernel_rfl) (by rfl) (fun _ _ _ h => h) (Or.inl ⟨by rfl, ?_⟩) (by assumption) ?_
              rotate_left
              · (intro W _; go_simp; (with_reducible rfl))
              intro hHeld'
              clear hHeld; have hHeld := hHeld'; clear hHeld'
              try simp only [Act.put, List.setIfInBounds_toArray, List.set_cons_zero, List.set_cons_succ]
              refine wpAnyL_take0 (i := 5) (v := ?_) rfl (by kernel_rfl) (by kernel_rfl) (by kernel_rfl) (by rfl) (fun _ _ _ h => h) (Or.inl ⟨by rfl, ?_⟩) (by assumption) ?_
              rotate_left
              · (intro W _; go_simp; (with_reducible rfl))
              intro hHeld'
              clear hHeld; have hHeld := hHeld'; clear hHeld'
              try simp only [Act.put, List.setIfInBounds_toArray, List.set_cons_zero, List.set_cons_succ]
              refine wpAnyL_take0 (i := 6) (v := ?_) rfl (by kernel_rfl) (by kernel_rfl) (by kernel_rfl) (by rfl) (fun _ _ _ h => h) (Or.inl ⟨by rfl, ?_⟩) (by assumption) ?_
              rotate_left
              · (intro W _; go_simp; (with_reducible rfl))
              intro hHeld'
              clear hHeld; have hHeld := hHeld'; clear hHeld'
              try simp only [Act.put, List.setIfInBounds_toArray, List.set_cons_zero, List.set_cons_succ]
              refine wpAnyL_take0 (i := 7) (v := ?_) rfl (by kernel_rfl) (by kernel_rfl) (by kernel_rfl) (by rfl) (fun _ _ _ h => h) (Or.inl ⟨by rfl, ?_⟩) (by assumption) ?_
              rotate_left
              · (intro W _; go_simp; (with_reducible rfl))
              intro hHeld'
              clear hHeld; have hHeld := hHeld'; clear hHeld'
              try simp only [Act.put, List.setIfInBounds_toArray, List.set_cons_zero, List.set_cons_succ]
              refine wpAnyL_takeP (i := 8) 23 [21, 16, 15, 14, 9] (v := ?_) (fun w' : World => w'.cell? ⟨b2, 1, none⟩ = some (.int .i64 (s' : Int))) rfl (by kernel_rfl) (by kernel_rfl) (by kernel_rfl) (by rfl) (by kernel_rfl) (by simp) (fun _ _ _ h => h) (Or.inl ⟨by rfl, ?_⟩) (by assumption) ?_
              rotate_left
              · (intro W hW; go_simp; (with_reducible rfl))
              intro hHeld'
              clear hHeld; have hHeld := hHeld'; clear hHeld'
              try simp only [Act.put, List.setIfInBounds_toArray, List.set_cons_zero, List.set_cons_succ]
              refine wpAnyL_take0 (i := 10) (v := ?_) rfl (by kernel_rfl) (by kernel_rfl) (by kernel_rfl) (by rfl) (fun _ _ _ h => h) (Or.inl ⟨by rfl, ?_⟩) (by assumption) ?_
              rotate_left
              · (intro W _; go_simp; (with_reducible rfl))
              intro hHeld'
              clear hHeld; have hHeld := hHeld'; clear hHeld'
              try simp only [Act.put, List.setIfInBounds_toArray, List.set_cons_zero, List.set_cons_succ]
              refine wpAnyL_take0 (i := 11) (v := ?_) rfl (by kernel_rfl) (by kernel_rfl) (by kernel_rfl) (by rfl) (fun _ _ _ h => h) (Or.inl ⟨by rfl, ?_⟩) (by assumption) ?_
              rotate_left
              · (intro W _; go_simp; (with_reducible rfl))
              intro hHeld'
              clear hHeld; have hHeld := hHeld'; clear hHeld'
              try simp only [Act.put, List.setIfInBounds_toArray, List.set_cons_zero, List.set_cons_succ]
              refine wpAnyL_take0 (i := 12) (v := ?_) rfl (by kernel_rfl) (by kernel_rfl) (by kernel_rfl) (by rfl) (fun _ _ _ h => h) (Or.inl ⟨by rfl, ?_⟩) (by assumption) ?_
              rotate_left
              · (intro W _; go_simp; (with_reducible rfl))
              intro hHeld'
              clear hHeld; have hHeld := hHeld'; clear hHeld'
              try simp only [Act.put, List.setIfInBounds_toArray, List.set_cons_zero, List.set_cons_succ]
              refine wpAnyL_take0 (i := 17) (v := ?_) rfl (by kernel_rfl) (by kernel_rfl) (by kernel_rfl) (by rfl) (fun _ _ _ h => h) (Or.inl ⟨by rfl, ?_⟩) (by assumption) ?_
              rotate_left
              · (intro W _; go_simp; (with_reducible rfl))
              intro hHeld'
              clear hHeld; have hHeld := hHeld'; clear hHeld'
              try simp only [Act.put, List.setIfInBounds_toArray, List.set_cons_zero, List.set_cons_succ]
              refine wpAnyL_take0 (i := 18) (v := ?_) rfl (by kernel_rfl) (by kernel_rfl) (by kernel_rfl) (by rfl) (fun _ _ _ h => h) (Or.inl ⟨by rfl, ?_⟩) (by assumption) ?_
              rotate_left
              · (intro W _; go_simp; (with_reducible rfl))
              intro hHeld'
              clear hHeld; have hHeld := hHeld'; clear hHeld'
              try simp only [Act.put, List.setIfInBounds_toArray, List.set_cons_zero, List.set_cons_succ]
              refine wpAnyL_take0 (i := 19) (v := ?_) rfl (by kernel_rfl) (by kernel_rfl) (by kernel_rfl) (by rfl) (fun _ _ _ h => h) (Or.inl ⟨by rfl, ?_⟩) (by assumption) ?_
              rotate_left
              · (intro W _; go_simp; (with_reducible rfl))
              intro hHeld'
              clear hHeld; have hHeld := hHeld'; clear hHeld'
              try simp only [Act.put, List.setIfInBounds_toArray, List.set_cons_zero, List.set_cons_succ]
              refine wpAnyL_take0 (i := 20) (v := ?_) rfl (by kernel_rfl) (by kernel_rfl) (by kernel_rfl) (by rfl) (fun _ _ _ h => h) (Or.inl ⟨by rfl, ?_⟩) (by assumption) ?_
              rotate_left
              · (intro W _; go_simp; (with_reducible rfl))
              intro hHeld'
              clear hHeld; have hHeld := hHeld'; clear hHeld'
              try simp only [Act.put, List.setIfInBounds_toArray, List.set_cons_zero, List.set_cons_succ]
              refine wpAnyL_ready (rs := [4]) (by kernel_rfl) (by simp) ?_
              refine AllReadyL.cons rfl (fun K hK => ?_) AllReadyL.nil
              go_simp
              go_at_call 177
              (with_reducible refine (hn1.out _ (hml.out _ (hBel.out _ yS.out.bel)).1).mono ?_)
              rintro e w3 ⟨rfl, rfl⟩
              go_simp
              refine hK.out _ _ (HeldL.cons (fun _ => (hkl.out _ (hBel.out _ yS.out.bel)).2) HeldL.nil) (fun hHeld' => ?_)
              clear hK K hHeld; have hHeld := hHeld'; clear hHeld'
              try simp only [Act.put, List.setIfInBounds_toArray, List.set_cons_zero, List.set_cons_succ]
              refine wpAnyL_take0 (i := 9) (v := ?_) rfl (by kernel_rfl) (by kernel_rfl) (by kernel_rfl) (by rfl) (fun _ _ _ h => h) (Or.inl ⟨by rfl, ?_⟩) (by assumption) ?_
              rotate_left
              · (intro W _; go_simp; (with_reducible rfl))
              intro hHeld'
              clear hHeld; have hHeld := hHeld'; clear hHeld'
              try simp only [Act.put, List.setIfInBounds_toArray, List.set_cons_zero, List.set_cons_succ]
              refine wpAnyL_ready (rs := [13]) (by kernel_rfl) (by simp) ?_
              refine AllReadyL.cons rfl (fun K hK => ?_) AllReadyL.nil
              go_simp
              go_at_call 177
              (with_reducible refine (hn2.out _ (hkl.out _ (hBel.out _ yS.out.bel)).1).mono ?_)
              rintro e w3 ⟨rfl, rfl⟩
              go_simp
              refine hK.out _ _ (HeldL.cons (fun _ => (hkl.out _ (hBel.out _ yS.out.bel)).2) HeldL.nil) (fun hHeld' => ?_)
              clear hK K hHeld; have hHeld := hHeld'; clear hHeld'
              try simp only [Act.put, List.setIfInBounds_toArray, List.set_cons_zero, List.set_cons_succ]
              refine wpAnyL_take0 (i := 14) (v := ?_) rfl (by kernel_rfl) (by kernel_rfl) (by kernel_rfl) (by rfl) (fun _ _ _ h => h) (Or.inl ⟨by rfl, ?_⟩) (by assumption) ?_
              rotate_left
              · (intro W _; go_simp; (with_reducible rfl))
              intro hHeld'
              clear hHeld; have hHeld := hHeld'; clear hHeld'
              try simp only [Act.put, List.setIfInBounds_toArray, List.set_cons_zero, List.set_cons_succ]
              refine wpAnyL_ready (rs := [15]) (by kernel_rfl) (by simp) ?_
              refine AllReadyL.cons rfl (fun K hK => ?_) AllReadyL.nil
              go_simp
              replace yS := hid (yS.out.newBlk #[.int .i64 (F : Int)] 2)
              generalize wd.heap.size = bB at *
              generalize wd.alloc (.cells #[.int .i64 (F : Int)] 2) = we at *
              refine hK.out _ _ (HeldL.cons (fun _ => (hkl.out _ (hBel.out _ yS.out.bel)).2) HeldL.nil) (fun hHeld' => ?_)
              clear hK K hHeld; have hHeld := hHeld'; clear hHeld'
              try simp only [Act.put, List.setIfInBounds_toArray, List.set_cons_zero, List.set_cons_succ]
              refine wpAnyL_ready (rs := [16]) (by kernel_rfl) (by simp) ?_
              refine AllReadyL.cons rfl (fun K hK => ?_) AllReadyL.nil
              refine St.step1 32 2 2 (.int .i64 0) 8 Tryz.underlying32 info_i64 rfl (by omega) rfl _ _ rfl _ _ rfl (yS.out.f1) rfl rfl x hlN.out (by omega) ?_
              intro gn cn wf yS'
              replace yS := hid yS'.f1.drop; clear yS'
              refine hK.out _ _ (HeldL.cons (fun _ => (hkl.out _ (hBel.out _ yS.out.bel)).2) HeldL.nil) (fun hHeld' => ?_)
              clear hK K hHeld; have hHeld := hHeld'; clear hHeld'
              try simp only [Act.put, List.setIfInBounds_toArray, List.set_cons_zero, List.set_cons_succ]
              refine wpAnyL_ready (rs := [21]) (by kernel_rfl) (by simp) ?_
              refine AllReadyL.cons rfl (fun K hK => ?_) AllReadyL.nil
              go_simp
              go_at_call 176
              (with_reducible refine (ho2.out _ (hkl.out _ (hBel.out _ yS.out.bel)).1).mono ?_)
              rintro e w3 ⟨rfl, rfl⟩
              go_simp
              refine hK.out _ _ (HeldL.cons (fun _ => (hkl.out _ (hBel.out _ yS.out.bel)).2) HeldL.nil) (fun hHeld' => ?_)
              clear hK K hHeld; have hHeld := hHeld'; clear hHeld'
              try simp only [Act.put, List.setIfInBounds_toArray, List.set_cons_zero, List.set_cons_succ]
              refine wpAnyL_ready (rs := [22]) (by kernel_rfl) (by simp) ?_
              refine AllReadyL.cons rfl (fun K hK => ?_) AllReadyL.nil
              go_simp
              replace yS := hid (yS.out.newBlk #[.int .i64 (o2 : Int)] 2)
              generalize wf.heap.size = bC at *
              generalize wf.alloc (.cells #[.int .i64 (o2 : Int)] 2) = wg at *
              refine hK.out _ _ (HeldL.cons (fun _ => (hkl.out _ (hBel.out _ yS.out.bel)).2) HeldL.nil) (fun hHeld' => ?_)
              clear hK K hHeld; have hHeld := hHeld'; clear hHeld'
              try simp only [Act.put, List.setIfInBounds_toArray, List.set_cons_zero, List.set_cons_succ]
              refine wpAnyL_ready (rs := [23]) (by kernel_rfl) (by simp) ?_
              refine AllReadyL.cons rfl (fun K hK => ?_) AllReadyL.nil
              refine St.step1 32 2 2 (.int .i64 0) 8 Tryz.underlying32 info_i64 rfl (by omega) rfl _ _ rfl _ _ rfl (yS.out.f2) rfl rfl x hlO.out (by omega) ?_
              intro go co wh yS'
              replace yS := hid yS'.f1.drop.f1; clear yS'
              refine hK.out _ _ (HeldL.cons (fun h => absurd h (by decide +kernel)) HeldL.nil) (fun hHeld' => ?_)
              clear hK K hHeld; have hHeld := hHeld'; clear hHeld'
              try simp only [Act.put, List.setIfInBounds_toArray, List.set_cons_zero, List.set_cons_succ]
              refine wpAnyL_take0 (i := 24) (v := ?_) rfl (by kernel_rfl) (by kernel_rfl) (by kernel_rfl) (by rfl) (fun _ _ _ h => h) (Or.inl ⟨by rfl, ?_⟩) (by assumption) ?_
              rotate_left
              · (intro W _; go_simp; (with_reducible rfl))
              intro hHeld'
              clear hHeld; have hHeld := hHeld'; clear hHeld'
              try simp only [Act.put, List.setIfInBounds_toArray, List.set_cons_zero, List.set_cons_succ]
              refine wpAnyL_take0 (i := 25) (v := ?_) rfl (by kernel_rfl) (by kernel_rfl) (by kernel_rfl) (by rfl) (fun _ _ _ h => h) (Or.inl ⟨by rfl, ?_⟩) (by assumption) ?_
              rotate_left
              · (intro W _; go_simp; (with_reducible rfl))
              intro hHeld'
              clear hHeld; have hHeld := hHeld'; clear hHeld'
              try simp only [Act.put, List.setIfInBounds_toArray, List.set_cons_zero, List.set_cons_succ]
              refine wpAnyL_done (by kernel_rfl) ?_ _
              simp only [Act.put, List.getElem_toArray, List.getElem_cons_succ, List.getElem_cons_zero, List.setIfInBounds_toArray, List.set_cons_zero, List.set_cons_succ]
              go_wp2
              go_roundw
              case rel => exact ⟨x + 1, by omega, by go_num, by rw [hsN.out, hsO.out, ints_snoc, ints_snoc]; exact yS.out⟩
              case measure => simp [intOf]; omega
            · obtain rfl : l = x := by omega
              obtain ⟨g1, c1, rfl, _, _⟩ := yS.out.o0.blk (fun e => by have h1 := congrArg List.length e; rw [hlN.out] at h1; simp at h1; omega)
              obtain ⟨g2, c2, rfl, _, _⟩ := yS.out.o1.blk (fun e => by have h1 := congrArg List.length e; rw [hlO.out] at h1; simp at h1; omega)
              rw [hlN.out, hlO.out] at yS ⊢
              have hg := hid yS.out.f2.s2.s1.s3
              have hle := hid (Nat.le_refl (w.heap.size + 1))
              have hsN := hid (show tbL T.nx (P + (b + 1)) l = tbL T.nx (P + b) l ++ [rwI T.nx (P + b) l] from tbL_snoc T.nx (P + b) l)
              have hsO := hid (show tbL T.ot (P + (b + 1)) l = tbL T.ot (P + b) l ++ [rwI T.ot (P + b) l] from tbL_snoc T.ot (P + b) l)
              have hPb := hid (show P + b ≤ 256 from by have h1 := prod_in has hbs; have h2 : s * s' ≤ 256 := Nat.mul_le_mul s16 s16'; rw [hP.out]; omega)
              have hPb' : P + b ≤ 256 := hPb.out
              clear yS
              go_upto_region 15 with (fail)
              have hg' := hid hg.out.drew; clear hg; have hg := hg'; clear hg'
              refine wp_region_heldL (L := [(8, (fun w' : World => w'.cell? ⟨(w.heap.size + 1), 0, none⟩ = some vN)), (15, (fun w' : World => w'.cell? ⟨(w.heap.size + 1), 1, none⟩ = some vO))]) (by kernel_rfl) (HeldL.cons (fun _ => (cell_of_row _ _ 0 _ _ _ hg.out.k0)) (HeldL.cons (fun _ => (cell_of_row _ _ 1 _ _ _ hg.out.k0)) HeldL.nil)) (fun hHeld => ?_)
              generalize wr.drew = wd at *
              refine wpAnyL_take0 (i := 0) (v := ?_) rfl (by kernel_rfl) (by kernel_rfl) (by kernel_rfl) (by rfl) (fun _ _ _ h => h) (Or.inl ⟨by rfl, ?_⟩) (by assumption) ?_
              rotate_left
              · (intro W _; go_simp; (with_reducible rfl))
              intro hHeld'
              clear hHeld; have hHeld := hHeld'; clear hHeld'
              try simp only [Act.put, List.setIfInBounds_toArray, List.set_cons_zero, List.set_cons_succ]
              refine wpAnyL_take0 (i := 1) (v := ?_) rfl (by kernel_rfl) (by kernel_rfl) (by kernel_rfl) (by rfl) (fun _ _ _ h => h) (Or.inl ⟨by rfl, ?_⟩) (by assumption) ?_
              rotate_left
              · (intro W _; go_simp; (with_reducible rfl))
              intro hHeld'
              clear hHeld; have hHeld := hHeld'; clear hHeld'
              try simp only [Act.put, List.setIfInBounds_toArray, List.set_cons_zero, List.set_cons_succ]
              refine wpAnyL_take0 (i := 2) (v := ?_) rfl (by kernel_rfl) (by kernel_rfl) (by kernel_rfl) (by rfl) (fun _ _ _ h => h) (Or.inl ⟨by rfl, ?_⟩) (by assumption) ?_
              rotate_left
              · (intro W _; go_simp; (with_reducible rfl))
              intro hHeld'
              clear hHeld; have hHeld := hHeld'; clear hHeld'
              try simp only [Act.put, List.setIfInBounds_toArray, List.set_cons_zero, List.set_cons_succ]
              refine wpAnyL_take0 (i := 3) (v := ?_) rfl (by kernel_rfl) (by kernel_rfl) (by kernel_rfl) (by rfl) (fun _ _ _ h => h) (Or.inl ⟨by rfl, ?_⟩) (by assumption) ?_
              rotate_left
              · (intro W _; go_simp; (with_reducible rfl))
              intro hHeld'
              clear hHeld; have hHeld := hHeld'; clear hHeld'
              try simp only [Act.put, List.setIfInBounds_toArray, List.set_cons_zero, List.set_cons_succ]
              refine wpAnyL_take0 (i := 4) (v := ?_) rfl (by kernel_rfl) (by kernel_rfl) (by kernel_rfl) (by rfl) (fun _ _ _ h => h) (Or.inl ⟨by rfl, ?_⟩) (by assumption) ?_
              rotate_left
              · (intro W _; go_simp; (with_reducible rfl))
              intro hHeld'
              clear hHeld; have hHeld := hHeld'; clear hHeld'
              try simp only [Act.put, List.setIfInBounds_toArray, List.set_cons_zero, List.set_cons_succ]
              refine wpAnyL_takeT (i := 5) 8 (v := vN) (fun w' : World => w'.cell? ⟨(w.heap.size + 1), 0, none⟩ = some vN) rfl rfl (by kernel_rfl) (by kernel_rfl) (by kernel_rfl) (by rfl) (by decide +kernel) (by decide +kernel) (by decide +kernel) (by simp) (fun _ _ _ h => h) (Or.inl ⟨by rfl, ?_⟩) (by assumption) ?_
              · (intro W hW; (try dsimp only at hW); go_simp)
              intro hHeld'
              clear hHeld; have hHeld := hHeld'; clear hHeld'
              try simp only [Act.put, List.setIfInBounds_toArray, List.set_cons_zero, List.set_cons_succ]
              refine wpAnyL_take0 (i := 6) (v := ?_) rfl (by kernel_rfl) (by kernel_rfl) (by kernel_rfl) (by rfl) (fun _ _ _ h => h) (Or.inl ⟨by rfl, ?_⟩) (by assumption) ?_
              rotate_left
              · (intro W _; go_simp; (with_reducible rfl))
              intro hHeld'
              clear hHeld; have hHeld := hHeld'; clear hHeld'
              try simp only [Act.put, List.setIfInBounds_toArray, List.set_cons_zero, List.set_cons_succ]
              refine wpAnyL_take0 (i := 9) (v := ?_) rfl (by kernel_rfl) (by kernel_rfl) (by kernel_rfl) (by rfl) (fun _ _ _ h => h) (Or.inl ⟨by rfl, ?_⟩) (by assumption) ?_
              rotate_left
              · (intro W _; go_simp; (with_reducible rfl))
              intro hHeld'
              clear hHeld; have hHeld := hHeld'; clear hHeld'
              try simp only [Act.put, List.setIfInBounds_toArray, List.set_cons_zero, List.set_cons_succ]
              refine wpAnyL_take0 (i := 10) (v := ?_) rfl (by kernel_rfl) (by kernel_rfl) (by kernel_rfl) (by rfl) (fun _ _ _ h => h) (Or.inl ⟨by rfl, ?_⟩) (by assumption) ?_
              rotate_left
              · (intro W _; go_simp; (with_reducible rfl))
              intro hHeld'
              clear hHeld; have hHeld := hHeld'; clear hHeld'
              try simp only [Act.put, List.setIfInBounds_toArray, List.set_cons_zero, List.set_cons_succ]
              refine wpAnyL_take0 (i := 11) (v := ?_) rfl (by kernel_rfl) (by kernel_rfl) (by kernel_rfl) (by rfl) (fun _ _ _ h => h) (Or.inl ⟨by rfl, ?_⟩) (by assumption) ?_
              rotate_left
              · (intro W _; go_simp; (with_reducible rfl))
              intro hHeld'
              clear hHeld; have hHeld := hHeld'; clear hHeld'
              try simp only [Act.put, List.setIfInBounds_toArray, List.set_cons_zero, List.set_cons_succ]
              refine wpAnyL_takeT (i := 12) 15 (v := vO) (fun w' : World => w'.cell? ⟨(w.heap.size + 1), 1, none⟩ = some vO) rfl rfl (by kernel_rfl) (by kernel_rfl) (by kernel_rfl) (by rfl) (by decide +kernel) (by decide +kernel) (by decide +kernel) (by simp) (fun _ _ _ h => h) (Or.inl ⟨by rfl, ?_⟩) (by assumption) ?_
              · (intro W hW; (try dsimp only at hW); go_simp)
              intro hHeld'
              clear hHeld; have hHeld := hHeld'; clear hHeld'
              try simp only [Act.put, List.setIfInBounds_toArray, List.set_cons_zero, List.set_cons_succ]
              refine wpAnyL_take0 (i := 13) (v := ?_) rfl (by kernel_rfl) (by kernel_rfl) (by kernel_rfl) (by rfl) (fun _ _ _ h => h) (Or.inl ⟨by rfl, ?_⟩) (by assumption) ?_
              rotate_left
              · (intro W _; go_simp; (with_reducible rfl))
              intro hHeld'
              clear hHeld; have hHeld := hHeld'; clear hHeld'
              try simp only [Act.put, List.setIfInBounds_toArray, List.set_cons_zero, List.set_cons_succ]
              refine wpAnyL_ready (rs := [7, 14]) (by kernel_rfl) (by simp) ?_
              refine AllReadyL.cons rfl (fun K hK => ?_) ?_
              · skip
                go_simp
                have hg' := hid (hg.out.newBlk #[(Value.slice (some ⟨g1, 0, none⟩) l c1)] 32); clear hg; have hg := hg'; clear hg'
                generalize wd.heap.size = bA at *
                generalize wd.alloc (.cells #[(Value.slice (some ⟨g1, 0, none⟩) l c1)] 32) = we at *
                refine hK.out _ _ (HeldL.cons (fun _ => (cell_of_row _ _ 0 _ _ _ hg.out.k1)) (HeldL.cons (fun _ => (cell_of_row _ _ 1 _ _ _ hg.out.k1)) HeldL.nil)) (fun hHeld' => ?_)
                clear hK K hHeld; have hHeld := hHeld'; clear hHeld'
                try simp only [Act.put, List.setIfInBounds_toArray, List.set_cons_zero, List.set_cons_succ]
                refine wpAnyL_ready (rs := [8, 14]) (by kernel_rfl) (by simp) ?_
                refine AllReadyL.cons rfl (fun K hK => ?_) ?_
                · skip
                  refine St.stepM 32 rfl _ _ rfl _ _ _ _ _ rfl (hg.out.f2.f3.f1) bA rfl _ (tbL_length _ _ _) (by omega) ?_
                  intro ga ca wf hg'
                  replace hg := hid hg'.f1.drop; clear hg'
                  refine hK.out _ _ (HeldL.cons (fun _ => (cell_of_row _ _ 0 _ _ _ hg.out.k1)) (HeldL.cons (fun _ => (cell_of_row _ _ 1 _ _ _ hg.out.k1)) HeldL.nil)) (fun hHeld' => ?_)
                  clear hK K hHeld; have hHeld := hHeld'; clear hHeld'
                  try simp only [Act.put, List.setIfInBounds_toArray, List.set_cons_zero, List.set_cons_succ]
                  refine wpAnyL_ready (rs := [14]) (by kernel_rfl) (by simp) ?_
                  refine AllReadyL.cons rfl (fun K hK => ?_) AllReadyL.nil
                  go_simp
                  have hg' := hid (hg.out.newBlk #[(Value.slice (some ⟨g2, 0, none⟩) l c2)] 32); clear hg; have hg := hg'; clear hg'
                  generalize wf.heap.size = bB at *
                  generalize wf.alloc (.cells #[(Value.slice (some ⟨g2, 0, none⟩) l c2)] 32) = wg at *
                  refine hK.out _ _ (HeldL.cons (fun _ => (cell_of_row _ _ 0 _ _ _ hg.out.k2)) (HeldL.cons (fun _ => (cell_of_row _ _ 1 _ _ _ hg.out.k2)) HeldL.nil)) (fun hHeld' => ?_)
                  clear hK K hHeld; have hHeld := hHeld'; clear hHeld'
                  try simp only [Act.put, List.setIfInBounds_toArray, List.set_cons_zero, List.set_cons_succ]
                  refine wpAnyL_ready (rs := [15]) (by kernel_rfl) (by simp) ?_
                  refine AllReadyL.cons rfl (fun K hK => ?_) AllReadyL.nil
                  refine St.stepM 32 rfl _ _ rfl _ _ _ _ _ rfl (hg.out.f3.f4.f1) bB rfl _ (tbL_length _ _ _) (by omega) ?_
                  intro gb cb wx hg'
                  replace hg := hid hg'.f1.drop; clear hg'
                  replace hg := hid hg.out.f2
                  refine hK.out _ _ (HeldL.cons (fun _ => (cell_of_row _ _ 0 _ _ _ hg.out.k0)) (HeldL.cons (fun _ => (cell_of_row _ _ 1 _ _ _ hg.out.k0)) HeldL.nil)) (fun hHeld' => ?_)
                  clear hK K hHeld; have hHeld := hHeld'; clear hHeld'
                  try simp only [Act.put, List.setIfInBounds_toArray, List.set_cons_zero, List.set_cons_succ]
                  refine wpAnyL_take0 (i := 16) (v := ?_) rfl (by kernel_rfl) (by kernel_rfl) (by kernel_rfl) (by rfl) (fun _ _ _ h => h) (Or.inl ⟨by rfl, ?_⟩) (by assumption) ?_
                  rotate_left
                  · (intro W _; go_simp; (with_reducible rfl))
                  intro hHeld'
                  clear hHeld; have hHeld := hHeld'; clear hHeld'
                  try simp only [Act.put, List.setIfInBounds_toArray, List.set_cons_zero, List.set_cons_succ]
                  refine wpAnyL_take0 (i := 17) (v := ?_) rfl (by kernel_rfl) (by kernel_rfl) (by kernel_rfl) (by rfl) (fun _ _ _ h => h) (Or.inl ⟨by rfl, ?_⟩) (by assumption) ?_
                  rotate_left
                  · (intro W _; go_simp; (with_reducible rfl))
                  intro hHeld'
                  clear hHeld; have hHeld := hHeld'; clear hHeld'
                  try simp only [Act.put, List.setIfInBounds_toArray, List.set_cons_zero, List.set_cons_succ]
                  have q1 := (cell_of_row _ _ 0 _ _ _ hg.out.k0)
                  have q2 := frozen_of_row _ _ 0 _ _ hg.out.k0
                  refine wpAnyL_ready (rs := [18]) (by kernel_rfl) (by simp) ?_
                  refine AllReadyL.cons rfl (fun K hK => ?_) AllReadyL.nil
                  go_simp
                  replace hg := hid (hg.out.setBlk (hle.out) 0 (.slice (some ⟨ga, 0, none⟩) ((P + b) + 1) ca)); clear q1 q2
                  refine hK.out _ _ (HeldL.cons (fun h => absurd h (by decide +kernel)) (HeldL.cons (fun h => absurd h (by decide +kernel)) HeldL.nil)) (fun hHeld' => ?_)
                  clear hK K hHeld; have hHeld := hHeld'; clear hHeld'
                  try simp only [Act.put, List.setIfInBounds_toArray, List.set_cons_zero, List.set_cons_succ]
                  refine wpAnyL_take0 (i := 19) (v := ?_) rfl (by kernel_rfl) (by kernel_rfl) (by kernel_rfl) (by rfl) (fun _ _ _ h => h) (Or.inl ⟨by rfl, ?_⟩) (by assumption) ?_
                  rotate_left
                  · (intro W _; go_simp; (with_reducible rfl))
                  intro hHeld'
                  clear hHeld; have hHeld := hHeld'; clear hHeld'
                  try simp only [Act.put, List.setIfInBounds_toArray, List.set_cons_zero, List.set_cons_succ]
                  refine wpAnyL_take0 (i := 20) (v := ?_) rfl (by kernel_rfl) (by kernel_rfl) (by kernel_rfl) (by rfl) (fun _ _ _ h => h) (Or.inl ⟨by rfl, ?_⟩) (by assumption) ?_
                  rotate_left
                  · (intro W _; go_simp; (with_reducible rfl))
                  intro hHeld'
                  clear hHeld; have hHeld := hHeld'; clear hHeld'
                  try simp only [Act.put, List.setIfInBounds_toArray, List.set_cons_zero, List.set_cons_succ]
                  have q1 := (cell_of_row _ _ 1 _ _ _ hg.out.k0)
                  have q2 := frozen_of_row _ _ 1 _ _ hg.out.k0
                  refine wpAnyL_ready (rs := [21]) (by kernel_rfl) (by simp) ?_
                  refine AllReadyL.cons rfl (fun K hK => ?_) AllReadyL.nil
                  go_simp
                  replace hg := hid (hg.out.setBlk (hle.out) 1 (.slice (some ⟨gb, 0, none⟩) ((P + b) + 1) cb)); clear q1 q2
                  refine hK.out _ _ (HeldL.cons (fun h => absurd h (by decide +kernel)) (HeldL.cons (fun h => absurd h (by decide +kernel)) HeldL.nil)) (fun hHeld' => ?_)
                  clear hK K hHeld; have hHeld := hHeld'; clear hHeld'
                  try simp only [Act.put, List.setIfInBounds_toArray, List.set_cons_zero, List.set_cons_succ]
                  refine wpAnyL_done (by kernel_rfl) ?_ _
                  replace hg := hid (show St _ _ (Asn.blk (w.heap.size + 1) #[(.slice (some ⟨ga, 0, none⟩) ((P + b) + 1) ca), (.slice (some ⟨gb, 0, none⟩) ((P + b) + 1) cb)] 105 :: _) _ from hg.out)
                  try simp only [List.setIfInBounds_toArray, List.set_cons_zero, List.set_cons_succ] at hg
                  go_wp2
                  go_roundw
                  case rel => exact ⟨b + 1, by omega, by go_num, _, _, _, _, by rw [hsN.out, hsO.out]; exact hg.out.s1⟩
                  case measure => simp [intOf]; omega
                refine AllReadyL.cons rfl (fun K hK => ?_) AllReadyL.nil
                go_simp
                have hg' := hid (hg.out.newBlk #[(Value.slice (some ⟨g2, 0, none⟩) l c2)] 32); clear hg; have hg := hg'; clear hg'
                generalize we.heap.size = bB at *
                generalize we.alloc (.cells #[(Value.slice (some ⟨g2, 0, none⟩) l c2)] 32) = wf at *
                refine hK.out _ _ (HeldL.cons (fun _ => (cell_of_row _ _ 0 _ _ _ hg.out.k2)) (HeldL.cons (fun _ => (cell_of_row _ _ 1 _ _ _ hg.out.k2)) HeldL.nil)) (fun hHeld' => ?_)
                clear hK K hHeld; have hHeld := hHeld'; clear hHeld'
                try simp only [Act.put, List.setIfInBounds_toArray, List.set_cons_zero, List.set_cons_succ]
                refine wpAnyL_ready (rs := [8]) (by kernel_rfl) (by simp) ?_
                refine AllReadyL.cons rfl (fun K hK => ?_) AllReadyL.nil
                refine St.stepM 32 rfl _ _ rfl _ _ _ _ _ rfl (hg.out.f3.f4.f1.s2) bA rfl _ (tbL_length _ _ _) (by omega) ?_
                intro ga ca wg hg'
                replace hg := hid hg'.f1.drop; clear hg'
                refine hK.out _ _ (HeldL.cons (fun _ => (cell_of_row _ _ 0 _ _ _ hg.out.k2)) (HeldL.cons (fun _ => (cell_of_row _ _ 1 _ _ _ hg.out.k2)) HeldL.nil)) (fun hHeld' => ?_)
                clear hK K hHeld; have hHeld := hHeld'; clear hHeld'
                try simp only [Act.put, List.setIfInBounds_toArray, List.set_cons_zero, List.set_cons_succ]
                refine wpAnyL_ready (rs := [15]) (by kernel_rfl) (by simp) ?_
                refine AllReadyL.cons rfl (fun K hK => ?_) AllReadyL.nil
                refine St.stepM 32 rfl _ _ rfl _ _ _ _ _ rfl (hg.out.f3.f4.f1.s2) bB rfl _ (tbL_length _ _ _) (by omega) ?_
                intro gb cb wx hg'
                replace hg := hid hg'.f1.drop; clear hg'
                replace hg := hid hg.out.f2
                refine hK.out _ _ (HeldL.cons (fun _ => (cell_of_row _ _ 0 _ _ _ hg.out.k0)) (HeldL.cons (fun _ => (cell_of_row _ _ 1 _ _ _ hg.out.k0)) HeldL.nil)) (fun hHeld' => ?_)
                clear hK K hHeld; have hHeld := hHeld'; clear hHeld'
                try simp only [Act.put, List.setIfInBounds_toArray, List.set_cons_zero, List.set_cons_succ]
                refine wpAnyL_take0 (i := 16) (v := ?_) rfl (by kernel_rfl) (by kernel_rfl) (by kernel_rfl) (by rfl) (fun _ _ _ h => h) (Or.inl ⟨by rfl, ?_⟩) (by assumption) ?_
                rotate_left
                · (intro W _; go_simp; (with_reducible rfl))
                intro hHeld'
                clear hHeld; have hHeld := hHeld'; clear hHeld'
                try simp only [Act.put, List.setIfInBounds_toArray, List.set_cons_zero, List.set_cons_succ]
                refine wpAnyL_take0 (i := 17) (v := ?_) rfl (by kernel_rfl) (by kernel_rfl) (by kernel_rfl) (by rfl) (fun _ _ _ h => h) (Or.inl ⟨by rfl, ?_⟩) (by assumption) ?_
                rotate_left
                · (intro W _; go_simp; (with_reducible rfl))
                intro hHeld'
                clear hHeld; have hHeld := hHeld'; clear hHeld'
                try simp only [Act.put, List.setIfInBounds_toArray, List.set_cons_zero, List.set_cons_succ]
                have q1 := (cell_of_row _ _ 0 _ _ _ hg.out.k0)
                have q2 := frozen_of_row _ _ 0 _ _ hg.out.k0
                refine wpAnyL_ready (rs := [18]) (by kernel_rfl) (by simp) ?_
                refine AllReadyL.cons rfl (fun K hK => ?_) AllReadyL.nil
                go_simp
                replace hg := hid (hg.out.setBlk (hle.out) 0 (.slice (some ⟨ga, 0, none⟩) ((P + b) + 1) ca)); clear q1 q2
                refine hK.out _ _ (HeldL.cons (fun h => absurd h (by decide +kernel)) (HeldL.cons (fun h => absurd h (by decide +kernel)) HeldL.nil)) (fun hHeld' => ?_)
                clear hK K hHeld; have hHeld := hHeld'; clear hHeld'
                try simp only [Act.put, List.setIfInBounds_toArray, List.set_cons_zero, List.set_cons_succ]
                refine wpAnyL_take0 (i := 19) (v := ?_) rfl (by kernel_rfl) (by kernel_rfl) (by kernel_rfl) (by rfl) (fun _ _ _ h => h) (Or.inl ⟨by rfl, ?_⟩) (by assumption) ?_
                rotate_left
                · (intro W _; go_simp; (with_reducible rfl))
                intro hHeld'
                clear hHeld; have hHeld := hHeld'; clear hHeld'
                try simp only [Act.put, List.setIfInBounds_toArray, List.set_cons_zero, List.set_cons_succ]
                refine wpAnyL_take0 (i := 20) (v := ?_) rfl (by kernel_rfl) (by kernel_rfl) (by kernel_rfl) (by rfl) (fun _ _ _ h => h) (Or.inl ⟨by rfl, ?_⟩) (by assumption) ?_
                rotate_left
                · (intro W _; go_simp; (with_reducible rfl))
                intro hHeld'
                clear hHeld; have hHeld := hHeld'; clear hHeld'
                try simp only [Act.put, List.setIfInBounds_toArray, List.set_cons_zero, List.set_cons_succ]
                have q1 := (cell_of_row _ _ 1 _ _ _ hg.out.k0)
                have q2 := frozen_of_row _ _ 1 _ _ hg.out.k0
                refine wpAnyL_ready (rs := [21]) (by kernel_rfl) (by simp) ?_
                refine AllReadyL.cons rfl (fun K hK => ?_) AllReadyL.nil
                go_simp
                replace hg := hid (hg.out.setBlk (hle.out) 1 (.slice (some ⟨gb, 0, none⟩) ((P + b) + 1) cb)); clear q1 q2
                refine hK.out _ _ (HeldL.cons (fun h => absurd h (by decide +kernel)) (HeldL.cons (fun h => absurd h (by decide +kernel)) HeldL.nil)) (fun hHeld' => ?_)
                clear hK K hHeld; have hHeld := hHeld'; clear hHeld'
                try simp only [Act.put, List.setIfInBounds_toArray, List.set_cons_zero, List.set_cons_succ]
                refine wpAnyL_done (by kernel_rfl) ?_ _
                replace hg := hid (show St _ _ (Asn.blk (w.heap.size + 1) #[(.slice (some ⟨ga, 0, none⟩) ((P + b) + 1) ca), (.slice (some ⟨gb, 0, none⟩) ((P + b) + 1) cb)] 105 :: _) _ from hg.out)
                try simp only [List.setIfInBounds_toArray, List.set_cons_zero, List.set_cons_succ] at hg
                go_wp2
                go_roundw
                case rel => exact ⟨b + 1, by omega, by go_num, _, _, _, _, by rw [hsN.out, hsO.out]; exact hg.out.s1⟩
                case measure => simp [intOf]; omega
              refine AllReadyL.cons rfl (fun K hK => ?_) AllReadyL.nil
              go_simp
              have hg' := hid (hg.out.newBlk #[(Value.slice (some ⟨g2, 0, none⟩) l c2)] 32); clear hg; have hg := hg'; clear hg'
              generalize wd.heap.size = bB at *
              generalize wd.alloc (.cells #[(Value.slice (some ⟨g2, 0, none⟩) l c2)] 32) = we at *
              refine hK.out _ _ (HeldL.cons (fun _ => (cell_of_row _ _ 0 _ _ _ hg.out.k1)) (HeldL.cons (fun _ => (cell_of_row _ _ 1 _ _ _ hg.out.k1)) HeldL.nil)) (fun hHeld' => ?_)
              clear hK K hHeld; have hHeld := hHeld'; clear hHeld'
              try simp only [Act.put, List.setIfInBounds_toArray, List.set_cons_zero, List.set_cons_succ]
              refine wpAnyL_ready (rs := [7]) (by kernel_rfl) (by simp) ?_
              refine AllReadyL.cons rfl (fun K hK => ?_) AllReadyL.nil
              go_simp
              have hg' := hid (hg.out.newBlk #[(Value.slice (some ⟨g1, 0, none⟩) l c1)] 32); clear hg; have hg := hg'; clear hg'
              generalize we.heap.size = bA at *
              generalize we.alloc (.cells #[(Value.slice (some ⟨g1, 0, none⟩) l c1)] 32) = wf at *
              refine hK.out _ _ (HeldL.cons (fun _ => (cell_of_row _ _ 0 _ _ _ hg.out.k2)) (HeldL.cons (fun _ => (cell_of_row _ _ 1 _ _ _ hg.out.k2)) HeldL.nil)) (fun hHeld' => ?_)
              clear hK K hHeld; have hHeld := hHeld'; clear hHeld'
              try simp only [Act.put, List.setIfInBounds_toArray, List.set_cons_zero, List.set_cons_succ]
              refine wpAnyL_ready (rs := [8]) (by kernel_rfl) (by simp) ?_
              refine AllReadyL.cons rfl (fun K hK => ?_) AllReadyL.nil
              refine St.stepM 32 rfl _ _ rfl _ _ _ _ _ rfl (hg.out.f3.f4.f1) bA rfl _ (tbL_length _ _ _) (by omega) ?_
              intro ga ca wg hg'
              replace hg := hid hg'.f1.drop; clear hg'
              refine hK.out _ _ (HeldL.cons (fun _ => (cell_of_row _ _ 0 _ _ _ hg.out.k2)) (HeldL.cons (fun _ => (cell_of_row _ _ 1 _ _ _ hg.out.k2)) HeldL.nil)) (fun hHeld' => ?_)
              clear hK K hHeld; have hHeld := hHeld'; clear hHeld'
              try simp only [Act.put, List.setIfInBounds_toArray, List.set_cons_zero, List.set_cons_succ]
              refine wpAnyL_ready (rs := [15]) (by kernel_rfl) (by simp) ?_
              refine AllReadyL.cons rfl (fun K hK => ?_) AllReadyL.nil
              refine St.stepM 32 rfl _ _ rfl _ _ _ _ _ rfl (hg.out.f3.f4.f1.s2) bB rfl _ (tbL_length _ _ _) (by omega) ?_
              intro gb cb wx hg'
              replace hg := hid hg'.f1.drop; clear hg'
              replace hg := hid hg.out.f2
              refine hK.out _ _ (HeldL.cons (fun _ => (cell_of_row _ _ 0 _ _ _ hg.out.k0)) (HeldL.cons (fun _ => (cell_of_row _ _ 1 _ _ _ hg.out.k0)) HeldL.nil)) (fun hHeld' => ?_)
              clear hK K hHeld; have hHeld := hHeld'; clear hHeld'
              try simp only [Act.put, List.setIfInBounds_toArray, List.set_cons_zero, List.set_cons_succ]
              refine wpAnyL_take0 (i := 16) (v := ?_) rfl (by kernel_rfl) (by kernel_rfl) (by kernel_rfl) (by rfl) (fun _ _ _ h => h) (Or.inl ⟨by rfl, ?_⟩) (by assumption) ?_
              rotate_left
              · (intro W _; go_simp; (with_reducible rfl))
              intro hHeld'
              clear hHeld; have hHeld := hHeld'; clear hHeld'
              try simp only [Act.put, List.setIfInBounds_toArray, List.set_cons_zero, List.set_cons_succ]
              refine wpAnyL_take0 (i := 17) (v := ?_) rfl (by kernel_rfl) (by kernel_rfl) (by kernel_rfl) (by rfl) (fun _ _ _ h => h) (Or.inl ⟨by rfl, ?_⟩) (by assumption) ?_
              rotate_left
              · (intro W _; go_simp; (with_reducible rfl))
              intro hHeld'
              clear hHeld; have hHeld := hHeld'; clear hHeld'
              try simp only [Act.put, List.setIfInBounds_toArray, List.set_cons_zero, List.set_cons_succ]
              have q1 := (cell_of_row _ _ 0 _ _ _ hg.out.k0)
              have q2 := frozen_of_row _ _ 0 _ _ hg.out.k0
              refine wpAnyL_ready (rs := [18]) (by kernel_rfl) (by simp) ?_
              refine AllReadyL.cons rfl (fun K hK => ?_) AllReadyL.nil
              go_simp
              replace hg := hid (hg.out.setBlk (hle.out) 0 (.slice (some ⟨ga, 0, none⟩) ((P + b) + 1) ca)); clear q1 q2
              refine hK.out _ _ (HeldL.cons (fun h => absurd h (by decide +kernel)) (HeldL.cons (fun h => absurd h (by decide +kernel)) HeldL.nil)) (fun hHeld' => ?_)
              clear hK K hHeld; have hHeld := hHeld'; clear hHeld'
              try simp only [Act.put, List.setIfInBounds_toArray, List.set_cons_zero, List.set_cons_succ]
              refine wpAnyL_take0 (i := 19) (v := ?_) rfl (by kernel_rfl) (by kernel_rfl) (by kernel_rfl) (by rfl) (fun _ _ _ h => h) (Or.inl ⟨by rfl, ?_⟩) (by assumption) ?_
              rotate_left
              · (intro W _; go_simp; (with_reducible rfl))
              intro hHeld'
              clear hHeld; have hHeld := hHeld'; clear hHeld'
              try simp only [Act.put, List.setIfInBounds_toArray, List.set_cons_zero, List.set_cons_succ]
              refine wpAnyL_take0 (i := 20) (v := ?_) rfl (by kernel_rfl) (by kernel_rfl) (by kernel_rfl) (by rfl) (fun _ _ _ h => h) (Or.inl ⟨by rfl, ?_⟩) (by assumption) ?_
              rotate_left
              · (intro W _; go_simp; (with_reducible rfl))
              intro hHeld'
              clear hHeld; have hHeld := hHeld'; clear hHeld'
              try simp only [Act.put, List.setIfInBounds_toArray, List.set_cons_zero, List.set_cons_succ]
              have q1 := (cell_of_row _ _ 1 _ _ _ hg.out.k0)
              have q2 := frozen_of_row _ _ 1 _ _ hg.out.k0
              refine wpAnyL_ready (rs := [21]) (by kernel_rfl) (by simp) ?_
              refine AllReadyL.cons rfl (fun K hK => ?_) AllReadyL.nil
              go_simp
              replace hg := hid (hg.out.setBlk (hle.out) 1 (.slice (some ⟨gb, 0, none⟩) ((P + b) + 1) cb)); clear q1 q2
              refine hK.out _ _ (HeldL.cons (fun h => absurd h (by decide +kernel)) (HeldL.cons (fun h => absurd h (by decide +kernel)) HeldL.nil)) (fun hHeld' => ?_)
              clear hK K hHeld; have hHeld := hHeld'; clear hHeld'
              try simp only [Act.put, List.setIfInBounds_toArray, List.set_cons_zero, List.set_cons_succ]
              refine wpAnyL_done (by kernel_rfl) ?_ _
              replace hg := hid (show St _ _ (Asn.blk (w.heap.size + 1) #[(.slice (some ⟨ga, 0, none⟩) ((P + b) + 1) ca), (.slice (some ⟨gb, 0, none⟩) ((P + b) + 1) cb)] 105 :: _) _ from hg.out)
              try simp only [List.setIfInBounds_toArray, List.set_cons_zero, List.set_cons_succ] at hg
              go_wp2
              go_roundw
              case rel => exact ⟨b + 1, by omega, by go_num, _, _, _, _, by rw [hsN.out, hsO.out]; exact hg.out.s1⟩
              case measure => simp [intOf]; omega
        · obtain rfl : s' = b := by omega
          have hP' := hid (show P + s' = (a + 1) * s' by rw [hP.out]; exact (Nat.succ_mul a s').symm)
          go_wp2
          go_roundw
          case rel => exact ⟨a + 1, P + s', by omega, hP', by go_num, _, _, _, _, tS.out⟩
          case measure => simp [intOf]; omega
    · obtain rfl : s = a := by omega
      have hTB := hid (show TB wr (w.heap.size + 1) vN vO T from ⟨rS.out.k0, ⟨_, by have h := rS.out.g1; rw [hP.out] at h; rw [hTn.out, hTL.out]; exact h⟩, ⟨_, by have h := rS.out.g2; rw [hP.out] at h; rw [hTn.out, hTL.out]; exact h⟩⟩)
      have hU1 : IntKind.i64.wrap ((q : Int) * (s' : Int)) = (V0 : Int) := hu1.out
      have hr16 : r < 16 := by have := hrs.out; omega
      have hU2 : IntKind.i64.wrap ((V0 : Int) + (r : Int)) = ((V0 + r : Nat) : Int) := by rw [show (V0 : Int) + (r : Int) = ((V0 + r : Nat) : Int) by omega]; exact IntWalk.i64_in _ (by omega)
      generalize V0 + r = n0 at *
      go_upto_region 18 with (fail)
      replace rS := hid rS.out.drew.nothing
      replace hTB := hid (hTB.out.below ((Below.refl wr.heap.size wr).drew))
      refine wp_region_heldL (L := [(16, (fun w' : World => w'.cell? ⟨b1, 0, none⟩ = some (.int .i64 (l : Int)) ∧ w'.cell? ⟨b2, 1, none⟩ = some (.int .i64 (s' : Int))))]) (by kernel_rfl) (HeldL.cons (fun _ => ⟨(hml.out _ (hBel.out _ rS.out.bel)).2.1, (hkl.out _ (hBel.out _ rS.out.bel)).2⟩) HeldL.nil) (fun hHeld => ?_)
      generalize wr.drew = wd at *
      refine wpAnyL_take0 (i := 0) (v := ?_) rfl (by kernel_rfl) (by kernel_rfl) (by kernel_rfl) (by rfl) (fun _ _ _ h => h) (Or.inl ⟨by rfl, ?_⟩) (by assumption) ?_
      rotate_left
      · (intro W _; go_simp; (with_reducible rfl))
      intro hHeld'
      clear hHeld; have hHeld := hHeld'; clear hHeld'
      try simp only [Act.put, List.setIfInBounds_toArray, List.set_cons_zero, List.set_cons_succ]
      refine wpAnyL_take0 (i := 1) (v := ?_) rfl (by kernel_rfl) (by kernel_rfl) (by kernel_rfl) (by rfl) (fun _ _ _ h => h) (Or.inl ⟨by rfl, ?_⟩) (by assumption) ?_
      rotate_left
      · (intro W _; go_simp; (with_reducible rfl))
      intro hHeld'
      clear hHeld; have hHeld := hHeld'; clear hHeld'
      try simp only [Act.put, List.setIfInBounds_toArray, List.set_cons_zero, List.set_cons_succ]
      refine wpAnyL_take0 (i := 2) (v := ?_) rfl (by kernel_rfl) (by kernel_rfl) (by kernel_rfl) (by rfl) (fun _ _ _ h => h) (Or.inl ⟨by rfl, ?_⟩) (by assumption) ?_
      rotate_left
      · (intro W _; go_simp; (with_reducible rfl))
      intro hHeld'
      clear hHeld; have hHeld := hHeld'; clear hHeld'
      try simp only [Act.put, List.setIfInBounds_toArray, List.set_cons_zero, List.set_cons_succ]
      refine wpAnyL_take0 (i := 3) (v := ?_) rfl (by kernel_rfl) (by kernel_rfl) (by kernel_rfl) (by rfl) (fun _ _ _ h => h) (Or.inl ⟨by rfl, ?_⟩) (by assumption) ?_
      rotate_left
      · (intro W _; go_simp; (with_reducible rfl))
      intro hHeld'
      clear hHeld; have hHeld := hHeld'; clear hHeld'
      try simp only [Act.put, List.setIfInBounds_toArray, List.set_cons_zero, List.set_cons_succ]
      refine wpAnyL_takeP (i := 4) 16 [] (v := ?_) (fun w' : World => w'.cell? ⟨b1, 0, none⟩ = some (.int .i64 (l : Int)) ∧ w'.cell? ⟨b2, 1, none⟩ = some (.int .i64 (s' : Int))) rfl (by kernel_rfl) (by kernel_rfl) (by kernel_rfl) (by rfl) (by kernel_rfl) (by simp) (fun _ _ _ h => h) (Or.inl ⟨by rfl, ?_⟩) (by assumption) ?_
      rotate_left
      · (intro W hW; (obtain ⟨h1, h2⟩ := hW); go_simp; (with_reducible rfl))
      intro hHeld'
      clear hHeld; have hHeld := hHeld'; clear hHeld'
      try simp only [Act.put, List.setIfInBounds_toArray, List.set_cons_zero, List.set_cons_succ]
      refine wpAnyL_take0 (i := 5) (v := ?_) rfl (by kernel_rfl) (by kernel_rfl) (by kernel_rfl) (by rfl) (fun _ _ _ h => h) (Or.inl ⟨by rfl, ?_⟩) (by assumption) ?_
      rotate_left
      · (intro W _; go_simp; (with_reducible rfl))
      intro hHeld'
      clear hHeld; have hHeld := hHeld'; clear hHeld'
      try simp only [Act.put, List.setIfInBounds_toArray, List.set_cons_zero, List.set_cons_succ]
      refine wpAnyL_take0 (i := 6) (v := ?_) rfl (by kernel_rfl) (by kernel_rfl) (by kernel_rfl) (by rfl) (fun _ _ _ h => h) (Or.inl ⟨by rfl, ?_⟩) (by assumption) ?_
      rotate_left
      · (intro W _; go_simp; (with_reducible rfl))
      intro hHeld'
      clear hHeld; have hHeld := hHeld'; clear hHeld'
      try simp only [Act.put, List.setIfInBounds_toArray, List.set_cons_zero, List.set_cons_succ]
      refine wpAnyL_take0 (i := 7) (v := ?_) rfl (by kernel_rfl) (by kernel_rfl) (by kernel_rfl) (by rfl) (fun _ _ _ h => h) (Or.inl ⟨by rfl, ?_⟩) (by assumption) ?_
      rotate_left
      · (intro W _; go_simp; (with_reducible rfl))
      intro hHeld'
      clear hHeld; have hHeld := hHeld'; clear hHeld'
      try simp only [Act.put, List.setIfInBounds_toArray, List.set_cons_zero, List.set_cons_succ]
      refine wpAnyL_take0 (i := 8) (v := ?_) rfl (by kernel_rfl) (by kernel_rfl) (by kernel_rfl) (by rfl) (fun _ _ _ h => h) (Or.inl ⟨by rfl, ?_⟩) (by assumption) ?_
      rotate_left
      · (intro W _; go_simp; (with_reducible rfl))
      intro hHeld'
      clear hHeld; have hHeld := hHeld'; clear hHeld'
      try simp only [Act.put, List.setIfInBounds_toArray, List.set_cons_zero, List.set_cons_succ]
      refine wpAnyL_takeP (i := 9) 16 [] (v := ?_) (fun w' : World => w'.cell? ⟨b1, 0, none⟩ = some (.int .i64 (l : Int)) ∧ w'.cell? ⟨b2, 1, none⟩ = some (.int .i64 (s' : Int))) rfl (by kernel_rfl) (by kernel_rfl) (by kernel_rfl) (by rfl) (by kernel_rfl) (by simp) (fun _ _ _ h => h) (Or.inl ⟨by rfl, ?_⟩) (by assumption) ?_
      rotate_left
      · (intro W hW; (obtain ⟨h1, h2⟩ := hW); go_simp; (with_reducible rfl))
      intro hHeld'
      clear hHeld; have hHeld := hHeld'; clear hHeld'
      try simp only [Act.put, List.setIfInBounds_toArray, List.set_cons_zero, List.set_cons_succ]
      refine wpAnyL_take0 (i := 10) (v := ?_) rfl (by kernel_rfl) (by kernel_rfl) (by kernel_rfl) (by rfl) (fun _ _ _ h => h) (Or.inl ⟨by rfl, ?_⟩) (by assumption) ?_
      rotate_left
      · (intro W _; go_simp; (with_reducible rfl))
      intro hHeld'
      clear hHeld; have hHeld := hHeld'; clear hHeld'
      try simp only [Act.put, List.setIfInBounds_toArray, List.set_cons_zero, List.set_cons_succ]
      refine wpAnyL_take0 (i := 11) (v := ?_) rfl (by kernel_rfl) (by kernel_rfl) (by kernel_rfl) (by rfl) (fun _ _ _ h => h) (Or.inl ⟨by rfl, ?_⟩) (by assumption) ?_
      rotate_left
      · (intro W _; go_simp; (with_reducible rfl))
      intro hHeld'
      clear hHeld; have hHeld := hHeld'; clear hHeld'
      try simp only [Act.put, List.setIfInBounds_toArray, List.set_cons_zero, List.set_cons_succ]
      refine wpAnyL_take0 (i := 12) (v := ?_) rfl (by kernel_rfl) (by kernel_rfl) (by kernel_rfl) (by rfl) (fun _ _ _ h => h) (Or.inl ⟨by rfl, ?_⟩) (by assumption) ?_
      rotate_left
      · (intro W _; go_simp; (with_reducible rfl))
      intro hHeld'
      clear hHeld; have hHeld := hHeld'; clear hHeld'
      try simp only [Act.put, List.setIfInBounds_toArray, List.set_cons_zero, List.set_cons_succ]
      refine wpAnyL_ready (rs := [13]) (by kernel_rfl) (by simp) ?_
      refine AllReadyL.cons rfl (fun K hK => ?_) AllReadyL.nil
      go_simp
      go_at_call 178
      (with_reducible refine (hmf.out _ _ _ _ hTB.out).mono ?_)
      rintro e w2 ⟨rfl, hb⟩
      replace rS := hid (rS.out.call hb); clear hb hTB
      go_simp
      have hZ2 := hid (hZ.out _ rS.out.bel)
      have pB := hid (hBel.out _ rS.out.bel)
      refine hK.out _ _ (HeldL.cons (fun _ => ⟨(hml.out _ pB.out).2.1, (hkl.out _ pB.out).2⟩) HeldL.nil) (fun hHeld' => ?_)
      clear hK K hHeld; have hHeld := hHeld'; clear hHeld'
      try simp only [Act.put, List.setIfInBounds_toArray, List.set_cons_zero, List.set_cons_succ]
      refine wpAnyL_take0 (i := 14) (v := ?_) rfl (by kernel_rfl) (by kernel_rfl) (by kernel_rfl) (by rfl) (fun _ _ _ h => h) (Or.inl ⟨by rfl, ?_⟩) (by assumption) ?_
      rotate_left
      · (intro W _; go_simp; (with_reducible rfl))
      intro hHeld'
      clear hHeld; have hHeld := hHeld'; clear hHeld'
      try simp only [Act.put, List.setIfInBounds_toArray, List.set_cons_zero, List.set_cons_succ]
      refine wpAnyL_take0 (i := 15) (v := ?_) rfl (by kernel_rfl) (by kernel_rfl) (by kernel_rfl) (by rfl) (fun _ _ _ h => h) (Or.inl ⟨by rfl, ?_⟩) (by assumption) ?_
      rotate_left
      · (intro W _; go_simp; (with_reducible rfl))
      intro hHeld'
      clear hHeld; have hHeld := hHeld'; clear hHeld'
      try simp only [Act.put, List.setIfInBounds_toArray, List.set_cons_zero, List.set_cons_succ]
      refine wpAnyL_ready (rs := [16]) (by kernel_rfl) (by simp) ?_
      refine AllReadyL.cons rfl (fun K hK => ?_) AllReadyL.nil
      refine step_store_mach rfl _ _ rfl _ rfl fm rfl _ _ hZ2.out ?_
      intro w9 p2 ho hbl
      replace pB := hid (hbl _ _ (Nat.le_refl _) pB.out)
      replace p2 := hid p2; clear ho hbl hZ2 rS
      refine hK.out _ _ (HeldL.cons (fun h => absurd h (by decide +kernel)) HeldL.nil) (fun hHeld' => ?_)
      clear hK K hHeld; have hHeld := hHeld'; clear hHeld'
      try simp only [Act.put, List.setIfInBounds_toArray, List.set_cons_zero, List.set_cons_succ]
      refine wpAnyL_take0 (i := 17) (v := ?_) rfl (by kernel_rfl) (by kernel_rfl) (by kernel_rfl) (by rfl) (fun _ _ _ h => h) (Or.inl ⟨by rfl, ?_⟩) (by assumption) ?_
      rotate_left
      · (intro W _; go_simp; (with_reducible rfl))
      intro hHeld'
      clear hHeld; have hHeld := hHeld'; clear hHeld'
      try simp only [Act.put, List.setIfInBounds_toArray, List.set_cons_zero, List.set_cons_succ]
      refine wpAnyL_done (by kernel_rfl) ?_ _
      simp only [Act.put, List.getElem_toArray, List.getElem_cons_succ, List.getElem_cons_zero, List.setIfInBounds_toArray, List.set_cons_zero, List.set_cons_succ]
      go_wp2
      exact ret_mach_i rfl rfl rfl p2.out rfl ⟨rfl, pB.out⟩
end Go.Proofs.YthmcdfjijkecfaaGreat

/- The trivial machine, and powers: the program's and the reference's. -/
namespace Go.Proofs.YthmcdfjijkecfaaGreat
open Go.RowKit
set_option linter.unusedVariables false
set_option linter.unusedSimpArgs false

/-- The trivial machine, as far as it is written. -/
def trivP (l x : Nat) : Mach := ⟨l, 1, fun _ => 0, fun p => if p < x then p else 0⟩
theorem trivP_zero (l : Nat) : trivP l 0 = ⟨l, 1, fun _ => 0, fun _ => 0⟩ := by
  unfold trivP
  congr 1
theorem trivP_step (l x : Nat) : trivP l (x + 1) = { trivP l x with ot := upd (trivP l x).ot x x } := by
  unfold trivP upd
  congr 1
  funext p
  dsimp only
  by_cases h : p = x
  · subst h; simp
  · rw [if_neg h]
    by_cases hp : p < x
    · rw [if_pos hp, if_pos (by omega)]
    · rw [if_neg hp, if_neg (by omega)]
def trivM (l : Nat) : Mach := trivP l l
theorem trivM_ok (l : Nat) (hl : l ≤ 3) : (trivM l).Ok := fun i => ⟨by show 0 < 256; omega, by show (if i < l then i else 0) < 256; split <;> omega⟩
theorem trivM_good (l : Nat) (l2 : 2 ≤ l) (l3 : l ≤ 3) : Good (trivM l) l 1 := by
  refine ⟨rfl, rfl, l2, l3, by omega, by omega, ?_, ?_, ?_, ?_⟩
  · intro q x _ _; show 0 < 1; omega
  · intro q x hq hx
    show (if q * 3 + x < l then q * 3 + x else 0) < l
    rw [if_pos (by omega)]; omega
  · intro q hq y x hy hx
    show (if q * 3 + y < l then q * 3 + y else 0) ≠ (if q * 3 + x < l then q * 3 + x else 0)
    rw [if_pos (by omega), if_pos (by omega)]; omega
  · intro q x hq hx hn
    refine ⟨rfl, ?_⟩
    show (if q * 3 + x < l then q * 3 + x else 0) = 0
    by_cases h : q * 3 + x < l
    · exfalso; apply hn; omega
    · rw [if_neg h]



end Go.Proofs.YthmcdfjijkecfaaGreat

/- Slices of elements of several cells that a function made itself. -/
namespace Go.Proofs.YthmcdfjijkecfaaGreat
open Go.RowKit
set_option linter.unusedVariables false
set_option linter.unusedSimpArgs false

/-- The slice value v holds n elements of sz cells each: just the cells cs, in a block of its own from 'base' on. -/
def OwnN (w : World) (base e sz : Nat) (v : Value) (n : Nat) (cs : List Value) : Prop := w.ownsRow base e sz v n cs
section
variable {w w' : World} {base e sz n : Nat} {v : Value} {cs : List Value}
theorem OwnN.len (h : OwnN w base e sz v n cs) : cs.length = n * sz := h.1
theorem OwnN.nil (w : World) (base e sz : Nat) : OwnN w base e sz (.slice none 0 0) 0 [] := World.ownsRow_nil w base e sz
theorem OwnN.new (w : World) (base e sz : Nat) (hb : base ≤ w.heap.size) : OwnN (w.alloc (.cells #[] e)) base e sz (.slice (some ⟨w.heap.size, 0, none⟩) 0 0) 0 [] := by
  have := World.ownsRow_lit (base := base) (e := e) (size := sz) w #[] 0 hb (by simp [maxLen]) (by simp)
  exact this
theorem OwnN.keep (h : OwnN w base e sz v n cs) (hk : ∀ k, v.ownBlock = some k → w'.heap[k]? = w.heap[k]?) : OwnN w' base e sz v n cs := by
  refine ⟨h.1, ?_⟩
  rcases h.2 with hn | ⟨g, cap, cur, rfl, hb, hg, rest⟩
  · exact .inl hn
  · exact .inr ⟨g, cap, cur, rfl, hb, (hk g rfl).trans hg, rest⟩
theorem OwnN.lt (h : OwnN w base e sz v n cs) : ∀ k, v.ownBlock = some k → base ≤ k ∧ k < w.heap.size := World.ownsRow.lt h
theorem OwnN.mono {b' : Nat} (h : OwnN w base e sz v n cs) (hb : b' ≤ base) : OwnN w b' e sz v n cs := by
  refine ⟨h.1, ?_⟩
  rcases h.2 with hn | ⟨g, cap, cur, rfl, hg0, rest⟩
  · exact .inl hn
  · exact .inr ⟨g, cap, cur, rfl, Nat.le_trans hb hg0, rest⟩
theorem OwnN.form (h : OwnN w base e sz v n cs) : (v = .slice none 0 0 ∧ n = 0) ∨ ∃ g cap, v = .slice (some ⟨g, 0, none⟩) n cap := by
  rcases h.2 with h | ⟨g, cap, cur, rfl, _⟩
  · exact .inl h
  · exact .inr ⟨g, cap, rfl⟩
theorem OwnN.blk (h : OwnN w base e sz v n cs) (hn : 0 < n) : ∃ g cap, v = .slice (some ⟨g, 0, none⟩) n cap := by
  rcases h.form with ⟨_, h0⟩ | h
  · omega
  · exact h
theorem OwnN.cellAt {g cap : Nat} (h : OwnN w base e sz (.slice (some ⟨g, 0, none⟩) n cap) n cs) (j : Nat) (u : Value) (hu : cs[j]? = some u) : w.cell? ⟨g, j, none⟩ = some u := by
  have hj : j < n * sz := by rw [← h.len]; exact (List.getElem?_eq_some_iff.1 hu).1
  rw [World.ownsRow.cellAt h j hj]; exact hu
theorem OwnN.frozenAt {g cap : Nat} (h : OwnN w base e sz (.slice (some ⟨g, 0, none⟩) n cap) n cs) (j : Nat) : w.frozen? ⟨g, j, none⟩ = false := World.ownsRow.frozenAt h j
theorem OwnN.set {g cap : Nat} (h : OwnN w base e sz (.slice (some ⟨g, 0, none⟩) n cap) n cs) (j : Nat) (u : Value) : OwnN (w.setCell ⟨g, j, none⟩ u) base e sz (.slice (some ⟨g, 0, none⟩) n cap) n (cs.set j u) := (World.ownsRow.stored h j u).1
/-- One element's cells, as a load of it wants them. -/
theorem OwnN.range {g cap : Nat} (h : OwnN w base e sz (.slice (some ⟨g, 0, none⟩) n cap) n cs) (o : Nat) (l : List Value) (hl : ∀ j, j < l.length → cs[o + j]? = l[j]?) : w.rangeAt g o l := fun j u hu => by
  have hj := (List.getElem?_eq_some_iff.1 hu).1
  exact h.cellAt (o + j) u ((hl j hj).trans hu)
end
def Asn.ownN (base e sz : Nat) (v : Value) (n : Nat) (cs : List Value) : Asn := ⟨fun k => v.ownBlock = some k, fun w => OwnN w base e sz v n cs, fun h hk => h.keep hk, fun h k hk => (h.lt k hk).2⟩

/-- One element appended, as the walk meets it: behind its box. -/
theorem appN {P : Program} {ops : Array Oper} {rest : List Oper} {o : Oper} {a : Act} {W : World} {Q : Exit → Act → World → Prop} (t e : TypeId) (z : Value) (sz bytes : Nat)
    (ht : P.underlying t = some (.slice e)) (hinfo : (P.info? e).map (fun i => (i.zero, i.size, i.bytes)) = some (some z, sz, bytes)) (hz : z.cells.size = sz) (hsz : 0 < sz) (hb : bytes ≤ 64)
    (hgd : o.guard = none) (s x : Operand) (ho : o.op = .call { callee := .builtin .append, args := #[s, x], argTypes := #[t, t] })
    (base : Nat) (v : Value) (n : Nat) (cs : List Value) (hs : a.eval s = v) (hown : OwnN W base e sz v n cs) (hbase : base ≤ W.heap.size) (news : List Value) (hnl : news.length = sz) (hc1 : ∀ u ∈ news, u.oneCell' = true)
    (hx : a.eval x = .slice (some ⟨W.heap.size, 0, none⟩) 1 1) (hlen : n ≤ 1000000000)
    (h : ∀ g cap w', OwnN w' base e sz (.slice (some ⟨g, 0, none⟩) (n + 1) cap) (n + 1) (cs ++ news) → Below base W w' → (∀ k, k < W.heap.size → v.ownBlock ≠ some k → w'.heap[k]? = W.heap[k]?) → W.heap.size < w'.heap.size → (v.ownBlock = some g ∨ W.heap.size < g) →
      wpList P ops Q rest (a.put o.dst (.slice (some ⟨g, 0, none⟩) (n + 1) cap)) w') :
    wpList P ops Q (o :: rest) a (W.alloc (.cells news.toArray e)) := by
  obtain ⟨i, hi, hz0, hz1, hz2⟩ := info_parts hinfo
  refine wpList_plain hgd fun K hK => ?_
  refine wp_append_lies (W.alloc (.cells news.toArray e)) s x t ho base e i z sz bytes ht hi hz0 hz1 hz2 hz hsz v n cs hs (World.ownsRow.alloc hown _) ⟨W.heap.size, 0, none⟩ 1 1 news hx (by rw [hnl, Nat.one_mul])
    (fun j u hu => ?_) hc1 (by omega) (by simp only [maxLen]; omega) (Nat.le_trans (Nat.mul_le_mul_left _ hb) (by omega)) (by simp; omega) (W.heap.size + 1) (by simp) ?_
  · rw [Addr.add_mid, Nat.zero_add, cell_of_row _ W.heap.size j _ _ _ (heap_alloc_new W _)]
    simpa using hu
  · intro g cap w' h1 h2 h3 h4
    have hsz' : W.heap.size < w'.heap.size := by have := h2.size; simp at this; omega
    have hold : ∀ k, k < W.heap.size → v.ownBlock ≠ some k → w'.heap[k]? = W.heap[k]? := fun k hk hne => by
      rw [h2.block k (by simp; omega) (fun e => hne e.symm)]
      exact Below.heap_alloc W _ k hk
    exact hK _ _ (h g cap w' h1 ⟨h2.os, h2.tape, h2.output, by omega, fun k hk => hold k (by omega) (fun e => by have := (hown.lt k e).1; omega)⟩ hold hsz' (h3.imp id (fun e => by omega)))

section
variable {w w' W w0 : World} {L : List Asn} {base : Nat} {a b c d e f : Asn}
theorem St.n0 {bs t sz n : Nat} {v : Value} {cs : List Value} (h : St base w0 (Asn.ownN bs t sz v n cs :: L) w) : OwnN w bs t sz v n cs := h.g0
theorem St.n1 {bs t sz n : Nat} {v : Value} {cs : List Value} (h : St base w0 (a :: Asn.ownN bs t sz v n cs :: L) w) : OwnN w bs t sz v n cs := h.g1
theorem St.n2 {bs t sz n : Nat} {v : Value} {cs : List Value} (h : St base w0 (a :: b :: Asn.ownN bs t sz v n cs :: L) w) : OwnN w bs t sz v n cs := h.g2
theorem St.n3 {bs t sz n : Nat} {v : Value} {cs : List Value} (h : St base w0 (a :: b :: c :: Asn.ownN bs t sz v n cs :: L) w) : OwnN w bs t sz v n cs := h.g3
theorem St.n4 {bs t sz n : Nat} {v : Value} {cs : List Value} (h : St base w0 (a :: b :: c :: d :: Asn.ownN bs t sz v n cs :: L) w) : OwnN w bs t sz v n cs := h.g4
theorem St.n5 {bs t sz n : Nat} {v : Value} {cs : List Value} (h : St base w0 (a :: b :: c :: d :: e :: Asn.ownN bs t sz v n cs :: L) w) : OwnN w bs t sz v n cs := h.g5
theorem St.nilN (h : St base w0 L w) (t sz : Nat) : St base w0 (Asn.ownN base t sz (.slice none 0 0) 0 [] :: L) w := h.push (a := Asn.ownN base t sz _ 0 []) (OwnN.nil _ _ _ _) fun k hk => by cases hk
theorem St.newN (h : St base w0 L w) (t sz : Nat) : St base w0 (Asn.ownN base t sz (.slice (some ⟨w.heap.size, 0, none⟩) 0 0) 0 [] :: L) (w.alloc (.cells #[] t)) :=
  h.allocPush (a := Asn.ownN base t sz _ 0 []) _ (OwnN.new w base t sz h.le) fun k hk => by
    have : w.heap.size = k := by simpa [Asn.ownN, Value.ownBlock] using hk
    exact this.symm
theorem St.appdN {t sz n n' gn m cap : Nat} {v : Value} {cs cs' : List Value} (h : St base w0 (Asn.ownN base t sz v n cs :: L) w) (hO : OwnN w' base t sz (.slice (some ⟨gn, 0, none⟩) m cap) n' cs') (hb : Below base w w') (hold : ∀ k, k < w.heap.size → v.ownBlock ≠ some k → w'.heap[k]? = w.heap[k]?)
    (hg : v.ownBlock = some gn ∨ w.heap.size ≤ gn) : St base w0 (Asn.ownN base t sz (.slice (some ⟨gn, 0, none⟩) m cap) n' cs' :: L) w' :=
  h.turn (a' := Asn.ownN base t sz _ n' cs') hO (fun k hk => by
    have e : gn = k := by simpa [Asn.ownN, Value.ownBlock] using hk
    subst e
    exact hg) (fun k hk => ((show OwnN w base t sz v n cs from h.star.1).lt k hk).1) hb fun k hk hne => hold k hk hne
theorem St.setN {t sz gn n cap : Nat} {cs : List Value} (h : St base w0 (Asn.ownN base t sz (.slice (some ⟨gn, 0, none⟩) n cap) n cs :: L) w) (i : Nat) (u : Value) : St base w0 (Asn.ownN base t sz (.slice (some ⟨gn, 0, none⟩) n cap) n (cs.set i u) :: L) (w.setCell ⟨gn, i, none⟩ u) :=
  have hb : base ≤ gn := ((show OwnN w base t sz _ n cs from h.star.1).lt gn rfl).1
  h.turn (a' := Asn.ownN base t sz _ n (cs.set i u)) (OwnN.set h.star.1 i u) (fun k hk => .inl hk) (fun k hk => ((show OwnN w base t sz _ n cs from h.star.1).lt k hk).1) ((Below.refl _ _).setCell hb u)
    fun k _ hk => heap_setCell_other w ⟨gn, i, none⟩ k u fun e => hk (show Value.ownBlock _ = some k by rw [e]; rfl)
theorem St.callN {t sz n : Nat} {v : Value} {cs : List Value} (h : St base w0 L w) (hb : Below w.heap.size w w') (ha : OwnN w' w.heap.size t sz v n cs) : St base w0 (Asn.ownN base t sz v n cs :: L) w' :=
  h.callPush (a := Asn.ownN base t sz v n cs) hb (ha.mono h.le) fun k hk => (ha.lt k hk).1
theorem St.appNw {ops : Array Oper} {rest : List Oper} {o : Oper} {act : Act} {Q : Exit → Act → World → Prop} (t e : TypeId) (z : Value) (sz bytes : Nat)
    (ht : Tryz.prog.underlying t = some (.slice e)) (hinfo : (Tryz.prog.info? e).map (fun i => (i.zero, i.size, i.bytes)) = some (some z, sz, bytes)) (hz : z.cells.size = sz) (hsz : 0 < sz) (hb : bytes ≤ 64)
    (hgd : o.guard = none) (s x : Operand) (ho : o.op = .call { callee := .builtin .append, args := #[s, x], argTypes := #[t, t] })
    (v : Value) (n : Nat) (cs : List Value) (hs : act.eval s = v) (hS : St base w0 (Asn.ownN base e sz v n cs :: L) W) (news : List Value) (hnl : news.length = sz) (hc1 : ∀ u ∈ news, u.oneCell' = true)
    (hx : act.eval x = .slice (some ⟨W.heap.size, 0, none⟩) 1 1) (hlen : n ≤ 1000000000)
    (h : ∀ g cap w', St base w0 (Asn.ownN base e sz (.slice (some ⟨g, 0, none⟩) (n + 1) cap) (n + 1) (cs ++ news) :: L) w' → wpList Tryz.prog ops Q rest (act.put o.dst (.slice (some ⟨g, 0, none⟩) (n + 1) cap)) w') :
    wpList Tryz.prog ops Q (o :: rest) act (W.alloc (.cells news.toArray e)) := by
  refine appN t e z sz bytes ht hinfo hz hsz hb hgd s x ho base v n cs hs hS.star.1 hS.le news hnl hc1 hx hlen ?_
  intro g cap w' h1 h2 h3 h4 h5
  exact h g cap w' (hS.appdN h1 h2 h3 (h5.imp id Nat.le_of_lt))
end
end Go.Proofs.YthmcdfjijkecfaaGreat

/- The reference's machines with any number of states. -/
namespace Go.Proofs.YthmcdfjijkecfaaGreat
open Go.RowKit
set_option linter.unusedVariables false
set_option linter.unusedSimpArgs false

/-- An element of several cells appended, at a step of a region that draws: it lies in a box. -/
theorem St.stepN {ops : Array Oper} {o : Oper} {act : Act} {W w0 : World} {K : Act → World → Prop} {Q : Exit → Act → World → Prop} {E : Prop} {L : List Asn} {base : Nat} (t e tb : TypeId) (z : Value) (sz bytes : Nat)
    (ht : Tryz.prog.underlying t = some (.slice e)) (hinfo : (Tryz.prog.info? e).map (fun i => (i.zero, i.size, i.bytes)) = some (some z, sz, bytes)) (hz : z.cells.size = sz) (hsz : 0 < sz) (hb : bytes ≤ 64)
    (hgd : o.guard = none) (s x : Operand) (ho : o.op = .call { callee := .builtin .append, args := #[s, x], argTypes := #[t, t] })
    (v : Value) (n : Nat) (cs : List Value) (hs : act.eval s = v) {B : Nat} {news : List Value} (hS : St base w0 (Asn.ownN base e sz v n cs :: Asn.blk B news.toArray tb :: L) W) (hnl : news.length = sz) (hc1 : ∀ u ∈ news, u.oneCell' = true)
    (hx : act.eval x = .slice (some ⟨B, 0, none⟩) 1 1) (hlen : n ≤ 1000000)
    (h : ∀ g cap w', St base w0 (Asn.ownN base e sz (.slice (some ⟨g, 0, none⟩) (n + 1) cap) (n + 1) (cs ++ news) :: Asn.blk B news.toArray tb :: L) w' → K (act.put o.dst (.slice (some ⟨g, 0, none⟩) (n + 1) cap)) w') :
    if Region.wanted o (yielded ops act.tmps) = true then Oper.wp Tryz.prog o act W K Q else E := by
  obtain ⟨i, hi, hz0, hz1, hz2⟩ := info_parts hinfo
  have hw : Region.wanted o (yielded ops act.tmps) = true := by simp [Region.wanted, hgd]
  rw [if_pos hw]
  have hown : OwnN W base e sz v n cs := hS.star.1
  refine wp_append_lies W s x t ho base e i z sz bytes ht hi hz0 hz1 hz2 hz hsz v n cs hs hown ⟨B, 0, none⟩ 1 1 news hx (by rw [hnl, Nat.one_mul])
    (fun j u hu => ?_) hc1 (by omega) (by simp only [maxLen]; omega) (Nat.le_trans (Nat.mul_le_mul_left _ hb) (by omega)) hS.le _ rfl ?_
  · rw [Addr.add_mid, Nat.zero_add, cell_of_row W B j _ _ _ hS.star.2.2.1]
    simpa using hu
  · intro g cap w' h1 h2 h3 h4
    have hold : ∀ k, k < W.heap.size → v.ownBlock ≠ some k → w'.heap[k]? = W.heap[k]? := fun k hk hne => h2.block k hk (fun e => hne e.symm)
    exact h g cap w' (hS.appdN h1 ⟨h2.os, h2.tape, h2.output, h2.size, fun k hk => hold k (by have := hS.le; omega) (fun e => by have := (hown.lt k e).1; omega)⟩ hold (h3.imp id (fun e => Nat.le_of_eq e.symm)))

theorem OwnN.oneCell {w : World} {b e sz n : Nat} {v : Value} {cs : List Value} (h : OwnN w b e sz v n cs) : v.oneCell' = true := by
  rcases h.2 with ⟨rfl, _⟩ | ⟨g, cap, cur, rfl, _⟩ <;> rfl
/-- A struct or an array in a block of its own is handed back. -/
theorem ret_blk {P : Program} {fn : Func} {R : Ending → World → Prop} {a : Act} {w : World} {p ty : Nat} (h : fn.results = #[.cell p ty]) {g t : Nat} {cs : Array Value} {d : TypeDesc}
    (hp : a.tmps.getD p undef = .pointer (some ⟨g, 0, none⟩)) (hb : w.heap[g]? = some (.cells cs t (0, 0))) (hu : P.underlying ty = some d) (hd : (match d with | .struct _ | .array _ _ => true | _ => false) = true)
    (hi : (P.info? ty).map (·.size) = some cs.size) (hdf : a.defers = []) (hR : R (.returned (.agg cs)) w) : bodyPost P fn R .ret a w :=
  bodyPost_ret (results_cell_row h a.tmps w g t _ _ d hp hb hu hd hi) hdf hR

/-- The rows of a function as cells, three a row. -/
def rcs (k : IntKind) (f : Nat → Nat → Nat) (L n : Nat) : List Value := (List.range (n * 3)).map fun p => .int k ((if p % 3 < L then f (p / 3) (p % 3) else 0 : Nat) : Int)
def rc1 (k : IntKind) (f : Nat → Nat → Nat) (L q : Nat) : List Value := (List.range 3).map fun x => .int k ((if x < L then f q x else 0 : Nat) : Int)
theorem rcs_length (k : IntKind) (f : Nat → Nat → Nat) (L n : Nat) : (rcs k f L n).length = n * 3 := by simp [rcs]
theorem rc1_one (k : IntKind) (f : Nat → Nat → Nat) (L q : Nat) : ∀ u ∈ rc1 k f L q, u.oneCell' = true := by
  intro u hu
  obtain ⟨x, _, rfl⟩ := List.mem_map.1 hu
  rfl
theorem rc1_lit (k : IntKind) (f : Nat → Nat → Nat) (L q : Nat) : ∃ a b c : Nat, rc1 k f L q = [.int k (a : Int), .int k (b : Int), .int k (c : Int)] := ⟨_, _, _, rfl⟩
theorem rc1_get (k : IntKind) (f : Nat → Nat → Nat) (L q x : Nat) (hx : x < 3) : (rc1 k f L q)[x]? = some (.int k ((if x < L then f q x else 0 : Nat) : Int)) := by simp [rc1, hx]
theorem rcs_snoc (k : IntKind) (f : Nat → Nat → Nat) (L n : Nat) : rcs k f L (n + 1) = rcs k f L n ++ rc1 k f L n := by
  unfold rcs rc1
  rw [show (n + 1) * 3 = n * 3 + 3 by omega, List.range_add, List.map_append, List.map_map]
  congr 1
  apply List.map_congr_left
  intro x hx
  have hx3 := List.mem_range.1 hx
  simp only [Function.comp]
  rw [show (n * 3 + x) % 3 = x by omega, show (n * 3 + x) / 3 = n by omega]
theorem rcs_get (k : IntKind) (f : Nat → Nat → Nat) (L n q x : Nat) (hq : q < n) (hx : x < 3) : (rcs k f L n)[q * 3 + x]? = some (.int k ((if x < L then f q x else 0 : Nat) : Int)) := by
  unfold rcs
  rw [List.getElem?_map, List.getElem?_range (by omega), Option.map_some, show (q * 3 + x) % 3 = x by omega, show (q * 3 + x) / 3 = q by omega]
theorem rcs_row (k : IntKind) (f : Nat → Nat → Nat) (L n q : Nat) (hq : q < n) : ∀ j, j < (rc1 k f L q).length → (rcs k f L n)[q * 3 + j]? = (rc1 k f L q)[j]? := fun j hj => by
  have hj3 : j < 3 := by simpa [rc1] using hj
  rw [rcs_get k f L n q j hq hj3, rc1_get k f L q j hj3]
theorem rcs_in (k : IntKind) (f : Nat → Nat → Nat) (L n q x : Nat) (hq : q < n) (hx : x < L) (hL : L ≤ 3) : (rcs k f L n)[q * 3 + x]? = some (.int k (f q x : Nat)) := by
  rw [rcs_get k f L n q x hq (by omega), if_pos hx]

theorem info_r3 : (Tryz.prog.info? 185).map (fun i => (i.zero, i.size, i.bytes)) = some (some (.agg #[.int .i64 0, .int .i64 0, .int .i64 0]), 3, 24) := by kernel_rfl
theorem info_b3 : (Tryz.prog.info? 24).map (fun i => (i.zero, i.size, i.bytes)) = some (some (.agg #[.int .u8 0, .int .u8 0, .int .u8 0]), 3, 3) := by kernel_rfl
theorem sz_r3 : (Tryz.prog.info? 185).map (·.size) = some 3 := by kernel_rfl
theorem sz_large : (Tryz.prog.info? 184).map (·.size) = some 3 := by kernel_rfl

/-- A large machine as a value: what it holds. -/
def LG (w : World) (base : Nat) (vN vO : Value) (T : Tab) : Prop :=
  OwnN w base 185 3 vN T.n (rcs .i64 T.nx T.L T.n) ∧ OwnN w base 24 3 vO T.n (rcs .u8 T.ot T.L T.n)
theorem LG.below {w w' : World} {base : Nat} {vN vO : Value} {T : Tab} (h : LG w base vN vO T) (hb : Below w.heap.size w w') : LG w' base vN vO T :=
  ⟨h.1.keep fun k hk => hb.block k (h.1.lt k hk).2, h.2.keep fun k hk => hb.block k (h.2.lt k hk).2⟩

/-- A row that is filled. -/
def fil3 (f : Nat → Nat → Nat) (q x : Nat) : Array Value := #[.int .i64 ((if 0 < x then f q 0 else 0 : Nat) : Int), .int .i64 ((if 1 < x then f q 1 else 0 : Nat) : Int), .int .i64 ((if 2 < x then f q 2 else 0 : Nat) : Int)]
theorem fil3_set (f : Nat → Nat → Nat) (q x : Nat) (hx : x < 3) : (fil3 f q x).setIfInBounds x (.int .i64 (f q x : Nat)) = fil3 f q (x + 1) := by
  have : x = 0 ∨ x = 1 ∨ x = 2 := by omega
  rcases this with rfl | rfl | rfl <;> simp [fil3, Array.setIfInBounds]
theorem fil3_all (f : Nat → Nat → Nat) (q L : Nat) : fil3 f q L = (rc1 .i64 f L q).toArray := rfl
theorem fil3_get (f : Nat → Nat → Nat) (q x j : Nat) (hj : j < 3) : ∃ u, (fil3 f q x)[j]? = some u := ⟨_, Array.getElem?_eq_getElem (by simpa [fil3] using hj)⟩

theorem mf_row {m : Mach} {l s : Nat} (g : Good m l s) (q : Nat) (hq : q < s) : ∀ j, j < 3 → mf m (50 + q * 3 + j) = .int .u8 ((if j < l then (tabOf m l s).ot q j else 0 : Nat) : Int) := fun j hj => by
  rw [mf_ot]
  by_cases h : j < l
  · rw [if_pos h]; rfl
  · rw [if_neg h, (g.z q j (by have := g.s16; omega) hj (fun hh => h hh.2)).2]

end Go.Proofs.YthmcdfjijkecfaaGreat
