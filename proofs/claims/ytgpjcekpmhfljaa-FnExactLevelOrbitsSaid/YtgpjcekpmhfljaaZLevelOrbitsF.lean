/- What the proof of LevelOrbits leans on, part 6 of 13. -/
import Derived.Test.YtgpjcekpmhfljaaZLevelOrbitsE
import Derived.WalkSpells
/- The group of a machine, in its block. -/
namespace Go.Proofs.Ytgpjcekpmhfljaa
open Go.RowKit
set_option linter.unusedVariables false
set_option linter.unusedSimpArgs false
-- @LONG

/-- The cells of a group: a machine, its inverse, the least equal states, the trivial ones. -/
def gcells (m k : Mach) (v1 v2 : Value) : Array Value := mcells m ++ mcells k ++ #[v1, v2]
theorem gcells_m {m k : Mach} {v1 v2 : Value} (i : Nat) (h : i < 98) : (gcells m k v1 v2)[i]? = some (mf m i) := by
  unfold gcells
  rw [Array.append_assoc, Array.getElem?_append_left (by rw [size_mcells]; exact h)]
  exact mcells_get m i h
theorem gcells_k {m k : Mach} {v1 v2 : Value} (i : Nat) (h : i < 98) : (gcells m k v1 v2)[98 + i]? = some (mf k i) := by
  unfold gcells
  rw [Array.append_assoc, Array.getElem?_append_right (by rw [size_mcells]; omega), size_mcells, Array.getElem?_append_left (by rw [size_mcells]; omega), show 98 + i - 98 = i by omega]
  exact mcells_get k i h
theorem gcells_1 {m k : Mach} {v1 v2 : Value} : (gcells m k v1 v2)[196]? = some v1 := by
  unfold gcells
  rw [Array.getElem?_append_right (by rw [Array.size_append, size_mcells, size_mcells]; omega), Array.size_append, size_mcells, size_mcells]
  rfl
theorem gcells_2 {m k : Mach} {v1 v2 : Value} : (gcells m k v1 v2)[197]? = some v2 := by
  unfold gcells
  rw [Array.getElem?_append_right (by rw [Array.size_append, size_mcells, size_mcells]; omega), Array.size_append, size_mcells, size_mcells]
  rfl
/-- A group in its block, with what it points to. -/
structure GrB (w : World) (G base : Nat) (m : Mach) (l s : Nat) (v1 v2 : Value) : Prop where
  blk : w.heap[G]? = some (.cells (gcells m (inv m l s) v1 v2) 141 (0, 0))
  of : Own w base 2 v1 (nats ((List.range s).map (fix (tabOf m l s))))
  tr : Own w base 4 v2 (bls (tvL (tabOf m l s)))
section
variable {w w' : World} {G base : Nat} {m : Mach} {l s : Nat} {v1 v2 : Value}
theorem GrB.lt (h : GrB w G base m l s v1 v2) : G < w.heap.size := (Array.getElem?_eq_some_iff.1 h.blk).1
theorem GrB.below (h : GrB w G base m l s v1 v2) (hb : Below w.heap.size w w') : GrB w' G base m l s v1 v2 := ⟨(hb.block G h.lt).trans h.blk, h.of.below hb, h.tr.below hb⟩
theorem GrB.drewN (h : GrB w G base m l s v1 v2) (n : Nat) : GrB (w.drewN n) G base m l s v1 v2 := ⟨h.blk, h.of.drewN n, h.tr.drewN n⟩
theorem GrB.cL (h : GrB w G base m l s v1 v2) : w.cell? ⟨G, 0, none⟩ = some (.int .i64 m.L) := (cell_of_row w G 0 _ _ _ h.blk).trans (gcells_m 0 (by omega))
theorem GrB.cnx (h : GrB w G base m l s v1 v2) (q x : Nat) (hq : q < 16) (hx : x < 3) : w.cell? ⟨G, 2 + q * 3 + x, none⟩ = some (.int .u8 (m.nx (q * 3 + x) : Nat)) := by
  rw [cell_of_row w G _ _ _ _ h.blk, gcells_m _ (by omega), mf_nx m q x hq hx]
theorem GrB.cot (h : GrB w G base m l s v1 v2) (q x : Nat) (hq : q < 16) (hx : x < 3) : w.cell? ⟨G, 50 + q * 3 + x, none⟩ = some (.int .u8 (m.ot (q * 3 + x) : Nat)) := by
  rw [cell_of_row w G _ _ _ _ h.blk, gcells_m _ (by omega), mf_ot m q x]
theorem GrB.bnx (h : GrB w G base m l s v1 v2) (q x : Nat) (hq : q < 16) (hx : x < 3) : w.cell? ⟨G, 98 + (2 + q * 3 + x), none⟩ = some (.int .u8 ((inv m l s).nx (q * 3 + x) : Nat)) := by
  rw [cell_of_row w G _ _ _ _ h.blk, gcells_k _ (by omega), mf_nx _ q x hq hx]
theorem GrB.bot (h : GrB w G base m l s v1 v2) (q x : Nat) (hq : q < 16) (hx : x < 3) : w.cell? ⟨G, 98 + (50 + q * 3 + x), none⟩ = some (.int .u8 ((inv m l s).ot (q * 3 + x) : Nat)) := by
  rw [cell_of_row w G _ _ _ _ h.blk, gcells_k _ (by omega), mf_ot _ q x]
theorem GrB.c1 (h : GrB w G base m l s v1 v2) : w.cell? ⟨G, 196, none⟩ = some v1 := (cell_of_row w G 196 _ _ _ h.blk).trans gcells_1
theorem GrB.c2 (h : GrB w G base m l s v1 v2) : w.cell? ⟨G, 197, none⟩ = some v2 := (cell_of_row w G 197 _ _ _ h.blk).trans gcells_2
end
set_option maxRecDepth 100000 in
theorem built_group (m k : Mach) (A1 A2 : Option Addr) (n1 c1 n2 c2 : Nat) : Try.prog.built 141 [(0, .agg (mcells m)), (1, .agg (mcells k)), (2, .slice A1 n1 c1), (3, .slice A2 n2 c2)] = some (gcells m k (.slice A1 n1 c1) (.slice A2 n2 c2)) := by kernel_rfl
theorem exec_build {a : Act} {o : Oper} {W : World} {t : TypeId} (parts : Array (Nat × Operand)) {cells : Array Value} (ho : o.op = .build t parts) (h : Try.prog.built t (parts.map fun (i, x) => (i, a.eval x)).toList = some cells) :
    (execOp a.eval o).run Try.prog W = .ok (.value (.agg cells)) W := by
  have h2 := run_build (P := Try.prog) W t _ cells h
  unfold execOp
  simp only [ho, Sem.run_bind, h2, Result.andThen_ok, Sem.run_pure]
theorem exec_group {a : Act} {o : Oper} {W : World} (x y z u : Operand) (ho : o.op = .build 141 #[(0, x), (1, y), (2, z), (3, u)]) (m k : Mach) (A1 A2 : Option Addr) (n1 c1 n2 c2 : Nat)
    (hx : a.eval x = .agg (mcells m)) (hy : a.eval y = .agg (mcells k)) (hz : a.eval z = .slice A1 n1 c1) (hu : a.eval u = .slice A2 n2 c2) :
    (execOp a.eval o).run Try.prog W = .ok (.value (.agg (gcells m k (.slice A1 n1 c1) (.slice A2 n2 c2)))) W := by
  have e : ((#[(0, x), (1, y), (2, z), (3, u)] : Array (Nat × Operand)).map fun (i, x) => (i, a.eval x)).toList = [(0, .agg (mcells m)), (1, .agg (mcells k)), (2, .slice A1 n1 c1), (3, .slice A2 n2 c2)] := by simp [hx, hy, hz, hu]
  exact exec_build _ ho (by rw [e]; exact built_group m k A1 A2 n1 c1 n2 c2)

set_option maxHeartbeats 4000000 in
set_option maxRecDepth 100000 in
theorem newGroup_any (w : World) (m : Mach) (hk : m.Ok) (l s : Nat) (g : Good m l s) :
    Calls Try.prog 135 #[.agg (mcells m)] w fun e w' => ∃ G v1 v2, e = .returned (.pointer (some ⟨G, 0, none⟩)) ∧ w.heap.size ≤ G ∧ GrB w' G w.heap.size m l s v1 v2 ∧ Below w.heap.size w w' := by
  have hS := hid ((St.start w).newMB m 29)
  have hta := hid (fun W hW => table_any w.heap.size W m hW l s g)
  have hiv := hid (fun W hW => inverse_any w.heap.size W m hW l s g hk)
  have hle := hid (fun W G vN vO hW => least_any W G vN vO (tabOf m l s) (tabOf_ok g) (by show l < 100; have := g.l3; omega) (by show 0 < l; have := g.l2; omega) (by show s < 100000; have := g.s16; omega) hW)
  have htr := hid (fun W G vN vO hW => trivial_any W G vN vO (tabOf m l s) (tabOf_ok g) g.l3 (by show 0 < l; have := g.l2; omega) (by show s < 100000; have := g.s16; omega) hW)
  have hgb := hid (fun W G v1 v2 base h1 h2 h3 => (GrB.mk h1 h2 h3 : GrB W G base m l s v1 v2))
  replace hk := hid hk; replace g := hid g
  go_enter Try.func135, Try.ntmps135
  go_upto_region 2 with (first
    | (go_at_call 157; (with_reducible refine (hta.out _ hS.out.m0).mono ?_); rintro e w1 ⟨vN, vO, rfl, hT, hb⟩; replace hS := hid (hS.out.call hb); replace hT := hid hT; clear hb))
  rw [heap_alloc_size] at hT
  generalize w.heap.size + 1 = G1 at *
  replace hS := hid hS.out.drew
  replace hT := hid (show TB w1.drew G1 vN vO (tabOf m l s) from hT.out.below (below_drewN (Below.refl _ _) 1))
  refine wp_region_heldL (L := [(7, (fun w' : World => MB w' 29 w.heap.size m))]) (by kernel_rfl) (HeldL.cons (fun _ => hS.out.m0) HeldL.nil) (fun hHeld => ?_)
  generalize w1.drew = wa at *
  refine wpAnyL_takeP (i := 0) 7 [6] (v := (.agg (mcells m))) (fun w' : World => MB w' 29 w.heap.size m) rfl (by kernel_rfl) (by kernel_rfl) (by kernel_rfl) (by rfl) (by kernel_rfl) (by simp) (fun _ _ _ h => h) (Or.inl ⟨by rfl, ?_⟩) (by assumption) ?_
  · (intro W hW; exact exec_load _ rfl rfl (load_run hW))
  intro hHeld'
  clear hHeld; have hHeld := hHeld'; clear hHeld'
  try simp only [Act.put, List.getElem_toArray, List.getElem_cons_succ, List.getElem_cons_zero, List.setIfInBounds_toArray, List.set_cons_zero, List.set_cons_succ]
  refine wpAnyL_take0 (i := 2) (v := ?_) rfl (by kernel_rfl) (by kernel_rfl) (by kernel_rfl) (by rfl) (fun _ _ _ h => h) (Or.inl ⟨by rfl, ?_⟩) (by assumption) ?_
  rotate_left
  · (intro W _; go_simp; (with_reducible rfl))
  intro hHeld'
  clear hHeld; have hHeld := hHeld'; clear hHeld'
  try simp only [Act.put, List.getElem_toArray, List.getElem_cons_succ, List.getElem_cons_zero, List.setIfInBounds_toArray, List.set_cons_zero, List.set_cons_succ]
  refine wpAnyL_take0 (i := 4) (v := ?_) rfl (by kernel_rfl) (by kernel_rfl) (by kernel_rfl) (by rfl) (fun _ _ _ h => h) (Or.inl ⟨by rfl, ?_⟩) (by assumption) ?_
  rotate_left
  · (intro W _; go_simp; (with_reducible rfl))
  intro hHeld'
  clear hHeld; have hHeld := hHeld'; clear hHeld'
  try simp only [Act.put, List.getElem_toArray, List.getElem_cons_succ, List.getElem_cons_zero, List.setIfInBounds_toArray, List.set_cons_zero, List.set_cons_succ]
  refine wpAnyL_ready (rs := [1]) (by kernel_rfl) (by simp) ?_
  refine AllReadyL.cons rfl (fun K hK => ?_) AllReadyL.nil
  go_simp
  (with_reducible refine (hiv.out _ hS.out.m0).mono ?_)
  rintro e w2 ⟨rfl, hb⟩
  replace hS := hid (hS.out.call hb)
  replace hT := hid (hT.out.below hb)
  clear hb
  go_simp
  refine hK.out _ _ (HeldL.cons (fun _ => hS.out.m0) HeldL.nil) (fun hHeld' => ?_)
  clear hK K hHeld; have hHeld := hHeld'; clear hHeld'
  try simp only [Act.put, List.getElem_toArray, List.getElem_cons_succ, List.getElem_cons_zero, List.setIfInBounds_toArray, List.set_cons_zero, List.set_cons_succ]
  refine wpAnyL_ready (rs := [3]) (by kernel_rfl) (by simp) ?_
  refine AllReadyL.cons rfl (fun K hK => ?_) AllReadyL.nil
  go_simp
  (with_reducible refine (hle.out _ _ _ _ hT.out).mono ?_)
  rintro e w3 ⟨v1, rfl, hO1, hb⟩
  replace hS := hid (hS.out.callOwn hb hO1)
  replace hT := hid (hT.out.below hb)
  clear hb hO1
  go_simp
  refine hK.out _ _ (HeldL.cons (fun _ => hS.out.m1) HeldL.nil) (fun hHeld' => ?_)
  clear hK K hHeld; have hHeld := hHeld'; clear hHeld'
  try simp only [Act.put, List.getElem_toArray, List.getElem_cons_succ, List.getElem_cons_zero, List.setIfInBounds_toArray, List.set_cons_zero, List.set_cons_succ]
  refine wpAnyL_ready (rs := [5]) (by kernel_rfl) (by simp) ?_
  refine AllReadyL.cons rfl (fun K hK => ?_) AllReadyL.nil
  go_simp
  (with_reducible refine (htr.out _ _ _ _ hT.out).mono ?_)
  rintro e w4 ⟨v2, rfl, hO2, hb⟩
  replace hS := hid (hS.out.callOwn hb hO2)
  clear hb hO2 hT
  obtain ⟨A1, c1, rfl, _, _⟩ := hS.out.o1.form
  obtain ⟨A2, c2, rfl, _, _⟩ := hS.out.o0.form
  go_simp
  refine hK.out _ _ (HeldL.cons (fun _ => hS.out.m2) HeldL.nil) (fun hHeld' => ?_)
  clear hK K hHeld; have hHeld := hHeld'; clear hHeld'
  try simp only [Act.put, List.getElem_toArray, List.getElem_cons_succ, List.getElem_cons_zero, List.setIfInBounds_toArray, List.set_cons_zero, List.set_cons_succ]
  refine wpAnyL_take0 (i := 6) (v := (.agg (gcells m (inv m l s) (.slice A1 (nats (List.map (fix (tabOf m l s)) (List.range (tabOf m l s).n))).length c1) (.slice A2 (bls (tvL (tabOf m l s))).length c2)))) rfl (by kernel_rfl) (by kernel_rfl) (by kernel_rfl) (by rfl) (fun _ _ _ h => h) (Or.inl ⟨by rfl, ?_⟩) (by assumption) ?_
  · (intro W _; exact exec_group _ _ _ _ rfl m (inv m l s) _ _ _ _ _ _ rfl rfl rfl rfl)
  intro hHeld'
  clear hHeld; have hHeld := hHeld'; clear hHeld'
  try simp only [Act.put, List.getElem_toArray, List.getElem_cons_succ, List.getElem_cons_zero, List.setIfInBounds_toArray, List.set_cons_zero, List.set_cons_succ]
  refine wpAnyL_ready (rs := [7]) (by kernel_rfl) (by simp) ?_
  refine AllReadyL.cons rfl (fun K hK => ?_) AllReadyL.nil
  go_simp
  have hge := hid hS.out.le
  replace hS := hid (hS.out.newBlk (gcells m (inv m l s) (.slice A1 (nats (List.map (fix (tabOf m l s)) (List.range (tabOf m l s).n))).length c1) (.slice A2 (bls (tvL (tabOf m l s))).length c2)) 141)
  generalize w4.heap.size = G at *
  refine hK.out _ _ (HeldL.cons (fun h => absurd h (by decide +kernel)) HeldL.nil) (fun hHeld' => ?_)
  clear hK K hHeld; have hHeld := hHeld'; clear hHeld'
  try simp only [Act.put, List.getElem_toArray, List.getElem_cons_succ, List.getElem_cons_zero, List.setIfInBounds_toArray, List.set_cons_zero, List.set_cons_succ]
  refine wpAnyL_take0 (i := 8) (v := ?_) rfl (by kernel_rfl) (by kernel_rfl) (by kernel_rfl) (by rfl) (fun _ _ _ h => h) (Or.inl ⟨by rfl, ?_⟩) (by assumption) ?_
  rotate_left
  · (intro W _; go_simp; (with_reducible rfl))
  intro hHeld'
  clear hHeld; have hHeld := hHeld'; clear hHeld'
  try simp only [Act.put, List.getElem_toArray, List.getElem_cons_succ, List.getElem_cons_zero, List.setIfInBounds_toArray, List.set_cons_zero, List.set_cons_succ]
  refine wpAnyL_done (by kernel_rfl) ?_ _
  have hfin := hid (hgb.out _ _ _ _ _ hS.out.k0 hS.out.o2 hS.out.o1)
  go_wp2
  go_ret
  exact ⟨G, _, _, rfl, hge.out, hfin.out, hS.out.bel⟩
end Go.Proofs.Ytgpjcekpmhfljaa

/- What a number of a group word makes of a letter: the program's apply, at and image. -/
namespace Go.Proofs.Ytgpjcekpmhfljaa
open Go.RowKit
set_option linter.unusedVariables false
set_option linter.unusedSimpArgs false
-- @LONG

/-- The image of a letter, and the number that goes on. -/
def apO (m : Mach) (l s : Nat) (k : Int) (x : Nat) : Nat := if 0 < k then m.ot ((k - 1).toNat * 3 + x) else (inv m l s).ot ((-k - 1).toNat * 3 + x)
def apN (m : Mach) (l s : Nat) (k : Int) (x : Nat) : Int := if 0 < k then (m.nx ((k - 1).toNat * 3 + x) : Int) + 1 else -((inv m l s).nx ((-k - 1).toNat * 3 + x) : Int) - 1
section
variable {m : Mach} {l s : Nat}
theorem isNum_cases {k : Int} (h : isNum s k) : ∃ q : Nat, q < s ∧ (k = (q : Int) + 1 ∨ k = -((q : Int) + 1)) := by
  obtain ⟨h1, h2, h3⟩ := h
  by_cases hk : 0 < k
  · exact ⟨(k - 1).toNat, by omega, .inl (by omega)⟩
  · exact ⟨(-k - 1).toNat, by omega, .inr (by omega)⟩
theorem apO_pos (q x : Nat) : apO m l s ((q : Int) + 1) x = m.ot (q * 3 + x) := by
  unfold apO; rw [if_pos (by omega), show ((q : Int) + 1 - 1).toNat = q by omega]
theorem apN_pos (q x : Nat) : apN m l s ((q : Int) + 1) x = (m.nx (q * 3 + x) : Int) + 1 := by
  unfold apN; rw [if_pos (by omega), show ((q : Int) + 1 - 1).toNat = q by omega]
theorem apO_neg (q x : Nat) : apO m l s (-((q : Int) + 1)) x = (inv m l s).ot (q * 3 + x) := by
  unfold apO; rw [if_neg (by omega), show (-(-((q : Int) + 1)) - 1).toNat = q by omega]
theorem apN_neg (q x : Nat) : apN m l s (-((q : Int) + 1)) x = -((inv m l s).nx (q * 3 + x) : Int) - 1 := by
  unfold apN; rw [if_neg (by omega), show (-(-((q : Int) + 1)) - 1).toNat = q by omega]
theorem apO_lt (g : Good m l s) {k : Int} (h : isNum s k) {x : Nat} (hx : x < l) : apO m l s k x < l := by
  obtain ⟨q, hq, rfl | rfl⟩ := isNum_cases h
  · rw [apO_pos]; exact g.ot q x hq hx
  · rw [apO_neg]; exact (inv_good g).ot q x hq hx
theorem apN_num (g : Good m l s) {k : Int} (h : isNum s k) {x : Nat} (hx : x < l) : isNum s (apN m l s k x) := by
  obtain ⟨q, hq, rfl | rfl⟩ := isNum_cases h
  · rw [apN_pos]
    have := g.nx q x hq hx
    exact ⟨by omega, by omega, by omega⟩
  · rw [apN_neg]
    have := (inv_good g).nx q x hq hx
    exact ⟨by omega, by omega, by omega⟩
end
/-- The image of a letter under a word, and its section there. -/
def atX (m : Mach) (l s : Nat) : List Int → Nat → Nat
  | [], x => x
  | k :: t, x => atX m l s t (apO m l s k x)
def atS (m : Mach) (l s : Nat) : List Int → Nat → List Int
  | [], _ => []
  | k :: t, x => apN m l s k x :: atS m l s t (apO m l s k x)
section
variable {m : Mach} {l s : Nat}
theorem atX_snoc (u : List Int) (k : Int) : ∀ x, atX m l s (u ++ [k]) x = apO m l s k (atX m l s u x) := by
  induction u with
  | nil => intro x; rfl
  | cons a t ih => intro x; exact ih _
theorem atS_snoc (u : List Int) (k : Int) : ∀ x, atS m l s (u ++ [k]) x = atS m l s u x ++ [apN m l s k (atX m l s u x)] := by
  induction u with
  | nil => intro x; rfl
  | cons a t ih => intro x; show _ :: atS m l s (t ++ [k]) _ = _; rw [ih]; rfl
theorem atS_length (u : List Int) : ∀ x, (atS m l s u x).length = u.length := by
  induction u with
  | nil => intro x; rfl
  | cons a t ih => intro x; show (atS m l s t _).length + 1 = _; rw [ih]; rfl
theorem atX_lt (g : Good m l s) : ∀ (u : List Int) (x : Nat), (∀ k ∈ u, isNum s k) → x < l → atX m l s u x < l
  | [], x, _, hx => hx
  | k :: t, x, h, hx => atX_lt g t _ (fun j hj => h j (List.mem_cons_of_mem _ hj)) (apO_lt g (h k List.mem_cons_self) hx)
theorem atS_num (g : Good m l s) : ∀ (u : List Int) (x : Nat), (∀ k ∈ u, isNum s k) → x < l → ∀ k ∈ atS m l s u x, isNum s k
  | [], _, _, _, k, hk => by simp [atS] at hk
  | a :: t, x, h, hx, k, hk => by
    rcases List.mem_cons.1 hk with rfl | hk
    · exact apN_num g (h a List.mem_cons_self) hx
    · exact atS_num g t _ (fun j hj => h j (List.mem_cons_of_mem _ hj)) (apO_lt g (h a List.mem_cons_self) hx) k hk
end
/-- The image of a word under a group word, and its section there. -/
def imgW (m : Mach) (l s : Nat) : List Int → List Nat → List Nat
  | _, [] => []
  | g, x :: t => atX m l s g x :: imgW m l s (atS m l s g x) t
def secW (m : Mach) (l s : Nat) : List Int → List Nat → List Int
  | g, [] => g
  | g, x :: t => secW m l s (atS m l s g x) t
section
variable {m : Mach} {l s : Nat}
theorem imgW_length (u : List Nat) : ∀ g, (imgW m l s g u).length = u.length := by
  induction u with
  | nil => intro g; rfl
  | cons a t ih => intro g; show (imgW m l s _ t).length + 1 = _; rw [ih]; rfl
theorem secW_snoc (u : List Nat) (x : Nat) : ∀ g, secW m l s g (u ++ [x]) = atS m l s (secW m l s g u) x := by
  induction u with
  | nil => intro g; rfl
  | cons a t ih => intro g; exact ih _
theorem imgW_snoc (u : List Nat) (x : Nat) : ∀ g, imgW m l s g (u ++ [x]) = imgW m l s g u ++ [atX m l s (secW m l s g u) x] := by
  induction u with
  | nil => intro g; rfl
  | cons a t ih => intro g; show _ :: imgW m l s _ (t ++ [x]) = _; rw [ih]; rfl
theorem secW_length (u : List Nat) : ∀ g, (secW m l s g u).length = g.length := by
  induction u with
  | nil => intro g; rfl
  | cons a t ih => intro g; show (secW m l s _ t).length = _; rw [ih, atS_length]
theorem secW_num (gd : Good m l s) : ∀ (u : List Nat) (g : List Int), (∀ k ∈ g, isNum s k) → (∀ x ∈ u, x < l) → ∀ k ∈ secW m l s g u, isNum s k
  | [], g, h, _ => h
  | x :: t, g, h, hu => secW_num gd t _ (atS_num gd g x h (hu x List.mem_cons_self)) (fun y hy => hu y (List.mem_cons_of_mem _ hy))
theorem imgW_lt (gd : Good m l s) : ∀ (u : List Nat) (g : List Int), (∀ k ∈ g, isNum s k) → (∀ x ∈ u, x < l) → ∀ y ∈ imgW m l s g u, y < l
  | [], _, _, _, y, hy => by simp [imgW] at hy
  | x :: t, g, h, hu, y, hy => by
    rcases List.mem_cons.1 hy with rfl | hy
    · exact atX_lt gd g x h (hu x List.mem_cons_self)
    · exact imgW_lt gd t _ (atS_num gd g x h (hu x List.mem_cons_self)) (fun z hz => hu z (List.mem_cons_of_mem _ hz)) y hy
end
/-- A list as far as it is written. -/
def wr0 (l : List Int) (n : Nat) : List Int := l ++ List.replicate (n - l.length) 0
theorem wr0_length (l : List Int) (n : Nat) (h : l.length ≤ n) : (wr0 l n).length = n := by simp [wr0]; omega
theorem wr0_set (l : List Int) (n : Nat) (h : l.length < n) (v : Int) : (wr0 l n).set l.length v = wr0 (l ++ [v]) n := by
  unfold wr0
  rw [List.set_append_right _ _ (Nat.le_refl _), Nat.sub_self, show n - l.length = (n - (l ++ [v]).length) + 1 by simp; omega, List.replicate_succ, List.set_cons_zero, List.append_assoc]
  rfl
theorem wr0_full (l : List Int) : wr0 l l.length = l := by simp [wr0]
theorem wr0_nil (n : Nat) : ints (wr0 [] n) = List.replicate n (.int .i64 0) := by simp [wr0, ints]

/-- What is needed of a group's block. -/
def GM (w : World) (G : Nat) (m : Mach) (l s : Nat) (v1 v2 : Value) : Prop := w.heap[G]? = some (.cells (gcells m (inv m l s) v1 v2) 141 (0, 0))
section
variable {w w' : World} {G : Nat} {m : Mach} {l s : Nat} {v1 v2 : Value}
theorem GrB.gm {base : Nat} (h : GrB w G base m l s v1 v2) : GM w G m l s v1 v2 := h.blk
theorem GM.lt (h : GM w G m l s v1 v2) : G < w.heap.size := (Array.getElem?_eq_some_iff.1 h).1
theorem GM.below (h : GM w G m l s v1 v2) (hb : Below w.heap.size w w') : GM w' G m l s v1 v2 := (hb.block G h.lt).trans h
theorem GM.cL (h : GM w G m l s v1 v2) : w.cell? ⟨G, 0, none⟩ = some (.int .i64 m.L) := (cell_of_row w G 0 _ _ _ h).trans (gcells_m 0 (by omega))
theorem GM.cnx (h : GM w G m l s v1 v2) (q x : Nat) (hq : q < 16) (hx : x < 3) : w.cell? ⟨G, 2 + q * 3 + x, none⟩ = some (.int .u8 (m.nx (q * 3 + x) : Nat)) := by
  rw [cell_of_row w G _ _ _ _ h, gcells_m _ (by omega), mf_nx m q x hq hx]
theorem GM.cot (h : GM w G m l s v1 v2) (q x : Nat) (hq : q < 16) (hx : x < 3) : w.cell? ⟨G, 50 + q * 3 + x, none⟩ = some (.int .u8 (m.ot (q * 3 + x) : Nat)) := by
  rw [cell_of_row w G _ _ _ _ h, gcells_m _ (by omega), mf_ot m q x]
theorem GM.bnx (h : GM w G m l s v1 v2) (q x : Nat) (hq : q < 16) (hx : x < 3) : w.cell? ⟨G, 100 + q * 3 + x, none⟩ = some (.int .u8 ((inv m l s).nx (q * 3 + x) : Nat)) := by
  rw [show 100 + q * 3 + x = 98 + (2 + q * 3 + x) by omega, cell_of_row w G _ _ _ _ h, gcells_k _ (by omega), mf_nx _ q x hq hx]
theorem GM.bot (h : GM w G m l s v1 v2) (q x : Nat) (hq : q < 16) (hx : x < 3) : w.cell? ⟨G, 148 + q * 3 + x, none⟩ = some (.int .u8 ((inv m l s).ot (q * 3 + x) : Nat)) := by
  rw [show 148 + q * 3 + x = 98 + (50 + q * 3 + x) by omega, cell_of_row w G _ _ _ _ h, gcells_k _ (by omega), mf_ot _ q x]
end
theorem next_0 (G : Nat) (w : World) (q x v : Nat) (hq : q < 16) (hx : x < 3) (hk : v < 256) (h1 : w.cell? ⟨G, 2 + q * 3 + x, none⟩ = some (.int .u8 (v : Nat))) :
    Calls Try.prog 128 #[.pointer (some ⟨G, 0, none⟩), .int .i64 q, .int .i64 x] w fun e w' => e = .returned (.int .i64 (v : Nat)) ∧ w = w' := by
  go_enter Try.func128, Try.ntmps128
  go_wp2
  go_ret
  exact ⟨by simp, rfl⟩
theorem next_98 (G : Nat) (w : World) (q x v : Nat) (hq : q < 16) (hx : x < 3) (hk : v < 256) (h1 : w.cell? ⟨G, 100 + q * 3 + x, none⟩ = some (.int .u8 (v : Nat))) :
    Calls Try.prog 128 #[.pointer (some ⟨G, 98, none⟩), .int .i64 q, .int .i64 x] w fun e w' => e = .returned (.int .i64 (v : Nat)) ∧ w = w' := by
  go_enter Try.func128, Try.ntmps128
  go_wp2
  go_ret
  exact ⟨by simp, rfl⟩
theorem out_0 (G : Nat) (w : World) (q x v : Nat) (hq : q < 16) (hx : x < 3) (hk : v < 256) (h1 : w.cell? ⟨G, 50 + q * 3 + x, none⟩ = some (.int .u8 (v : Nat))) :
    Calls Try.prog 127 #[.pointer (some ⟨G, 0, none⟩), .int .i64 q, .int .i64 x] w fun e w' => e = .returned (.int .i64 (v : Nat)) ∧ w = w' := by
  go_enter Try.func127, Try.ntmps127
  go_wp2
  go_ret
  exact ⟨by simp, rfl⟩
theorem out_98 (G : Nat) (w : World) (q x v : Nat) (hq : q < 16) (hx : x < 3) (hk : v < 256) (h1 : w.cell? ⟨G, 148 + q * 3 + x, none⟩ = some (.int .u8 (v : Nat))) :
    Calls Try.prog 127 #[.pointer (some ⟨G, 98, none⟩), .int .i64 q, .int .i64 x] w fun e w' => e = .returned (.int .i64 (v : Nat)) ∧ w = w' := by
  go_enter Try.func127, Try.ntmps127
  go_wp2
  go_ret
  exact ⟨by simp, rfl⟩
set_option maxHeartbeats 2000000 in
set_option maxRecDepth 100000 in
theorem apply_any (w : World) (G : Nat) (m : Mach) (l s : Nat) (g : Good m l s) (v1 v2 : Value) (hG : GM w G m l s v1 v2) (k : Int) (hk : isNum s k) (x : Nat) (hx : x < l) :
    Calls Try.prog 173 #[.pointer (some ⟨G, 0, none⟩), .int .i64 k, .int .i64 x] w fun e w' => e = .returned (.tuple #[.int .i64 (apO m l s k x : Nat), .int .i64 (apN m l s k x)]) ∧ ∃ d, w' = w.drewN d := by
  obtain ⟨q, hq, rfl | rfl⟩ := isNum_cases hk
  · rw [apO_pos, apN_pos]
    have s16 := g.s16; have l3 := g.l3
    have ho := hid (fun n => out_0 G (w.drewN n) q x (m.ot (q * 3 + x)) (by omega) (by omega) (by have := g.ot q x hq hx; omega) (hG.cot q x (by omega) (by omega)))
    have hn := hid (fun n => next_0 G (w.drewN n) q x (m.nx (q * 3 + x)) (by omega) (by omega) (by have := g.nx q x hq hx; omega) (hG.cnx q x (by omega) (by omega)))
    have hnl := g.nx q x hq hx
    have e1 : IntKind.i64.wrap ((q : Int) + 1 - 1) = (q : Int) := by rw [IntWalk.i64_in _ (by omega)]; omega
    have e2 : IntKind.i64.wrap ((m.nx (q * 3 + x) : Int) + 1) = (m.nx (q * 3 + x) : Int) + 1 := IntWalk.i64_in _ (by omega)
    have d1 : decide ((0 : Int) < (q : Int) + 1) = true := decide_eq_true (by omega)
    have e3 : (q : Int) + 1 - 1 = q := by omega
    generalize m.ot (q * 3 + x) = ot at *
    generalize m.nx (q * 3 + x) = nx at *
    clear hk hG g
    go_enter Try.func173, Try.ntmps173
    go_upto_region 2 with (fail)
    go_quiet (first
      | (go_at_call 127; exact quiet_same (ho.out _))
      | (go_at_call 128; exact quiet_same (hn.out _)))
    go_wp2
    go_ret2
    exact ⟨rfl, _, rfl⟩
  · rw [apO_neg, apN_neg]
    have s16 := g.s16; have l3 := g.l3
    have gI := inv_good g
    have ho := hid (fun n => out_98 G (w.drewN n) q x ((inv m l s).ot (q * 3 + x)) (by omega) (by omega) (by have := gI.ot q x hq hx; omega) (hG.bot q x (by omega) (by omega)))
    have hn := hid (fun n => next_98 G (w.drewN n) q x ((inv m l s).nx (q * 3 + x)) (by omega) (by omega) (by have := gI.nx q x hq hx; omega) (hG.bnx q x (by omega) (by omega)))
    have hnl := gI.nx q x hq hx
    have e1 : IntKind.i64.wrap (-(-((q : Int) + 1))) = (q : Int) + 1 := by rw [IntWalk.i64_in _ (by omega)]; omega
    have e2 : IntKind.i64.wrap (-((inv m l s).nx (q * 3 + x) : Int)) = -((inv m l s).nx (q * 3 + x) : Int) := IntWalk.i64_in _ (by omega)
    have e4 : IntKind.i64.wrap (-((inv m l s).nx (q * 3 + x) : Int) - 1) = -((inv m l s).nx (q * 3 + x) : Int) - 1 := IntWalk.i64_in _ (by omega)
    have d1 : decide ((0 : Int) < -((q : Int) + 1)) = false := decide_eq_false (by omega)
    have e3 : (q : Int) + 1 - 1 = q := by omega
    generalize (inv m l s).ot (q * 3 + x) = ot at *
    generalize (inv m l s).nx (q * 3 + x) = nx at *
    obtain ⟨kk, hkk⟩ : ∃ kk : Int, kk = -((q : Int) + 1) := ⟨_, rfl⟩
    rw [← hkk] at d1 e1 ⊢
    clear hk hG g gI
    replace hkk := hid hkk
    go_enter Try.func173, Try.ntmps173
    go_upto_region 3 with (fail)
    go_quiet (first
      | (go_at_call 127; exact quiet_same (ho.out _))
      | (go_at_call 128; exact quiet_same (hn.out _)))
    go_wp2
    go_ret2
    exact ⟨rfl, _, rfl⟩
end Go.Proofs.Ytgpjcekpmhfljaa

/- The program's group.at and group.image. -/
namespace Go.Proofs.Ytgpjcekpmhfljaa
open Go.RowKit
set_option linter.unusedVariables false
set_option linter.unusedSimpArgs false
-- @LONG

set_option maxHeartbeats 2000000 in
set_option maxRecDepth 100000 in
theorem at_any (w : World) (G : Nat) (m : Mach) (l s : Nat) (g : Good m l s) (v1 v2 : Value) (hG : GM w G m l s v1 v2) (base : Nat) (v : Value) (u : List Int) (hu : Own w base 2 v (ints u)) (hn : ∀ k ∈ u, isNum s k) (hul : u.length ≤ 1000) (x : Nat) (hx : x < l) :
    Calls Try.prog 161 #[.pointer (some ⟨G, 0, none⟩), v, .int .i64 x] w fun e w' => ∃ v', e = .returned (.tuple #[.int .i64 (atX m l s u x : Nat), v']) ∧ Own w' w.heap.size 2 v' (ints (atS m l s u x)) ∧ Below w.heap.size w w' := by
  have hil := ints_length u
  obtain ⟨A, c, rfl, _, _⟩ := hu.form
  rw [hil] at hu ⊢
  have hcell := hid (fun (k : Nat) (y : Int) (hy : u[k]? = some y) => (show ∃ gA, A = some ⟨gA, 0, none⟩ ∧ ∀ W, Below w.heap.size w W → W.cell? ⟨gA, k, none⟩ = some (.int .i64 y) from by
    obtain ⟨g1, c2, he, _, hg1⟩ := hu.blk (fun e => by have h1 := congrArg List.length e; rw [hil] at h1; have h2 := (List.getElem?_eq_some_iff.1 hy).1; rw [List.length_nil] at h1; omega)
    injection he with e1 e2 e3
    subst e1
    exact ⟨g1, rfl, fun W hW => (hu.below hW).cellAt k _ (by simp [ints, hy])⟩))
  have hap := hid (fun W (hW : Below w.heap.size w W) k (hk : isNum s k) y (hy : y < l) => apply_any W G m l s g v1 v2 (hG.below hW) k hk y hy)
  have hmk := fun W : World => run_make_row' (P := Try.prog) 34 2 (.int .i64 0) 8 Try.underlying34 info_i64 rfl .i64 .i64 u.length (by omega) (by omega) W
  have hmc := hid (toList_madeCells_one (.int .i64 0) u.length)
  generalize madeCells #[.int .i64 0] u.length = mc at *
  have hmcs := hid (show mc.size = u.length by rw [← Array.length_toList, hmc.out, List.length_replicate])
  have hS := (St.start w).newArr mc u.length hmcs.out 2 (by omega)
  rw [hmc.out, ← wr0_nil u.length] at hS
  replace hS := hid hS
  have hsx := hid (fun i y (hy : u[i]? = some y) => (show u.take (i + 1) = u.take i ++ [y] from by rw [List.take_add_one, hy]; rfl))
  have hlt := hid (fun i => atX_lt g (u.take i) x (fun k hk => hn k (List.mem_of_mem_take hk)) hx)
  have hxs := hid (fun i y => atX_snoc (m := m) (l := l) (s := s) (u.take i) y x)
  have hss := hid (fun i y => atS_snoc (m := m) (l := l) (s := s) (u.take i) y x)
  have hsl := hid (fun i (hi : i ≤ u.length) => (show (atS m l s (u.take i) x).length = i from by rw [atS_length, List.length_take]; omega))
  have h0X := hid (show atX m l s u x = atX m l s (u.take u.length) x by rw [List.take_length])
  have h0S := hid (show atS m l s u x = wr0 (atS m l s (u.take u.length) x) u.length by rw [List.take_length]; have h := wr0_full (atS m l s u x); rw [atS_length] at h; exact h.symm)
  rw [h0X.out, h0S.out]
  replace hn := hid hn
  clear hu hil hG g hmc h0X h0S
  generalize hgo : w.heap.size = go at *
  replace hgo := hid hgo
  generalize hN : u.length = N at *
  replace hN := hid hN
  go_enter Try.func161, Try.ntmps161
  go_upto_region 2 with (fail)
  rw [hgo.out]
  generalize w.alloc (.cells mc 2) = W1 at *
  go_wp2
  go_loopw [2, 16] (fun y i wr => ∃ j : Nat, j ≤ N ∧ i = .int .i64 j ∧ y = .int .i64 (atX m l s (u.take j) x : Nat) ∧ St go w [Asn.own go 2 (.slice (some ⟨go, 0, none⟩) N N) (ints (wr0 (atS m l s (u.take j) x) N))] wr) (fun _ i _ => N - (intOf i).toNat)
  case atStart => exact ⟨0, Nat.zero_le _, rfl, rfl, hS.out⟩
  case round =>
    obtain ⟨j, hj, rfl, rfl, rS⟩ := hrel
    clear hS
    replace rS := hid rS
    by_cases hjN : j < N
    · obtain ⟨y, hy⟩ : ∃ y, u[j]? = some y := ⟨_, List.getElem?_eq_getElem (by rw [hN.out]; exact hjN)⟩
      obtain ⟨gA, rfl, hc⟩ := hcell.out j y hy
      have d1 := hc wr (by have h := rS.out.bel; exact h)
      have hyn := hid (hn.out y (List.mem_of_getElem? hy))
      have hcl := hid (fun W (hW : Below go w W) => hap.out W hW y hyn.out _ (hlt.out j))
      have hl1 := hid (show (ints (wr0 (atS m l s (u.take j) x) N)).length = N by rw [ints_length]; exact wr0_length _ _ (by rw [hsl.out j hj]; exact hj))
      have hl2 := hid (hsl.out j hj)
      have hset := hid (fun z => (show (ints (wr0 (atS m l s (u.take j) x) N)).set j (.int .i64 z) = ints (wr0 (atS m l s (u.take j) x ++ [z]) N) from by
        have h := wr0_set (atS m l s (u.take j) x) N (by rw [hl2.out]; exact hjN) z
        rw [hl2.out] at h
        rw [← h]; simp [ints, List.map_set]))
      have hX := hid ((congrArg (fun t => atX m l s t x) (hsx.out j y hy)).trans (hxs.out j y))
      have hSS := hid ((congrArg (fun t => atS m l s t x) (hsx.out j y hy)).trans (hss.out j y))
      obtain ⟨c0, hc0⟩ : ∃ z, (ints (wr0 (atS m l s (u.take j) x) N))[j]? = some z := ⟨_, List.getElem?_eq_getElem (by rw [hl1.out]; exact hjN)⟩
      have hco := hid (fun W (hW : St go w [Asn.own go 2 (.slice (some ⟨go, 0, none⟩) N N) (ints (wr0 (atS m l s (u.take j) x) N))] W) => (show W.cell? ⟨go, j, none⟩ = some c0 ∧ W.frozen? ⟨go, j, none⟩ = false from ⟨Own.cellAt hW.o0 j _ hc0, Own.frozenAt hW.o0 hl1.out j⟩))
      clear hc hy hc0
      generalize atX m l s (u.take j) x = xj at *
      generalize apO m l s y xj = xo at *
      generalize apN m l s y xj = xn at *
      go_wp2_with (first
        | (go_at_call 173; (with_reducible refine (hcl.out _ rS.out.bel).mono ?_); rintro e w3 ⟨rfl, d, rfl⟩; replace rS := hid (rS.out.drewN d); obtain ⟨co, fo⟩ := hco.out _ rS.out; generalize wr.drewN d = wd at *; replace rS := hid (rS.out.setOwn hl1.out j (.int .i64 xn) hjN)))
      rw [hset.out, ← hSS.out] at rS
      go_roundw
      case rel => exact ⟨j + 1, by omega, by go_num, by rw [hX.out], rS.out⟩
      case measure => simp [intOf]; omega
    · obtain rfl : j = N := by omega
      go_wp2
      go_ret2
      exact ⟨_, rfl, rS.out.o0, rS.out.bel⟩
end Go.Proofs.Ytgpjcekpmhfljaa

/- The program's group.image. -/
namespace Go.Proofs.Ytgpjcekpmhfljaa
open Go.RowKit
set_option linter.unusedVariables false
set_option linter.unusedSimpArgs false
-- @LONG

/-- A row of digits as far as it is written. -/
def Asn.dig (b n : Nat) (u : List Nat) : Asn := ⟨fun k => k = b, fun w => w.rowIs b 5 n (dgs u), fun h hk => World.rowIs.of_block h (hk b rfl), fun h k hk => hk ▸ World.rowIs.lt h⟩
section
variable {w w0 : World} {L : List Asn} {base b n : Nat} {u : List Nat}
theorem St.d0 (h : St base w0 (Asn.dig b n u :: L) w) : w.rowIs b 5 n (dgs u) := h.g0
theorem St.newDig (h : St base w0 L w) (n : Nat) : St base w0 (Asn.dig w.heap.size n [] :: L) (w.alloc (.cells (madeCells #[.int .u8 0] n) 5)) :=
  h.allocPush (a := Asn.dig w.heap.size n []) _ (World.rowIs.congr (World.rowIs_made w (.int .u8 0) n 5) (fun i hi => by unfold dgs; simp)) fun _ hk => hk
theorem St.setDig (h : St base w0 (Asn.dig b n u :: L) w) (hb : base ≤ b) (y : Nat) (i : Nat) (hi : u.length = i) : St base w0 (Asn.dig b n (u ++ [y]) :: L) (w.setCell ⟨b, i, none⟩ (.int .u8 (48 + (y : Int)))) := by
  subst hi
  exact h.turn (a' := Asn.dig b n (u ++ [y])) (World.rowIs.congr (World.rowIs.set h.d0 u.length _) (fun i hi => dgs_snoc u y i)) (fun k hk => .inl hk) (fun k hk => (show k = b from hk) ▸ hb) ((Below.refl _ _).setCell hb _)
    fun k _ hk => heap_setCell_other w ⟨b, u.length, none⟩ k _ hk
theorem St.own0 {t : Nat} {v : Value} {cs : List Value} {b0 : Nat} (h : St base w0 (Asn.own b0 t v cs :: L) w) : St base w0 (Asn.own 0 t v cs :: L) w :=
  ⟨h.bel, h.le, (show Own w b0 t v cs from h.star.1).mono (Nat.zero_le _), h.star.2.1, h.star.2.2⟩
/-- An argument's slice. -/
theorem St.arg {t : Nat} {v : Value} {cs : List Value} {b0 : Nat} (w : World) (h : Own w b0 t v cs) : St w.heap.size w [Asn.own 0 t v cs] w :=
  (St.start w).push (a := Asn.own 0 t v cs) (h.mono (Nat.zero_le _)) fun _ _ hF => hF
end

set_option maxHeartbeats 2000000 in
set_option maxRecDepth 100000 in
theorem image_any (w : World) (G : Nat) (m : Mach) (l s : Nat) (g : Good m l s) (v1 v2 : Value) (hG : GM w G m l s v1 v2) (base : Nat) (v : Value) (gw : List Int) (hgw : Own w base 2 v (ints gw)) (hn : ∀ k ∈ gw, isNum s k) (hgl : gw.length ≤ 1000) (u : List Nat) (hu : ∀ x ∈ u, x < l) (hlen : u.length ≤ 1000) :
    Calls Try.prog 137 #[.pointer (some ⟨G, 0, none⟩), v, .string (wstr u)] w fun e w' => ∃ v', e = .returned (.tuple #[.string (wstr (imgW m l s gw u)), v']) ∧ Own w' 0 2 v' (ints (secW m l s gw u)) ∧ Below w.heap.size w w' := by
  have hsz := wstr_size u
  have hmk := fun W : World => run_make_row' (P := Try.prog) 94 5 (.int .u8 0) 1 Try.underlying94 info_u8 rfl .i64 .i64 u.length (by omega) (by omega) W
  have hbyte := hid (fun k hk => wstr_byte u k hk (fun x hx => by have := hu x hx; have := g.l3; omega))
  have hS := hid ((St.arg w hgw).newDig u.length)
  have hat := hid (fun W (hW : Below w.heap.size w W) v (u' : List Int) (h1 : Own W 0 2 v (ints u')) (h2 : ∀ k ∈ u', isNum s k) (h3 : u'.length ≤ 1000) x (hx : x < l) => at_any W G m l s g v1 v2 (hG.below hW) 0 v u' h1 h2 h3 x hx)
  have hnum := hid (fun k => secW_num g (u.take k) gw hn (fun x hx => hu x (List.mem_of_mem_take hx)))
  have hsl := hid (fun k => secW_length (m := m) (l := l) (s := s) (u.take k) gw)
  have hil := hid (fun k (hk : k ≤ u.length) => (show (imgW m l s gw (u.take k)).length = k by rw [imgW_length, List.length_take]; omega))
  have hse := hid (fun k x => secW_snoc (m := m) (l := l) (s := s) (u.take k) x gw)
  have him := hid (fun k x => imgW_snoc (m := m) (l := l) (s := s) (u.take k) x gw)
  have hlt := hid (fun k x (hx : x < l) => atX_lt g (secW m l s gw (u.take k)) x (hnum.out k) hx)
  have l3 := g.l3
  have hgo := hid (Nat.le_refl w.heap.size)
  replace hu := hid hu
  replace hn := hid hn
  have h0X := hid (show imgW m l s gw u = imgW m l s gw (u.take u.length) by rw [List.take_length])
  have h0S := hid (show secW m l s gw u = secW m l s gw (u.take u.length) by rw [List.take_length])
  rw [h0X.out, h0S.out]
  clear hG g hgw h0X h0S
  generalize hws : wstr u = ws at *
  replace hws := hid hws
  generalize madeCells #[.int .u8 0] u.length = mc at *
  generalize hgoe : w.heap.size = go at *
  replace hgoe := hid hgoe
  generalize hN : u.length = N at *
  replace hN := hid hN
  go_enter Try.func137, Try.ntmps137
  go_upto_region 2 with (fail)
  rw [hgoe.out]
  generalize w.alloc (.cells mc 5) = W1 at *
  go_wp2
  clear hmk
  go_loopw [1, 16] (fun v i wr => ∃ k : Nat, k ≤ N ∧ i = .int .i64 k ∧ St go w [Asn.dig go N (imgW m l s gw (u.take k)), Asn.own 0 2 v (ints (secW m l s gw (u.take k)))] wr) (fun _ i _ => N - (intOf i).toNat)
  case atStart => exact ⟨0, Nat.zero_le _, rfl, hS.out⟩
  case round =>
    obtain ⟨k, hk, rfl, rS⟩ := hrel
    clear hS
    replace rS := hid rS
    by_cases hkN : k < N
    · have hx := hu.out _ (getD_mem u k (by rw [hN.out]; exact hkN))
      have hb := hbyte.out k (by omega)
      have htk := take_snoc' u k (by rw [hN.out]; exact hkN)
      have hsn := hid ((congrArg (fun t => secW m l s gw t) htk).trans (hse.out k (u.getD k 0)))
      have hin := hid ((congrArg (fun t => imgW m l s gw t) htk).trans (him.out k (u.getD k 0)))
      have hlk := hid (hil.out k hk)
      have hcl := hid (fun W (hW : Below go w W) v (h1 : Own W 0 2 v (ints (secW m l s gw (u.take k)))) => hat.out W hW v _ h1 (hnum.out k) (by rw [hsl.out k]; exact hgl) _ hx)
      have hlx := hlt.out k _ hx
      have e2 : ((u.getD k 0 : Nat) : Int) % 256 = (u.getD k 0 : Nat) := by omega
      have hco := hid (fun (W : World) (hW : W.rowIs go 5 N (dgs (imgW m l s gw (u.take k)))) => (show ∃ c0, W.cell? ⟨go, k, none⟩ = some c0 ∧ W.frozen? ⟨go, k, none⟩ = false from ⟨_, hW.cell hkN, hW.frozen k⟩))
      clear htk hx
      generalize imgW m l s gw (u.take k) = im at *
      generalize secW m l s gw (u.take k) = se at *
      generalize u.getD k 0 = x at *
      have e1 : 48 + (x : Int) - 48 = x := by omega
      generalize hy : atX m l s se x = y at *
      replace hy := hid hy
      go_wp2_with (first
        | (go_at_call 161; (with_reducible refine (hcl.out _ rS.out.bel _ rS.out.o1).mono ?_); rintro e w3 ⟨v', rfl, hO, hb2⟩; replace rS := hid (rS.out.callOwn hb2 hO).own0; clear hO hb2; obtain ⟨c0, co, fo⟩ := hco.out _ rS.out.f1.d0)
        | (go_at_call 121; (with_reducible refine (letter_any y (by omega) _).mono ?_); rintro e w1 ⟨rfl, rfl⟩))
      replace rS := hid (rS.out.f1.setDig (Nat.le_of_eq rfl) y k hlk.out)
      rw [← hin.out] at rS
      go_roundw
      case rel => exact ⟨k + 1, by omega, by go_num, by rw [hsn.out]; exact ⟨rS.out.bel, rS.out.le, rS.out.g0, fun k hk hF => rS.out.star.2.1 k hk (hF.elim .inl fun h => h.elim), rS.out.g1, fun k hk hF => hF, trivial⟩⟩
      case measure => simp [intOf]; omega
    · obtain rfl : k = N := by omega
      have hconv := conv_dgs (hil.out k (Nat.le_refl _)) rS.out.d0
      go_wp2
      go_ret2
      exact ⟨_, rfl, rS.out.o1, rS.out.bel⟩
end Go.Proofs.Ytgpjcekpmhfljaa

/- A slice of numbers as an argument, and lists of any length that may be handed in. -/
namespace Go.Proofs.Ytgpjcekpmhfljaa
open Go.RowKit
set_option linter.unusedVariables false
set_option linter.unusedSimpArgs false
-- @LONG

/-- A slice of numbers that was handed in. -/
def ArgI (W : World) (v : Value) (l : List Int) : Prop :=
  ∃ A c, v = .slice A l.length c ∧ ((A = none ∧ l = []) ∨ ∃ a : Addr, A = some a ∧ ∀ i x, l[i]? = some x → W.cell? (a.add i) = some (.int .i64 x) ∧ (a.add i).block < W.heap.size)
theorem ArgI.below {W W' : World} {v : Value} {l : List Int} (h : ArgI W v l) (hb : Below W.heap.size W W') : ArgI W' v l := by
  obtain ⟨A, c, rfl, h | ⟨a, rfl, hc⟩⟩ := h
  · exact ⟨A, c, rfl, .inl h⟩
  · exact ⟨_, c, rfl, .inr ⟨a, rfl, fun i x hx => ⟨(hb.cell (hc i x hx).2).trans (hc i x hx).1, Nat.lt_of_lt_of_le (hc i x hx).2 hb.size⟩⟩⟩
theorem cellsL_i64 : Try.prog.cellsOf 2 = 1 := by kernel_rfl
theorem readable_ints : Try.prog.readableRec 34 = true := by kernel_rfl
theorem cell_lt {W : World} {a : Addr} {v : Value} (h : W.cell? a = some v) : a.block < W.heap.size := by
  rcases Nat.lt_or_ge a.block W.heap.size with h1 | h1
  · exact h1
  · exfalso
    unfold World.cell? at h
    rw [Array.getElem?_eq_none h1] at h
    simp at h
set_option maxRecDepth 1000000 in
theorem open_argI {H : Type} {enc : TypeId × Value → H} {W : World} {b0 : Nat} {v : Value} {d : DataW H} {p : List MemPlace} (hval : Value.okWide Try.prog W .any b0 34 v) (h : DataW.Trod enc Try.prog W 0 (fun _ => true) true 34 v d p) : ∃ l, ArgI W v l := by
  obtain ⟨a0, len, cap, rfl⟩ := Go.WideShapes.okWide_slice Try.underlying34 hval
  obtain ⟨fuel, hf⟩ := h
  rcases Go.ChangeShapes.open_ints Try.underlying34 Try.underlying2 cellsL_i64 hf with ⟨hcs, _⟩ | ⟨a, len', cap', zs, hcs, _, hl, _, hz, _, hcell, _⟩
  · simp [Value.cells] at hcs
    obtain ⟨rfl, rfl, rfl⟩ := hcs
    exact ⟨[], none, 0, rfl, .inl ⟨rfl, rfl⟩⟩
  · simp [Value.cells] at hcs
    obtain ⟨rfl, rfl, rfl⟩ := hcs
    simp only [if_true] at hz
    have hlen : (zs.take len).length = len := by rw [List.length_take]; omega
    refine ⟨zs.take len, some a, cap, by rw [hlen], .inr ⟨a, rfl, fun i x hx => ?_⟩⟩
    have hi := (List.getElem?_eq_some_iff.1 hx).1
    rw [hlen] at hi
    rw [List.getElem?_take_of_lt hi] at hx
    have hc := hcell i (by omega)
    rw [List.getD_eq_getElem?_getD, hx] at hc
    exact ⟨hc, cell_lt hc⟩
theorem Own.litL (w : World) (base e : Nat) (cs : List Value) (hb : base ≤ w.heap.size) (hm : cs.length ≤ 4000000) :
    Own (w.alloc (.cells cs.toArray e)) base e (.slice (some ⟨w.heap.size, 0, none⟩) cs.length cs.length) cs := by
  have := World.ownsRow_lit (base := base) (e := e) (size := 1) w cs.toArray cs.length hb (by simp only [maxLen]; omega) (by simp)
  simpa [Own] using this
theorem St.newArrL {base : Nat} {w0 w : World} {L : List Asn} (h : St base w0 L w) (cs : Array Value) (n : Nat) (hn : cs.size = n) (t : Nat) (hm : n ≤ 4000000) : St base w0 (Asn.own base t (.slice (some ⟨w.heap.size, 0, none⟩) n n) cs.toList :: L) (w.alloc (.cells cs t)) := by
  subst hn
  have hl : cs.toList.length = cs.size := Array.length_toList
  have := h.allocPush (a := Asn.own base t (.slice (some ⟨w.heap.size, 0, none⟩) cs.toList.length cs.toList.length) cs.toList) (.cells cs t) (Own.litL w base t cs.toList h.le (by rw [hl]; exact hm)) fun k hk => by
    have : w.heap.size = k := by simpa [Asn.own, Value.ownBlock] using hk
    exact this.symm
  rw [hl] at this
  exact this
set_option maxHeartbeats 4000000 in
set_option maxRecDepth 100000 in
theorem eqInt64SL_any (w : World) (b1 b2 : Nat) (v1 v2 : Value) (l : List Int) (h1 : Own w b1 2 v1 (ints l)) (h2 : Own w b2 2 v2 (ints l)) (hl : l.length < 4000000) :
    Calls Try.prog 19 #[v1, v2] w fun e w' => e = .returned (.bool true) ∧ Below w.heap.size w w' := by
  have hil := ints_length l
  by_cases hne : l = []
  · subst hne
    obtain ⟨A1, c1, rfl, _, _⟩ := h1.form
    obtain ⟨A2, c2, rfl, _, _⟩ := h2.form
    rw [hil]
    clear h1 h2
    go_enter Try.func19, Try.ntmps19
    go_wp2
    go_loopw [5] (fun i wr => i = .int .i64 0 ∧ wr = w) (fun _ _ => 0)
    case atStart => exact ⟨rfl, rfl⟩
    case round =>
      obtain ⟨rfl, rfl⟩ := hrel
      go_wp2
      go_ret
      exact ⟨rfl, Below.refl _ _⟩
  · have hne' : ints l ≠ [] := fun e => hne (by rw [← List.length_eq_zero_iff, ← hil, e]; rfl)
    obtain ⟨g1, c1, rfl, _, hg1⟩ := h1.blk hne'
    obtain ⟨g2, c2, rfl, _, hg2⟩ := h2.blk hne'
    rw [hil] at *
    have hget := hid (fun (k : Nat) (x : Int) (hx : l[k]? = some x) => (show (ints l)[k]? = some (.int .i64 x) by simp [ints, hx]))
    replace h1 := hid h1
    replace h2 := hid h2
    clear hne hne' hil
    generalize hn : l.length = n at *
    go_enter Try.func19, Try.ntmps19
    go_wp2
    go_loopw [5] (fun i wr => ∃ k : Nat, k ≤ n ∧ i = .int .i64 k ∧ Below w.heap.size w wr) (fun i _ => n - (intOf i).toNat)
    case atStart => exact ⟨0, Nat.zero_le _, rfl, Below.refl _ _⟩
    case round =>
      obtain ⟨k, hk, rfl, rB⟩ := hrel
      replace rB := hid rB
      by_cases hlt : k < n
      · obtain ⟨x, hx⟩ : ∃ x, l[k]? = some x := ⟨_, List.getElem?_eq_getElem (by omega)⟩
        have d1 := (h1.out.below rB.out).cellAt k _ (hget.out k x hx)
        have d2 := (h2.out.below rB.out).cellAt k _ (hget.out k x hx)
        go_upto_region 6 with (fail)
        go_quiet (fail)
        go_wp2
        go_roundw
        case rel => exact ⟨k + 1, by omega, by go_num, below_drewN rB.out _⟩
        case measure => simp [intOf]; omega
      · obtain rfl : k = n := by omega
        go_wp2
        go_ret
        exact ⟨rfl, rB.out⟩
set_option maxHeartbeats 4000000 in
set_option maxRecDepth 100000 in
theorem markInt64SL_any (w : World) (base : Nat) (v : Value) (cs : List Value) (n k : Nat) (hn : cs.length = n) (h : Own w base 2 v cs) (hl : n + k < 4000000) :
    Calls Try.prog 24 #[v, .int .i64 k] w fun e w' => e = .returned (.int .i64 ((k + n : Nat) : Int)) ∧ Own w' base 2 v (marks k n) ∧ Below base w w' := by
  by_cases hne : n = 0
  · subst hne
    obtain ⟨A1, c1, rfl, _, _⟩ := h.form
    have hcs := List.eq_nil_of_length_eq_zero hn
    rw [hn]
    have hm : marks k 0 = cs := by rw [hcs]; rfl
    rw [hm]
    rw [hn] at h
    replace h := hid h
    go_enter Try.func24, Try.ntmps24
    go_wp2
    go_loopw [1, 5] (fun i j wr => i = .int .i64 k ∧ j = .int .i64 0 ∧ wr = w) (fun _ _ _ => 0)
    case atStart => exact ⟨rfl, rfl, rfl⟩
    case round =>
      obtain ⟨rfl, rfl, rfl⟩ := hrel
      go_wp2
      go_ret
      exact ⟨rfl, h.out, Below.refl _ _⟩
  · obtain ⟨g, c, rfl, hb, hg⟩ := h.blk (fun e => hne (by rw [← hn, e]; rfl))
    rw [hn] at h ⊢
    replace h := hid h
    go_enter Try.func24, Try.ntmps24
    go_wp2
    go_loopw [1, 5] (fun q i wr => ∃ j : Nat, j ≤ n ∧ i = .int .i64 j ∧ q = .int .i64 ((k + j : Nat) : Int) ∧ Own wr base 2 (.slice (some ⟨g, 0, none⟩) n c) (marks k j ++ cs.drop j) ∧ Below base w wr) (fun _ i _ => n - (intOf i).toNat)
    case atStart => exact ⟨0, Nat.zero_le _, rfl, rfl, h.out, Below.refl _ _⟩
    case round =>
      obtain ⟨j, hj, rfl, rfl, r1, rB⟩ := hrel
      have hjl : (marks k j ++ cs.drop j).length = n := by rw [List.length_append, marks_length, List.length_drop]; omega
      by_cases hlt : j < n
      · have hst := hid (mark_step k j n cs hn hlt)
        obtain ⟨u, hu⟩ : ∃ u, (marks k j ++ cs.drop j)[j]? = some u := ⟨_, List.getElem?_eq_getElem (by omega)⟩
        have co := r1.cellAt j u hu
        have fo := r1.frozenAt hjl j
        have y1 := hid (r1.set hjl j (.int .i64 ((k + j : Nat) : Int)) hlt)
        have yB := hid (rB.setCell (p := ⟨g, j, none⟩) hb (.int .i64 ((k + j : Nat) : Int)))
        clear h r1 rB hu
        replace hjl := hid hjl
        have e1 : ((k + j : Nat) : Int) + 1 = ((k + (j + 1) : Nat) : Int) := by omega
        have e2 : ((k + j : Nat) : Int) < 4000000 := by omega
        have e3 : 0 ≤ ((k + j : Nat) : Int) := by omega
        generalize hkj : ((k + j : Nat) : Int) = kj at *
        go_wp2
        go_roundw
        case rel => exact ⟨j + 1, by omega, by go_num, by go_num, by rw [← hst.out]; exact y1.out, yB.out⟩
        case measure => simp [intOf]; omega
      · obtain rfl : j = n := by omega
        have hm : marks k j ++ cs.drop j = marks k j := by rw [← hn, List.drop_length, List.append_nil]
        rw [hm] at r1
        replace r1 := hid r1
        replace rB := hid rB
        clear h
        go_wp2
        go_ret
        exact ⟨rfl, r1.out, rB.out⟩
set_option maxHeartbeats 4000000 in
set_option maxRecDepth 100000 in
theorem heldInt64SL_any (w : World) (base : Nat) (v : Value) (n k : Nat) (h : Own w base 2 v (marks k n)) (hl : n + k < 4000000) :
    Calls Try.prog 25 #[v, .int .i64 k] w fun e w' => e = .returned (.int .i64 ((k + n : Nat) : Int)) ∧ w = w' := by
  have hml := marks_length k n
  by_cases hne : n = 0
  · subst hne
    obtain ⟨A1, c1, rfl, _, _⟩ := h.form
    rw [hml]
    clear h
    go_enter Try.func25, Try.ntmps25
    go_wp2
    go_loop [1, 5] (fun i j => i = .int .i64 k ∧ j = .int .i64 0) (fun _ _ => 0)
    case atStart => exact ⟨rfl, rfl⟩
    case round =>
      obtain ⟨rfl, rfl⟩ := hrel
      go_wp2
      go_ret
      exact ⟨rfl, rfl⟩
  · obtain ⟨g, c, rfl, hb, hg⟩ := h.blk (fun e => hne (by rw [← hml, e]; rfl))
    rw [hml] at h ⊢
    replace h := hid h
    go_enter Try.func25, Try.ntmps25
    go_wp2
    go_loop [1, 5] (fun q i => ∃ j : Nat, j ≤ n ∧ i = .int .i64 j ∧ q = .int .i64 ((k + j : Nat) : Int)) (fun _ i => n - (intOf i).toNat)
    case atStart => exact ⟨0, Nat.zero_le _, rfl, rfl⟩
    case round =>
      obtain ⟨j, hj, rfl, rfl⟩ := hrel
      by_cases hlt : j < n
      · have co := h.out.cellAt j _ (marks_get k n j hlt)
        have e1 : ((k + j : Nat) : Int) + 1 = ((k + (j + 1) : Nat) : Int) := by omega
        have e2 : ((k + j : Nat) : Int) < 4000000 := by omega
        have e3 : 0 ≤ ((k + j : Nat) : Int) := by omega
        generalize hkj : ((k + j : Nat) : Int) = kj at *
        go_wp2
        go_round
        case rel => exact ⟨j + 1, by omega, by go_num, by go_num⟩
        case measure => simp [intOf]; omega
      · obtain rfl : j = n := by omega
        go_wp2
        go_ret
        exact ⟨rfl, rfl⟩
theorem mark1L (w : World) (base : Nat) (v : Value) (cs : List Value) (n : Nat) (hn : cs.length = n) (h : Own w base 2 v cs) (hl : n < 3999999) :
    Calls Try.prog 24 #[v, .int .i64 1] w fun e w' => e = .returned (.int .i64 ((n : Int) + 1)) ∧ Own w' base 2 v (marks 1 n) ∧ Below base w w' :=
  (markInt64SL_any w base v cs n 1 hn h (by omega)).mono fun e w' ⟨h1, h2⟩ => ⟨h1.trans (retI (by omega)), h2⟩
theorem held1L (w : World) (base : Nat) (v : Value) (n : Nat) (h : Own w base 2 v (marks 1 n)) (hl : n < 3999999) :
    Calls Try.prog 25 #[v, .int .i64 1] w fun e w' => e = .returned (.int .i64 ((n : Int) + 1)) ∧ w = w' :=
  (heldInt64SL_any w base v n 1 h (by omega)).mono fun e w' ⟨h1, h2⟩ => ⟨h1.trans (retI (by omega)), h2⟩
set_option maxHeartbeats 2000000 in
set_option maxRecDepth 100000 in
theorem toInt64S_any (w : World) (v : Value) (l : List Int) (h : ArgI w v l) (hl : l.length ≤ 2000000) :
    Calls Try.prog 17 #[v] w fun e w' => ∃ v', e = .returned v' ∧ Own w' w.heap.size 2 v' (ints l) ∧ Below w.heap.size w w' := by
  obtain ⟨A, c, rfl, hA⟩ := h
  have hcell := hid (fun (k : Nat) (x : Int) (hx : l[k]? = some x) => (show ∃ a : Addr, A = some a ∧ ∀ W, Below w.heap.size w W → W.cell? (a.add k) = some (.int .i64 x) from by
    rcases hA with ⟨_, rfl⟩ | ⟨a, rfl, hc⟩
    · simp at hx
    · exact ⟨a, rfl, fun W hW => (hW.cell (hc k x hx).2).trans (hc k x hx).1⟩))
  clear hA
  have hmk := fun W : World => run_make_row' (P := Try.prog) 34 2 (.int .i64 0) 8 Try.underlying34 info_i64 rfl .i64 .i64 l.length (by omega) (by omega) W
  have hmc := hid (toList_madeCells_one (.int .i64 0) l.length)
  generalize madeCells #[.int .i64 0] l.length = mc at *
  have hmcs := hid (show mc.size = l.length by rw [← Array.length_toList, hmc.out, List.length_replicate])
  have hS := (St.start w).newArrL mc l.length hmcs.out 2 (by omega)
  rw [hmc.out, ← wr0_nil l.length] at hS
  replace hS := hid (show St w.heap.size w [Asn.own w.heap.size 2 (.slice (some ⟨w.heap.size, 0, none⟩) l.length l.length) (ints (wr0 (l.take 0) l.length))] _ from hS)
  have hfull := hid (show l = wr0 (l.take l.length) l.length by rw [List.take_length]; exact (wr0_full l).symm)
  have hst := hid (fun k x (hx : l[k]? = some x) => (show (ints (wr0 (l.take k) l.length)).set k (.int .i64 x) = ints (wr0 (l.take (k + 1)) l.length) from by
    have hk := (List.getElem?_eq_some_iff.1 hx).1
    have hlk : (l.take k).length = k := by rw [List.length_take]; omega
    have h := wr0_set (l.take k) l.length (by rw [hlk]; exact hk) x
    rw [hlk] at h
    rw [List.take_add_one, hx, Option.toList_some, ← h]; simp [ints, List.map_set]))
  have hwl := hid (fun k (hk : k ≤ l.length) => (show (ints (wr0 (l.take k) l.length)).length = l.length by rw [ints_length]; exact wr0_length _ _ (by rw [List.length_take]; omega)))
  generalize hgo : w.heap.size = go at *
  replace hgo := hid hgo
  clear hmc
  generalize hn : l.length = n at *
  replace hn := hid hn
  go_enter Try.func17, Try.ntmps17
  go_upto_region 2 with (fail)
  rw [hgo.out]
  generalize w.alloc (.cells mc 2) = W1 at *
  clear hmk
  go_wp2
  go_loopw [4] (fun i wr => ∃ k : Nat, k ≤ n ∧ i = .int .i64 k ∧ St go w [Asn.own go 2 (.slice (some ⟨go, 0, none⟩) n n) (ints (wr0 (l.take k) n))] wr) (fun i _ => n - (intOf i).toNat)
  case atStart => exact ⟨0, Nat.zero_le _, rfl, hS.out⟩
  case round =>
    obtain ⟨k, hk, rfl, rS⟩ := hrel
    clear hS
    replace rS := hid rS
    by_cases hkn : k < n
    · have dc : decide ((k : Int) < (n : Int)) = true := decide_eq_true (by omega)
      obtain ⟨x, hx⟩ : ∃ x, l[k]? = some x := ⟨_, List.getElem?_eq_getElem (by rw [hn.out]; exact hkn)⟩
      obtain ⟨a, rfl, hc⟩ := hcell.out k x hx
      have hs2 := hid (hst.out k x hx)
      have k0 : (0 : Int) ≤ (k : Int) := Int.natCast_nonneg _
      have k1 : (k : Int) < (n : Int) := by omega
      replace hc := hid hc
      have hl1 := hid (hwl.out k hk)
      obtain ⟨c0, hc0⟩ : ∃ z, (ints (wr0 (l.take k) n))[k]? = some z := ⟨_, List.getElem?_eq_getElem (by rw [hl1.out]; exact hkn)⟩
      have co := Own.cellAt rS.out.o0 k _ hc0
      have fo := Own.frozenAt rS.out.o0 hl1.out k
      have d1 := hc.out wr (by have h := rS.out.bel; exact h)
      have rS2 := hid (rS.out.setOwn hl1.out k (.int .i64 x) hkn)
      rw [hs2.out] at rS2
      clear hx hc0 hc
      go_wp2
      go_roundw
      case rel => exact ⟨k + 1, by omega, by go_num, rS2.out⟩
      case measure => simp [intOf]; omega
    · obtain rfl : k = n := by omega
      have dc : decide ((k : Int) < (k : Int)) = false := decide_eq_false (by omega)
      go_wp2
      go_ret
      exact ⟨_, rfl, by have h := rS.out.o0; rw [← hfull.out] at h; exact h, rS.out.bel⟩
end Go.Proofs.Ytgpjcekpmhfljaa

/- Marking one of several slices. -/
namespace Go.Proofs.Ytgpjcekpmhfljaa
open Go.RowKit
set_option linter.unusedVariables false
set_option linter.unusedSimpArgs false

set_option maxHeartbeats 1000000 in
set_option maxRecDepth 100000 in
theorem markS_any (base : Nat) (w0 : World) (L : List Asn) (w : World) (v : Value) (cs : List Value) (n k : Nat) (hn : cs.length = n) (hS : St base w0 (Asn.own base 2 v cs :: L) w) (hl : n + k < 4000000) :
    Calls Try.prog 24 #[v, .int .i64 k] w fun e w' => e = .returned (.int .i64 ((k + n : Nat) : Int)) ∧ St base w0 (Asn.own base 2 v (marks k n) :: L) w' := by
  have h := hS.o0
  by_cases hne : n = 0
  · subst hne
    obtain ⟨A1, c1, rfl, _, _⟩ := h.form
    have hcs := List.eq_nil_of_length_eq_zero hn
    rw [hn]
    have hm : marks k 0 = cs := by rw [hcs]; rfl
    rw [hm]
    rw [hn] at hS
    replace hS := hid hS
    clear h
    go_enter Try.func24, Try.ntmps24
    go_wp2
    go_loopw [1, 5] (fun i j wr => i = .int .i64 k ∧ j = .int .i64 0 ∧ wr = w) (fun _ _ _ => 0)
    case atStart => exact ⟨rfl, rfl, rfl⟩
    case round =>
      obtain ⟨rfl, rfl, rfl⟩ := hrel
      go_wp2
      go_ret
      exact ⟨rfl, hS.out⟩
  · obtain ⟨g, c, rfl, hb, hg⟩ := h.blk (fun e => hne (by rw [← hn, e]; rfl))
    rw [hn] at hS ⊢
    clear h
    replace hS := hid hS
    go_enter Try.func24, Try.ntmps24
    go_wp2
    go_loopw [1, 5] (fun q i wr => ∃ j : Nat, j ≤ n ∧ i = .int .i64 j ∧ q = .int .i64 ((k + j : Nat) : Int) ∧ St base w0 (Asn.own base 2 (.slice (some ⟨g, 0, none⟩) n c) (marks k j ++ cs.drop j) :: L) wr) (fun _ i _ => n - (intOf i).toNat)
    case atStart => exact ⟨0, Nat.zero_le _, rfl, rfl, hS.out⟩
    case round =>
      obtain ⟨j, hj, rfl, rfl, rS⟩ := hrel
      have r1 := rS.o0
      have hjl : (marks k j ++ cs.drop j).length = n := by rw [List.length_append, marks_length, List.length_drop]; omega
      by_cases hlt : j < n
      · have hst := hid (mark_step k j n cs hn hlt)
        obtain ⟨u, hu⟩ : ∃ u, (marks k j ++ cs.drop j)[j]? = some u := ⟨_, List.getElem?_eq_getElem (by omega)⟩
        have co := r1.cellAt j u hu
        have fo := r1.frozenAt hjl j
        have y1 := hid (rS.setOwn hjl j (.int .i64 ((k + j : Nat) : Int)) hlt)
        clear hS r1 rS hu
        replace hjl := hid hjl
        have e1 : ((k + j : Nat) : Int) + 1 = ((k + (j + 1) : Nat) : Int) := by omega
        have e2 : ((k + j : Nat) : Int) < 4000000 := by omega
        have e3 : 0 ≤ ((k + j : Nat) : Int) := by omega
        generalize hkj : ((k + j : Nat) : Int) = kj at *
        go_wp2
        go_roundw
        case rel => exact ⟨j + 1, by omega, by go_num, by go_num, by rw [← hst.out]; exact y1.out⟩
        case measure => simp [intOf]; omega
      · obtain rfl : j = n := by omega
        have hm : marks k j ++ cs.drop j = marks k j := by rw [← hn, List.drop_length, List.append_nil]
        rw [hm] at rS
        clear r1 hS
        replace rS := hid rS
        go_wp2
        go_ret
        exact ⟨rfl, rS.out⟩
theorem markS1 (base : Nat) (w0 : World) (L : List Asn) (w : World) (v : Value) (cs : List Value) (n : Nat) (hn : cs.length = n) (hS : St base w0 (Asn.own base 2 v cs :: L) w) (hl : n < 3999999) :
    Calls Try.prog 24 #[v, .int .i64 1] w fun e w' => e = .returned (.int .i64 ((n : Int) + 1)) ∧ St base w0 (Asn.own base 2 v (marks 1 n) :: L) w' :=
  (markS_any base w0 L w v cs n 1 hn hS (by omega)).mono fun e w' ⟨h1, h2⟩ => ⟨h1.trans (retI (by omega)), h2⟩
end Go.Proofs.Ytgpjcekpmhfljaa

/- The tree of a word in a graph: plain law. -/
namespace Go.Proofs.Ytgpjcekpmhfljaa
set_option linter.unusedVariables false
set_option linter.unusedSimpArgs false

/-- A tree: its queue, the distances, the ways. -/
structure Tr where
  q : List Nat
  far : List Int
  ways : List (List Int)
/-- What one step from fr tx `tx` does. -/
def meetT (t : Tr) (fr tx : Nat) (st : Int) : Tr :=
  if t.far.getD tx 0 < 0 then ⟨t.q ++ [tx], t.far.set tx (t.far.getD fr 0 + 1), t.ways.set tx (t.ways.getD fr [] ++ [st])⟩ else t
/-- The step by table j of 2s. -/
def stpT (s j : Nat) : Int := if j < s then (j : Int) + 1 else (s : Int) - (j : Int) - 1
/-- The first j steps from fr. -/
def rndT (T : Nat → Nat → Nat) (s : Nat) (t : Tr) (fr : Nat) : Nat → Tr
  | 0 => t
  | j + 1 => meetT (rndT T s t fr j) fr (T j fr) (stpT s j)
def tr0 (n k : Nat) : Tr := ⟨[k], (List.replicate n (-1)).set k 0, List.replicate n []⟩
/-- The tree when i words of the queue are done. -/
def growT (T : Nat → Nat → Nat) (s n k : Nat) : Nat → Tr
  | 0 => tr0 n k
  | i + 1 => match (growT T s n k i).q[i]? with
    | some fr => rndT T s (growT T s n k i) fr (2 * s)
    | none => growT T s n k i
/-- The tree. -/
def treeT (T : Nat → Nat → Nat) (s n k : Nat) : Tr := growT T s n k n

theorem nodup_le {n : Nat} {q : List Nat} (hd : q.Nodup) (hb : ∀ x ∈ q, x < n) : q.length ≤ n := by
  refine inj_le q.length n (fun i => q.getD i 0) (fun i hi => ?_) ?_
  · simp only [List.getD_eq_getElem?_getD, List.getElem?_eq_getElem hi, Option.getD_some]
    exact hb _ (List.getElem_mem hi)
  · intro i j hij hj e
    have hi : i < q.length := by omega
    simp only [List.getD_eq_getElem?_getD, List.getElem?_eq_getElem hi, List.getElem?_eq_getElem hj, Option.getD_some] at e
    exact List.pairwise_iff_getElem.1 hd i j hi hj hij e

structure TrOk (n : Nat) (t : Tr) : Prop where
  fl : t.far.length = n
  wl : t.ways.length = n
  nd : t.q.Nodup
  qb : ∀ x ∈ t.q, x < n
  fb : ∀ (x : Nat) (v : Int), t.far[x]? = some v → (v = -1 ∧ x ∉ t.q) ∨ (x ∈ t.q ∧ 0 ≤ v ∧ v < t.q.length)
  wb : ∀ (x : Nat) (u : List Int), t.ways[x]? = some u → u.length < t.q.length
theorem TrOk.ql {n : Nat} {t : Tr} (h : TrOk n t) : t.q.length ≤ n := nodup_le h.nd h.qb
theorem tr0_ok {n k : Nat} (hk : k < n) : TrOk n (tr0 n k) where
  fl := by simp [tr0]
  wl := by simp [tr0]
  nd := by simp [tr0]
  qb := fun x hx => by simp [tr0] at hx; omega
  fb := fun x v hv => by
    simp only [tr0, List.getElem?_set] at hv
    by_cases e : k = x
    · subst e
      simp [hk] at hv
      subst hv
      exact .inr ⟨by simp [tr0], by omega, by simp [tr0]⟩
    · rw [if_neg e] at hv
      rw [List.getElem?_replicate] at hv
      split at hv
      · injection hv with hv
        exact .inl ⟨hv.symm, by simp [tr0]; omega⟩
      · simp at hv
  wb := fun x u hu => by
    simp only [tr0, List.getElem?_replicate] at hu
    split at hu
    · injection hu with hu
      subst hu; simp [tr0]
    · simp at hu
theorem TrOk.meet {n : Nat} {t : Tr} (h : TrOk n t) {fr tx : Nat} (st : Int) (hfr : fr ∈ t.q) (hto : tx < n) : TrOk n (meetT t fr tx st) := by
  unfold meetT
  split
  · rename_i hneg
    have hfn := h.qb fr hfr
    have e1 : t.far[tx]? = some (t.far.getD tx 0) := by
      rw [List.getD_eq_getElem?_getD, List.getElem?_eq_getElem (by rw [h.fl]; exact hto)]; rfl
    have e2 : t.far[fr]? = some (t.far.getD fr 0) := by
      rw [List.getD_eq_getElem?_getD, List.getElem?_eq_getElem (by rw [h.fl]; exact hfn)]; rfl
    have e3 : t.ways[fr]? = some (t.ways.getD fr []) := by
      rw [List.getD_eq_getElem?_getD, List.getElem?_eq_getElem (by rw [h.wl]; exact hfn)]; rfl
    have hnq : tx ∉ t.q := by
      rcases h.fb tx _ e1 with h1 | h1
      · exact h1.2
      · omega
    have hff : 0 ≤ t.far.getD fr 0 ∧ t.far.getD fr 0 < t.q.length := by
      rcases h.fb fr _ e2 with h1 | h1
      · exact absurd hfr h1.2
      · exact h1.2
    exact {
      fl := by simp [h.fl]
      wl := by simp [h.wl]
      nd := by
        refine List.nodup_append.2 ⟨h.nd, by simp, fun a ha b hb => ?_⟩
        simp at hb; subst hb
        intro e; subst e; exact hnq ha
      qb := fun x hx => by
        rcases List.mem_append.1 hx with hx | hx
        · exact h.qb x hx
        · simp at hx; omega
      fb := fun x v hv => by
        simp only [List.getElem?_set] at hv
        by_cases e : tx = x
        · subst e
          simp [h.fl, hto] at hv
          subst hv
          exact .inr ⟨by simp, by rw [← List.getD_eq_getElem?_getD]; omega, by rw [← List.getD_eq_getElem?_getD]; simp only [List.length_append, List.length_singleton]; omega⟩
        · rw [if_neg e] at hv
          rcases h.fb x v hv with ⟨h1, h2⟩ | ⟨h1, h2, h3⟩
          · exact .inl ⟨h1, by simp; exact ⟨h2, fun e' => e e'.symm⟩⟩
          · exact .inr ⟨by simp [h1], h2, by simp only [List.length_append, List.length_singleton]; omega⟩
      wb := fun x u hu => by
        have hw := h.wb fr _ e3
        simp only [List.getElem?_set] at hu
        by_cases e : tx = x
        · subst e
          simp only [h.wl, hto, if_true] at hu
          injection hu with hu
          subst hu
          simp only [List.length_append, List.length_singleton]; omega
        · rw [if_neg e] at hu
          have := h.wb x u hu
          simp only [List.length_append, List.length_singleton]; omega }
  · exact h
theorem meetT_mem {t : Tr} {fr tx : Nat} {st : Int} {x : Nat} (h : x ∈ t.q) : x ∈ (meetT t fr tx st).q := by
  unfold meetT; split
  · simp [h]
  · exact h
theorem meetT_get {t : Tr} {fr tx : Nat} {st : Int} {i x : Nat} (h : t.q[i]? = some x) : (meetT t fr tx st).q[i]? = some x := by
  unfold meetT; split
  · show (t.q ++ [tx])[i]? = some x
    rw [List.getElem?_append_left (List.getElem?_eq_some_iff.1 h).1]; exact h
  · exact h
theorem rndT_ok {T : Nat → Nat → Nat} {s n : Nat} {t : Tr} (h : TrOk n t) {fr : Nat} (hfr : fr ∈ t.q) (hT : ∀ j, j < 2 * s → T j fr < n) :
    ∀ j, j ≤ 2 * s → TrOk n (rndT T s t fr j) ∧ fr ∈ (rndT T s t fr j).q
  | 0, _ => ⟨h, hfr⟩
  | j + 1, hj => by
    have ih := rndT_ok h hfr hT j (by omega)
    exact ⟨ih.1.meet _ ih.2 (hT j (by omega)), meetT_mem ih.2⟩
theorem rndT_get {T : Nat → Nat → Nat} {s : Nat} {t : Tr} {fr i x : Nat} (h : t.q[i]? = some x) : ∀ j, (rndT T s t fr j).q[i]? = some x
  | 0 => h
  | j + 1 => meetT_get (rndT_get h j)
theorem growT_ok {T : Nat → Nat → Nat} {s n k : Nat} (hk : k < n) (hT : ∀ j fr, j < 2 * s → fr < n → T j fr < n) : ∀ i, TrOk n (growT T s n k i)
  | 0 => tr0_ok hk
  | i + 1 => by
    have ih := growT_ok hk hT i
    unfold growT
    split
    · rename_i fr hfr
      have hm := List.mem_of_getElem? hfr
      exact (rndT_ok ih hm (fun j hj => hT j fr hj (ih.qb fr hm)) _ (Nat.le_refl _)).1
    · exact ih
theorem growT_step {T : Nat → Nat → Nat} {s n k i fr : Nat} (h : (growT T s n k i).q[i]? = some fr) : growT T s n k (i + 1) = rndT T s (growT T s n k i) fr (2 * s) := by
  rw [growT, h]
theorem growT_stop {T : Nat → Nat → Nat} {s n k i : Nat} (h : (growT T s n k i).q.length ≤ i) : ∀ j, growT T s n k (i + j) = growT T s n k i
  | 0 => rfl
  | j + 1 => by
    have ih := growT_stop h j
    show growT T s n k (i + j + 1) = _
    rw [growT, ih, List.getElem?_eq_none (by omega)]
theorem growT_end {T : Nat → Nat → Nat} {s n k i : Nat} (hi : i ≤ n) (h : (growT T s n k i).q.length ≤ i) : treeT T s n k = growT T s n k i := by
  obtain ⟨j, rfl⟩ := Nat.exists_eq_add_of_le hi
  exact growT_stop (n := i + j) h j
theorem rndT_len {T : Nat → Nat → Nat} {s : Nat} {t : Tr} {fr : Nat} : ∀ j, t.q.length ≤ (rndT T s t fr j).q.length
  | 0 => Nat.le_refl _
  | j + 1 => by
    have ih := rndT_len (T := T) (s := s) (t := t) (fr := fr) j
    show _ ≤ (meetT _ _ _ _).q.length
    unfold meetT; split
    · show _ ≤ (_ ++ [_]).length
      simp; omega
    · exact ih
end Go.Proofs.Ytgpjcekpmhfljaa

/- append(dst, src...): a slice behind another one. -/
namespace Go.Proofs.Ytgpjcekpmhfljaa
open Go.RowKit
set_option linter.unusedVariables false
set_option linter.unusedSimpArgs false
-- @LONG

theorem run_append_empty {P : Program} (W : World) (t ty e : TypeId) (i : TypeInfo) (ht : P.underlying t = some (.slice e)) (hi : P.info? e = some i) (base : Nat) (v : Value) (cs : List Value) (h : Own W base e v cs) :
    (Builtin.append_ #[t, t] ty #[v, .slice none 0 0]).run P W = .ok v W := by
  obtain ⟨A, c, rfl, hc, hA⟩ := h.form
  rcases hA with ⟨rfl, rfl, rfl⟩ | ⟨g, rfl, _⟩
  · simp [Builtin.append_, run_underlying ht, sizeOf, typeInfo, hi, Builtin.lenOf, Builtin.firstCells, loadCells, loadCellsFrom]
  · simp [Builtin.append_, run_underlying ht, sizeOf, typeInfo, hi, Builtin.lenOf, Builtin.firstCells, hc, storeCells]
theorem run_append_sl {P : Program} (W : World) (t ty e : TypeId) (z : Value) (bytes : Nat) (ht : P.underlying t = some (.slice e)) (hinfo : (P.info? e).map (fun i => (i.zero, i.size, i.bytes)) = some (some z, 1, bytes)) (hz : z.cells.size = 1) (hb : bytes ≤ 64)
    (base : Nat) (v : Value) (cs : List Value) (h : Own W base e v cs) (hbase : base ≤ W.heap.size) (b2 e2 : Nat) (v2 : Value) (cs2 : List Value) (h2 : Own W b2 e2 v2 cs2) (h1 : ∀ u ∈ cs2, u.oneCell' = true) (hlen : cs.length + cs2.length ≤ 1000000000) :
    ∃ v' w', (Builtin.append_ #[t, t] ty #[v, v2]).run P W = .ok v' w' ∧ Own w' base e v' (cs ++ cs2) ∧ Below base W w' ∧ (∀ k, k < W.heap.size → v.ownBlock ≠ some k → w'.heap[k]? = W.heap[k]?) ∧ (v'.ownBlock = v.ownBlock ∨ v'.ownBlock = some W.heap.size) := by
  obtain ⟨i, hi, hz0, hz1, hz2⟩ := info_parts hinfo
  obtain ⟨A, c, rfl, hc, hA⟩ := h2.form
  rcases hA with ⟨rfl, rfl, rfl⟩ | ⟨g, rfl, _, _, hcell⟩
  · refine ⟨v, W, run_append_empty W t ty e i ht hi base v cs h, by rw [List.append_nil]; exact h, Below.refl _ _, fun _ _ _ => rfl, .inl rfl⟩
  · obtain ⟨v', w', hr, h3, h4, _, h5⟩ := run_append_own_at (P := P) W base t ty e i z 1 bytes ht hi hz0 hz1 hz2 hz (by omega) v cs.length cs h ⟨g, 0, none⟩ cs2.length c cs2 (by omega) (fun j u hu => by rw [Addr.add_mid, Nat.zero_add]; exact hcell j u hu) h1
      (by simp only [maxLen]; omega) (Nat.le_trans (Nat.mul_le_mul_left _ hb) (by omega)) hbase
    have hold : ∀ k, k < W.heap.size → v.ownBlock ≠ some k → w'.heap[k]? = W.heap[k]? := fun k hk hne => h4.block k hk (fun e => hne e.symm)
    refine ⟨v', w', hr, ?_, ⟨h4.os, h4.tape, h4.output, h4.size, fun k hk => hold k (by omega) (fun e => by have := (h.lt k e).1; omega)⟩, hold, h5⟩
    unfold Own
    rw [List.length_append]; exact h3
section
variable {ops : Array Oper} {rest : List Oper} {o : Oper} {act : Act} {W w0 : World} {Q : Exit → Act → World → Prop} {L : List Asn} {base : Nat}
theorem St.appdV {t : Nat} {v v' : Value} {cs cs' : List Value} {w w' : World} (h : St base w0 (Asn.own base t v cs :: L) w) (hO : Own w' base t v' cs') (hb : Below base w w') (hold : ∀ k, k < w.heap.size → v.ownBlock ≠ some k → w'.heap[k]? = w.heap[k]?)
    (hg : v'.ownBlock = v.ownBlock ∨ v'.ownBlock = some w.heap.size) : St base w0 (Asn.own base t v' cs' :: L) w' :=
  h.turn (a' := Asn.own base t v' cs') hO (fun k hk => by
    have hk' : v'.ownBlock = some k := hk
    rcases hg with hg | hg
    · exact .inl (hg.symm.trans hk')
    · rw [hg] at hk'; injection hk' with e; exact .inr (by omega)) (fun k hk => ((show Own w base t v cs from h.star.1).lt k hk).1) hb fun k hk hne => hold k hk hne
theorem St.appS (t e : TypeId) (z : Value) (bytes : Nat)
    (ht : Try.prog.underlying t = some (.slice e)) (hinfo : (Try.prog.info? e).map (fun i => (i.zero, i.size, i.bytes)) = some (some z, 1, bytes)) (hz : z.cells.size = 1) (hb : bytes ≤ 64)
    (hgd : o.guard = none) (s x : Operand) (ho : o.op = .call { callee := .builtin .append, args := #[s, x], argTypes := #[t, t] })
    (v : Value) (cs : List Value) (hs : act.eval s = v) (hS : St base w0 (Asn.own base e v cs :: L) W) (b2 e2 : Nat) (v2 : Value) (cs2 : List Value) (hx : act.eval x = v2) (h2 : Own W b2 e2 v2 cs2) (h1 : ∀ u ∈ cs2, u.oneCell' = true) (hlen : cs.length + cs2.length ≤ 1000000000)
    (h : ∀ v' w', St base w0 (Asn.own base e v' (cs ++ cs2) :: L) w' → wpList Try.prog ops Q rest (act.put o.dst v') w') : wpList Try.prog ops Q (o :: rest) act W := by
  obtain ⟨v', w', hr, h3, h4, h5, h6⟩ := run_append_sl (P := Try.prog) W t o.type e z bytes ht hinfo hz hb base v cs hS.star.1 hS.le b2 e2 v2 cs2 h2 h1 hlen
  refine wpList_plain hgd fun K hK => ?_
  unfold Oper.wp execOp
  simp only [ho, resolve, invoke, builtin, Sem.run_bind, Sem.run_pure, Result.andThen_ok, List.map_toArray, List.map_cons, List.map_nil, hs, hx, hr]
  exact hK _ _ (h v' w' (hS.appdV h3 h4 h5 h6))
end
theorem ints_one (l : List Int) : ∀ u ∈ ints l, u.oneCell' = true := fun u hu => by
  obtain ⟨x, _, rfl⟩ := List.mem_map.1 hu
  rfl

set_option maxHeartbeats 1000000 in
set_option maxRecDepth 100000 in
theorem clone_any (w : World) (base : Nat) (v : Value) (l : List Int) (h : Own w base 2 v (ints l)) (hl : l.length ≤ 1000000) :
    Calls Try.prog 76 #[v] w fun e w' => ∃ v', e = .returned v' ∧ Own w' w.heap.size 2 v' (ints l) ∧ Below w.heap.size w w' := by
  have hil := ints_length l
  have hnil := fun (W : World) (a : Option Addr) (n c : Nat) => Lib.run_eql_slice_nil (P := Try.prog) W 34 2 a n c 0 0 Try.underlying34
  obtain ⟨A, c, rfl, _, hA⟩ := h.form
  rw [hil] at h ⊢
  rcases hA with ⟨rfl, h0, rfl⟩ | ⟨g, rfl, _⟩
  · have hl0 : l = [] := by rw [← List.length_eq_zero_iff, ← hil, h0]; rfl
    subst hl0
    clear h
    go_enter Try.func76, Try.ntmps76
    go_wp2
    go_ret
    exact ⟨_, rfl, Own.nil _ _ _, Below.refl _ _⟩
  · have hS := hid ((St.start w).newOwn [] 2 (by simp))
    have h' := hid (h.alloc (.cells #[] 2))
    clear h
    go_enter Try.func76, Try.ntmps76
    go_wp2_with (first
      | ((with_reducible refine gate (N := 7) rfl ?_); refine St.appS 34 2 (.int .i64 0) 8 Try.underlying34 info_i64 rfl (by omega) rfl _ _ rfl _ _ rfl hS.out _ _ _ _ rfl h'.out (ints_one l) (by rw [hil]; simp; omega) ?_; intro v' w2 hS'; replace hS := hid hS'; clear hS'))
    go_ret
    exact ⟨_, rfl, by have h := hS.out.o0; rw [List.nil_append] at h; exact h, hS.out.bel⟩
end Go.Proofs.Ytgpjcekpmhfljaa
