/- What the proof of CommutatorOfStates leans on, part 9 of 10. -/
import Derived.Test.YthempofohidlnaaZCommutatorOfStatesH
/- slices.Repeat of one element, a few times. -/
namespace Go.Proofs.Ythempofohidlnaa
open Go.RowKit
set_option linter.unusedVariables false
set_option linter.unusedSimpArgs false
-- @LONG

/-- The cells cs, n times. -/
def rp (cs : List Value) (n : Nat) : List Value := (List.range (n * cs.length)).map fun j => cs.getD (j % cs.length) undef
theorem rp_length (cs : List Value) (n : Nat) : (rp cs n).length = n * cs.length := by simp [rp]
theorem rp_get (cs : List Value) (n j : Nat) (h : j < n * cs.length) : (rp cs n)[j]? = some (cs.getD (j % cs.length) undef) := by simp [rp, h]
theorem rp_at (cs : List Value) (n i j : Nat) (u : Value) (hi : i < n) (hu : cs[j]? = some u) : (rp cs n)[i * cs.length + j]? = some u := by
  have hj := (List.getElem?_eq_some_iff.1 hu).1
  have h1 : i * cs.length + cs.length ≤ n * cs.length := by rw [← Nat.succ_mul]; exact Nat.mul_le_mul_right _ hi
  rw [rp_get _ _ _ (by omega), Nat.mul_comm i, Nat.mul_add_mod, Nat.mod_eq_of_lt hj, List.getD_eq_getElem?_getD, hu]; rfl
theorem rp_one (cs : List Value) (n : Nat) (h1 : ∀ v ∈ cs, v.oneCell' = true) : ∀ v ∈ rp cs n, v.oneCell' = true := fun v hv => by
  unfold rp at hv
  obtain ⟨j, hj, rfl⟩ := List.mem_map.1 hv
  have hj' := List.mem_range.1 hj
  have hpos : 0 < cs.length := Nat.pos_of_ne_zero (fun e => by rw [e] at hj'; simp at hj')
  have hlt := Nat.mod_lt j hpos
  rw [List.getD_eq_getElem?_getD, List.getElem?_eq_getElem hlt]
  exact h1 _ (List.getElem_mem hlt)
/-- What is in the row when k elements are there. -/
def Rep (cs : List Value) (n k : Nat) (cur : List Value) : Prop := cur.length = n * cs.length ∧ ∀ j, j < k * cs.length → cur[j]? = (rp cs n)[j]?
theorem Rep.all {cs cur : List Value} {n : Nat} (h : Rep cs n n cur) : cur = rp cs n := by
  apply List.ext_getElem?
  intro j
  by_cases hj : j < n * cs.length
  · exact h.2 j hj
  · rw [List.getElem?_eq_none (by rw [h.1]; omega), List.getElem?_eq_none (by rw [rp_length]; omega)]
theorem Rep.step {cs cur : List Value} {n k c : Nat} (h : Rep cs n k cur) (hc : k + c ≤ n) : Rep cs n (k + c) (splice cur (k * cs.length) ((rp cs n).take (c * cs.length))) := by
  have e1 : k * cs.length + c * cs.length = (k + c) * cs.length := (Nat.add_mul _ _ _).symm
  have e2 : (k + c) * cs.length ≤ n * cs.length := Nat.mul_le_mul_right _ hc
  have hl : ((rp cs n).take (c * cs.length)).length = c * cs.length := by rw [List.length_take, rp_length]; omega
  refine ⟨by rw [length_splice _ _ _ (by rw [hl, h.1]; omega)]; exact h.1, fun j hj => ?_⟩
  unfold splice
  have hk : (cur.take (k * cs.length)).length = k * cs.length := by rw [List.length_take, h.1]; omega
  by_cases hj1 : j < k * cs.length
  · rw [List.getElem?_append_left (by omega), List.getElem?_take_of_lt hj1]
    exact h.2 j hj1
  · rw [List.getElem?_append_right (by omega), hk, List.getElem?_append_left (by omega), List.getElem?_take_of_lt (by omega), rp_get _ _ _ (by omega), rp_get _ _ _ (by omega)]
    have e3 : j % cs.length = (j - k * cs.length) % cs.length := by
      conv => lhs; rw [show j = k * cs.length + (j - k * cs.length) by omega, Nat.mul_comm k, Nat.mul_add_mod]
      rw [Nat.mul_comm k]
    rw [e3]
theorem Rep.zero {cs Z : List Value} {n : Nat} (h : Z.length = n * cs.length) : Rep cs n 0 Z := ⟨h, fun j hj => by omega⟩

/-- A part that is one block, its row anew. -/
theorem St.setRow {base bn : Nat} {w0 w : World} {L : List Asn} {cs : Array Value} {t : Nat} (h : St base w0 (Asn.blk bn cs t :: L) w) (hb : base ≤ bn) (cs' : Array Value) : St base w0 (Asn.blk bn cs' t :: L) (w.setRow bn cs') :=
  h.turn (a' := Asn.blk bn cs' t) (setRow_heap w bn _ _ t _ h.star.1) (fun k hk => .inl hk) (fun k hk => (show k = bn from hk) ▸ hb) (below_setRow (Below.refl _ _) hb _)
    fun k _ hk => setRow_other w bn k _ hk
/-- copy as a step of a region that draws. -/
theorem step_copy_N {P : Program} {ops : Array Oper} {o : Oper} {a : Act} {w : World} {K : Act → World → Prop} {Q : Exit → Act → World → Prop} {E : Prop} (hgd : o.guard = none) (d s : Operand) (dT sT : TypeId)
    (ho : o.op = .call { callee := .builtin .copy, args := #[d, s], argTypes := #[dT, sT] }) (elem : TypeId) (sz : Nat) (hu : P.underlying dT = some (.slice elem)) (hsz : (P.info? elem).map (·.size) = some sz)
    (g off dLen dCap : Nat) (ad : Addr) (sLen sCap : Nat) (hd : a.eval d = .slice (some ⟨g, off, none⟩) dLen dCap) (hs : a.eval s = .slice (some ad) sLen sCap)
    (cur : List Value) (t : TypeId) (hg : w.heap[g]? = some (.cells cur.toArray t (0, 0))) (cs : List Value) (hn : cs.length = Nat.min sLen dLen * sz)
    (hsrc : ∀ j v, cs[j]? = some v → w.cell? (ad.add j) = some v) (hfit : off + cs.length ≤ cur.length) (h1 : ∀ v ∈ cs, v.oneCell' = true)
    (h : K (a.put o.dst (goInt (Nat.min sLen dLen))) (w.setRow g (splice cur off cs).toArray)) :
    if Region.wanted o (yielded ops a.tmps) = true then Oper.wp P o a w K Q else E := by
  have hw : Region.wanted o (yielded ops a.tmps) = true := by simp [Region.wanted, hgd]
  rw [if_pos hw]
  have hrun := run_copy_N (P := P) w dT sT o.type elem sz g off dLen dCap ad sLen sCap cur.toArray t cs hu hsz hg hn hsrc (by simpa using hfit) h1
  unfold Oper.wp
  simp [execOp, ho, resolve, invoke, builtin, hd, hs, hrun, Result.andThen]
  have e : w.setRow g (splice cur off cs).toArray = w.setRow g (List.take off cur ++ (cs ++ List.drop (off + cs.length) cur)).toArray := rfl
  first
    | exact h
    | (rw [e] at h; simpa using h)
/-- The numbers of times that are asked for. -/
def Few (n : Nat) : Prop := n ≤ 16 ∨ n = 27 ∨ n = 32 ∨ n = 81

theorem info_factor : (Try.prog.info? 88).map (fun i => (i.zero, i.size, i.bytes)) = some (some (.agg #[.pointer none, .int .i64 0]), 2, 16) := by kernel_rfl
set_option maxHeartbeats 2000000 in
set_option maxRecDepth 4000 in
theorem repFactor_any (w : World) (gs cap n : Nat) (cs : List Value) (hc : cs.length = 2) (h1 : ∀ v ∈ cs, v.oneCell' = true) (hn : n ≤ 16)
    (hsrc : ∀ j v, cs[j]? = some v → w.cell? ⟨gs, j, none⟩ = some v) (hgs : gs < w.heap.size) :
    Calls Try.prog 77 #[.slice (some ⟨gs, 0, none⟩) 1 cap, .int .i64 n] w fun e w' => e = .returned (.slice (some ⟨w.heap.size, 0, none⟩) n n) ∧ St w.heap.size w [Asn.blk w.heap.size (rp cs n).toArray 88] w' := by
  obtain ⟨i, hi, hz0, hz1, hz2⟩ := info_parts info_factor
  have hmk := fun W : World => run_make (P := Try.prog) W 89 88 i _ Try.underlying89 hi hz0 .i64 .i64 n n (by omega) (by omega) (by rw [hz2]; omega) (by omega)
  rw [hz1] at hmk
  simp only [Int.toNat_natCast] at hmk
  obtain ⟨Z, hZ⟩ : ∃ Z : List Value, Z.toArray = madeCells (Value.agg #[.pointer none, .int .i64 0]).cells (n * 2) := ⟨(madeCells (Value.agg #[.pointer none, .int .i64 0]).cells (n * 2)).toList, by simp⟩
  have hZl := hid (show Z.length = n * cs.length by rw [hc, ← List.size_toArray, hZ, size_madeCells])
  rw [← hZ] at hmk
  clear hi hz0 hz1 hz2 hZ
  have hb := hid (fun W => bitsMul_small W n hn)
  have xn : (n : Int) % 18446744073709551616 = n := by omega
  have hS := hid ((St.start w).newBlk Z.toArray 88)
  replace hsrc := hid hsrc; replace h1 := hid h1; replace hc := hid hc
  go_enter Try.func77, Try.ntmps77
  go_upto_region 7 with (first
    | (go_at_call 128; (with_reducible refine (hb.out _).mono ?_); rintro e w1 ⟨rfl, rfl⟩))
  have hpre : Hid (∃ k : Nat, k = Nat.min 1 n ∧ k ≤ n ∧ (0 < n → 0 < k)) := ⟨_, rfl, by simp only [Nat.min_def]; split <;> omega, fun h => by simp only [Nat.min_def]; split <;> omega⟩
  obtain ⟨k0, hk0, hk0n, hk0p⟩ := hpre.out
  replace hk0 := hid hk0
  have pl := hid (show ((rp cs n).take (k0 * cs.length)).length = Nat.min 1 n * 2 by
    have h2 : k0 * cs.length ≤ n * cs.length := Nat.mul_le_mul_right _ hk0n
    rw [List.length_take, rp_length, ← hk0.out, hc.out] at *; omega)
  have psrc := hid (fun (W : World) (hW : Below w.heap.size w W) => (show ∀ j v, ((rp cs n).take (k0 * cs.length))[j]? = some v → W.cell? ((⟨gs, 0, none⟩ : Addr).add j) = some v from fun j v hv => by
    have hj := (List.getElem?_eq_some_iff.1 hv).1
    rw [pl.out, ← hk0.out] at hj
    have h01 : k0 ≤ 1 := by rw [hk0.out]; exact Nat.min_le_left _ _
    have h2 : j < cs.length := by rw [hc.out]; omega
    have h3 : k0 * cs.length ≤ n * cs.length := Nat.mul_le_mul_right _ hk0n
    rw [hc.out] at h3
    rw [List.getElem?_take_of_lt (by rw [hc.out]; omega), rp_get _ _ _ (by rw [hc.out]; omega), Nat.mod_eq_of_lt h2] at hv
    rw [Addr.add_mid, Nat.zero_add]
    refine (hW.cell (p := ⟨gs, j, none⟩) hgs).trans (hsrc.out j v ?_)
    rw [List.getD_eq_getElem?_getD, List.getElem?_eq_getElem h2] at hv
    rw [List.getElem?_eq_getElem h2]; exact hv))
  have pfit := hid (show 0 + ((rp cs n).take (k0 * cs.length)).length ≤ Z.length by
    have h2 : k0 * cs.length ≤ n * cs.length := Nat.mul_le_mul_right _ hk0n
    rw [List.length_take, rp_length, hZl.out]; omega)
  have pone := hid (fun v (hv : v ∈ (rp cs n).take (k0 * cs.length)) => rp_one cs n h1.out v (List.mem_of_mem_take hv))
  go_wp2_with (first
    | ((with_reducible refine gate (N := 33) rfl ?_); refine wpList_copy_N rfl _ _ _ _ rfl 88 2 Try.underlying89 sz_factor w.heap.size 0 n n ⟨gs, 0, none⟩ 1 cap rfl rfl Z _ hS.out.k0 ((rp cs n).take (k0 * cs.length)) pl.out (psrc.out _ hS.out.bel) pfit.out pone.out ?_; replace hS := hid (hS.out.setRow (Nat.le_refl _) (splice Z 0 ((rp cs n).take (k0 * cs.length))).toArray)))
  have hR := hid (show Rep cs n k0 (splice Z 0 ((rp cs n).take (k0 * cs.length))) from by have h := Rep.step (c := k0) (Rep.zero hZl.out) (show 0 + k0 ≤ n by omega); rw [Nat.zero_add, Nat.zero_mul] at h; exact h)
  go_loopw [8] (fun i wr => ∃ (k : Nat) (cur : List Value), k ≤ n ∧ (0 < n → 0 < k) ∧ i = .int .i64 k ∧ Hid (Rep cs n k cur) ∧ St w.heap.size w [Asn.blk w.heap.size cur.toArray 88] wr) (fun i _ => n - (intOf i).toNat)
  case atStart => exact ⟨k0, _, hk0n, hk0p, by rw [hk0.out], hR, hS.out⟩
  case round =>
    obtain ⟨k, cur, hk, hkp, rfl, hR2, rS⟩ := hrel
    clear hS hR pl psrc pfit pone
    replace rS := hid rS
    by_cases hkn : k < n
    · have dc : decide ((k : Int) < (n : Int)) = true := decide_eq_true (by omega)
      have i0 : (0 : Int) ≤ (k : Int) := Int.natCast_nonneg _
      have i1 : (k : Int) ≤ (n : Int) := by omega
      have hnk : ¬ n = k := by omega
      obtain ⟨c, hcc⟩ : ∃ c, c = Nat.min k (n - k) := ⟨_, rfl⟩
      have hcn : k + c ≤ n := by rw [hcc]; show k + min k (n - k) ≤ n; omega
      have hck : c ≤ k := by rw [hcc]; exact Nat.min_le_left _ _
      have hcp : 0 < c := by rw [hcc]; show 0 < min k (n - k); omega
      replace hcc := hid hcc
      have ew : IntKind.i64.wrap ((k : Int) + (c : Int)) = ((k + c : Nat) : Int) := by rw [IntWalk.i64_in _ (by omega)]; rfl
      have m1 : k * cs.length + c * cs.length = (k + c) * cs.length := (Nat.add_mul _ _ _).symm
      have m2 : (k + c) * cs.length ≤ n * cs.length := Nat.mul_le_mul_right _ hcn
      have m3 : c * cs.length ≤ k * cs.length := Nat.mul_le_mul_right _ hck
      replace m1 := hid m1; replace m2 := hid m2; replace m3 := hid m3
      have pl := hid (show ((rp cs n).take (c * cs.length)).length = Nat.min k (n - k) * 2 by rw [List.length_take, rp_length, ← hcc.out, ← hc.out]; have := m1.out; have := m2.out; omega)
      have psrc := hid (fun (W : World) (hW : W.heap[w.heap.size]? = some (.cells cur.toArray 88 (0, 0))) => (show ∀ j v, ((rp cs n).take (c * cs.length))[j]? = some v → W.cell? ((⟨w.heap.size, 0, none⟩ : Addr).add j) = some v from fun j v hv => by
        have hj := (List.getElem?_eq_some_iff.1 hv).1
        rw [List.length_take] at hj
        rw [List.getElem?_take_of_lt (by omega), ← hR2.out.2 j (by have := m3.out; omega)] at hv
        rw [Addr.add_mid, Nat.zero_add, cell_of_row W w.heap.size j _ _ _ hW]
        simpa using hv))
      have pfit := hid (show k * 2 + ((rp cs n).take (c * cs.length)).length ≤ cur.length by rw [List.length_take, rp_length, hR2.out.1, ← hc.out]; have := m1.out; have := m2.out; omega)
      have pone := hid (fun v (hv : v ∈ (rp cs n).take (c * cs.length)) => rp_one cs n h1.out v (List.mem_of_mem_take hv))
      have hR3 := hid (show Rep cs n (k + c) (splice cur (k * 2) ((rp cs n).take (c * cs.length))) from by have h := hR2.out.step hcn; rw [show k * cs.length = k * 2 by rw [hc.out]] at h; exact h)
      go_upto_region 9 with (fail)
      refine wp_region_heldL (L := []) (by kernel_rfl) HeldL.nil (fun hHeld => ?_)
      replace rS := hid rS.out.drew
      generalize wr.drew = wd at *
      refine wpAnyL_take0 (i := 0) (v := ?_) rfl (by kernel_rfl) (by kernel_rfl) (by kernel_rfl) (by rfl) (fun _ _ _ h => h) (Or.inl ⟨by rfl, ?_⟩) (by assumption) ?_
      rotate_left
      · (intro W _; go_simp; (with_reducible rfl))
      intro hHeld'
      clear hHeld; have hHeld := hHeld'; clear hHeld'
      try simp only [Act.put, List.getElem_toArray, List.getElem_cons_succ, List.getElem_cons_zero, List.setIfInBounds_toArray, List.set_cons_zero, List.set_cons_succ]
      refine wpAnyL_take0 (i := 1) (v := ?_) rfl (by kernel_rfl) (by kernel_rfl) (by kernel_rfl) (by rfl) (fun _ _ _ h => h) (Or.inl ⟨by rfl, ?_⟩) (by assumption) ?_
      rotate_left
      · (intro W _; go_simp; (with_reducible rfl))
      intro hHeld'
      clear hHeld; have hHeld := hHeld'; clear hHeld'
      try simp only [Act.put, List.getElem_toArray, List.getElem_cons_succ, List.getElem_cons_zero, List.setIfInBounds_toArray, List.set_cons_zero, List.set_cons_succ]
      refine wpAnyL_take0 (i := 2) (v := ?_) rfl (by kernel_rfl) (by kernel_rfl) (by kernel_rfl) (by rfl) (fun _ _ _ h => h) (Or.inl ⟨by rfl, ?_⟩) (by assumption) ?_
      rotate_left
      · (intro W _; go_simp; (with_reducible rfl))
      intro hHeld'
      clear hHeld; have hHeld := hHeld'; clear hHeld'
      try simp only [Act.put, List.getElem_toArray, List.getElem_cons_succ, List.getElem_cons_zero, List.setIfInBounds_toArray, List.set_cons_zero, List.set_cons_succ]
      refine wpAnyL_take0 (i := 3) (v := ?_) rfl (by kernel_rfl) (by kernel_rfl) (by kernel_rfl) (by rfl) (fun _ _ _ h => h) (Or.inl ⟨by rfl, ?_⟩) (by assumption) ?_
      rotate_left
      · (intro W _; go_simp; (with_reducible rfl))
      intro hHeld'
      clear hHeld; have hHeld := hHeld'; clear hHeld'
      try simp only [Act.put, List.getElem_toArray, List.getElem_cons_succ, List.getElem_cons_zero, List.setIfInBounds_toArray, List.set_cons_zero, List.set_cons_succ]
      refine wpAnyL_take0 (i := 4) (v := ?_) rfl (by kernel_rfl) (by kernel_rfl) (by kernel_rfl) (by rfl) (fun _ _ _ h => h) (Or.inl ⟨by rfl, ?_⟩) (by assumption) ?_
      rotate_left
      · (intro W _; go_simp; (with_reducible rfl))
      intro hHeld'
      clear hHeld; have hHeld := hHeld'; clear hHeld'
      try simp only [Act.put, List.getElem_toArray, List.getElem_cons_succ, List.getElem_cons_zero, List.setIfInBounds_toArray, List.set_cons_zero, List.set_cons_succ]
      refine wpAnyL_take0 (i := 5) (v := ?_) rfl (by kernel_rfl) (by kernel_rfl) (by kernel_rfl) (by rfl) (fun _ _ _ h => h) (Or.inl ⟨by rfl, ?_⟩) (by assumption) ?_
      rotate_left
      · (intro W _; go_simp; (with_reducible rfl))
      intro hHeld'
      clear hHeld; have hHeld := hHeld'; clear hHeld'
      try simp only [Act.put, List.getElem_toArray, List.getElem_cons_succ, List.getElem_cons_zero, List.setIfInBounds_toArray, List.set_cons_zero, List.set_cons_succ]
      refine wpAnyL_take0 (i := 6) (v := ?_) rfl (by kernel_rfl) (by kernel_rfl) (by kernel_rfl) (by rfl) (fun _ _ _ h => h) (Or.inl ⟨by rfl, ?_⟩) (by assumption) ?_
      rotate_left
      · (intro W _; go_simp; (with_reducible rfl))
      intro hHeld'
      clear hHeld; have hHeld := hHeld'; clear hHeld'
      try simp only [Act.put, List.getElem_toArray, List.getElem_cons_succ, List.getElem_cons_zero, List.setIfInBounds_toArray, List.set_cons_zero, List.set_cons_succ]
      refine wpAnyL_ready (rs := [7]) (by kernel_rfl) (by simp) ?_
      refine AllReadyL.cons rfl (fun K hK => ?_) AllReadyL.nil
      refine step_copy_N rfl _ _ _ _ rfl 88 2 Try.underlying89 sz_factor w.heap.size (k * 2) (n - k) (n - k) ⟨w.heap.size, 0, none⟩ k n rfl rfl cur _ rS.out.k0 ((rp cs n).take (c * cs.length)) (by rw [pl.out]) (psrc.out _ rS.out.k0) pfit.out pone.out ?_
      replace rS := hid (rS.out.setRow (Nat.le_refl _) (splice cur (k * 2) ((rp cs n).take (c * cs.length))).toArray)
      generalize wd.setRow w.heap.size (splice cur (k * 2) ((rp cs n).take (c * cs.length))).toArray = we at *
      rw [← hcc.out]
      refine hK.out _ _ (HeldL.nil) (fun hHeld' => ?_)
      clear hK K hHeld; have hHeld := hHeld'; clear hHeld'
      try simp only [Act.put, List.getElem_toArray, List.getElem_cons_succ, List.getElem_cons_zero, List.setIfInBounds_toArray, List.set_cons_zero, List.set_cons_succ]
      refine wpAnyL_take0 (i := 8) (v := ?_) rfl (by kernel_rfl) (by kernel_rfl) (by kernel_rfl) (by rfl) (fun _ _ _ h => h) (Or.inl ⟨by rfl, ?_⟩) (by assumption) ?_
      rotate_left
      · (intro W _; go_simp; (with_reducible rfl))
      intro hHeld'
      clear hHeld; have hHeld := hHeld'; clear hHeld'
      try simp only [Act.put, List.getElem_toArray, List.getElem_cons_succ, List.getElem_cons_zero, List.setIfInBounds_toArray, List.set_cons_zero, List.set_cons_succ]
      refine wpAnyL_take0 (i := 9) (v := ?_) rfl (by kernel_rfl) (by kernel_rfl) (by kernel_rfl) (by rfl) (fun _ _ _ h => h) (Or.inl ⟨by rfl, ?_⟩) (by assumption) ?_
      rotate_left
      · (intro W _; go_simp; (with_reducible rfl))
      intro hHeld'
      clear hHeld; have hHeld := hHeld'; clear hHeld'
      try simp only [Act.put, List.getElem_toArray, List.getElem_cons_succ, List.getElem_cons_zero, List.setIfInBounds_toArray, List.set_cons_zero, List.set_cons_succ]
      refine wpAnyL_done (by kernel_rfl) ?_ _
      go_wp2
      go_roundw
      case rel => exact ⟨k + c, _, hcn, fun _ => by omega, by go_num, hR3, rS.out⟩
      case measure => simp [intOf]; omega
    · obtain rfl : k = n := by omega
      have dc : decide ((k : Int) < (k : Int)) = false := decide_eq_false (by omega)
      have hall := hid hR2.out.all
      go_wp2
      go_ret
      exact ⟨rfl, by rw [← hall.out]; exact rS.out⟩
end Go.Proofs.Ythempofohidlnaa

/- PowerOfState: what the program answers. -/
namespace Go.Proofs.Ythempofohidlnaa
open Go.RowKit
set_option linter.unusedVariables false
set_option linter.unusedSimpArgs false
-- @LONG

theorem St.callBlk {base bn t : Nat} {w0 w w' : World} {L : List Asn} {cs : Array Value} (h : St base w0 L w) (h' : St w.heap.size w [Asn.blk bn cs t] w') (hb : w.heap.size ≤ bn) : St base w0 (Asn.blk bn cs t :: L) w' :=
  h.callPush (a := Asn.blk bn cs t) h'.bel h'.k0 fun k hk => (show k = bn from hk) ▸ hb

set_option maxHeartbeats 4000000 in
set_option maxRecDepth 4000 in
theorem implPow_any (w : World) (m : Mach) (hkm : m.Ok) (q n : Int) :
    Calls Try.prog 30 #[.agg (mcells m), .int .i64 q, .int .i64 n] w fun e w' => e = .returned (.tuple #[.agg (mcells (powAns m q n).1), .int .i64 (powAns m q n).2]) ∧ Below w.heap.size w w' := by
  have hz := zero_mach
  have hS := hid (((St.start w).newMB m 34).newMB ⟨0, 0, fun _ => 0, fun _ => 0⟩ 34)
  rw [heap_alloc_size] at hS
  have hcode := hid (fun W base v h => codeOf_any W m hkm { data := #[] } (by decide) base v [q] h (by simp))
  have hown := hid (hS.out.newOwn [Value.int .i64 q] 2 (by simp))
  simp only [heap_alloc_size] at hown
  rcases codeI_cases m q with h | h | ⟨l, s, q, g, rfl, hq, h⟩
  · rw [powAns_n h (by decide)]
    rw [h] at hcode
    replace hkm := hid hkm; clear h
    generalize hzs : mcells ⟨0, 0, fun _ => 0, fun _ => 0⟩ = zs at *
    replace hzs := hid hzs
    go_enter Try.func30, Try.ntmps30
    go_wp2_with (first
      | ((with_reducible refine gate (N := 10) rfl ?_); refine load_mach rfl _ rfl w.heap.size rfl m hS.out.m1 ?_)
      | (go_at_call 61; (with_reducible refine (hcode.out _ _ _ hown.out.o0).mono ?_); rintro e w1 ⟨rfl, hb⟩; replace hS := hid (hown.out.call hb).drop; clear hcode hown; clear hb)
      | ((with_reducible refine gate (N := 16) rfl ?_); refine build_zero rfl rfl ?_)
      | ((with_reducible refine gateOp (op := .store 34 (.tmp 6) (.tmp 16)) rfl ?_); refine store_mach rfl _ _ rfl (w.heap.size + 1) rfl ⟨0, 0, fun _ => 0, fun _ => 0⟩ rfl 34 _ hS.out.m0 ?_; intro W3 p2 ho hsz hbl; have pB := hid (hbl _ _ (Nat.le_succ _) hS.out.bel); replace p2 := hid p2; clear ho hsz hbl))
    exact ret_mach_i rfl rfl rfl p2.out rfl ⟨by rw [hzs.out], pB.out⟩
  · rw [powAns_n h (by decide)]
    rw [h] at hcode
    replace hkm := hid hkm; clear h
    generalize hzs : mcells ⟨0, 0, fun _ => 0, fun _ => 0⟩ = zs at *
    replace hzs := hid hzs
    go_enter Try.func30, Try.ntmps30
    go_wp2_with (first
      | ((with_reducible refine gate (N := 10) rfl ?_); refine load_mach rfl _ rfl w.heap.size rfl m hS.out.m1 ?_)
      | (go_at_call 61; (with_reducible refine (hcode.out _ _ _ hown.out.o0).mono ?_); rintro e w1 ⟨rfl, hb⟩; replace hS := hid (hown.out.call hb).drop; clear hcode hown; clear hb)
      | ((with_reducible refine gate (N := 16) rfl ?_); refine build_zero rfl rfl ?_)
      | ((with_reducible refine gateOp (op := .store 34 (.tmp 6) (.tmp 16)) rfl ?_); refine store_mach rfl _ _ rfl (w.heap.size + 1) rfl ⟨0, 0, fun _ => 0, fun _ => 0⟩ rfl 34 _ hS.out.m0 ?_; intro W3 p2 ho hsz hbl; have pB := hid (hbl _ _ (Nat.le_succ _) hS.out.bel); replace p2 := hid p2; clear ho hsz hbl))
    exact ret_mach_i rfl rfl rfl p2.out rfl ⟨by rw [hzs.out], pB.out⟩
  · by_cases hn : -16 ≤ n ∧ n ≤ 16
    · have hw := hid (show true = decide (-16 ≤ n ∧ n ≤ 16) from (decide_eq_true hn).symm)
      rw [powAns_0 g h hn]
      rw [h] at hcode
      have hcl := hid (fun W hW => inverse_any w.heap.size W m hW l s g hkm)
      have hpo := hid (productOf_any)
      have gB := powB_good g n
      have hz2 := hid (fun L W (h : St w.heap.size w L W) => h.newMB ⟨0, 0, fun _ => 0, fun _ => 0⟩ 34)
      replace hkm := hid hkm; clear h
      obtain ⟨ans, hpw⟩ : ∃ a, a = powR m l s q n := ⟨_, rfl⟩
      rw [← hpw]
      replace hpw := hid hpw
      generalize hzs : mcells ⟨0, 0, fun _ => 0, fun _ => 0⟩ = zs at *
      replace hzs := hid hzs
      go_enter Try.func30, Try.ntmps30
      go_upto_region 6 with (first
        | ((with_reducible refine gate (N := 10) rfl ?_); refine load_mach rfl _ rfl w.heap.size rfl m hS.out.m1 ?_)
        | (go_at_call 61; (with_reducible refine (hcode.out _ _ _ hown.out.o0).mono ?_); rintro e w1 ⟨rfl, hb⟩; replace hS := hid (hown.out.call hb).drop; clear hcode hown; clear hb)
        | (go_at_call 62; (with_reducible refine (within_any _ _ _ true hw.out _).mono ?_); rintro e w' ⟨rfl, rfl⟩))
      have hld := hid hS.out.m1
      have hle := hid hS.out.le
      replace hS := hid (hz2.out _ _ hS.out)
      by_cases hneg : n < 0
      · have hB : powB m l s n = inv m l s := if_pos hneg
        have hn0 : decide (n < 0) = true := decide_eq_true hneg
        obtain ⟨f0, hf0⟩ : ∃ f0 : Nat, -n = f0 := ⟨n.natAbs, by omega⟩
        have e0 : n.natAbs = f0 := by omega
        have hf16 : f0 ≤ 16 := by omega
        have e1 : IntKind.i64.wrap (-n) = (f0 : Int) := by rw [hf0]; exact IntWalk.i64_in _ (by omega)
        have hans : chn (fun _ => (inv m l s, s, q)) l f0 0 (trivM l) = ans := by rw [hpw.out]; unfold powR; rw [e0, hB]
        rw [hB] at gB
        replace hans := hid hans; replace gB := hid gB; replace g := hid g; replace hf0 := hid hf0
        clear hB e0 hneg hn hpw
        go_upto_region 9 with (first
          | ((with_reducible refine gate (N := 22) rfl ?_); refine load_mach rfl _ rfl w.heap.size rfl m hld.out ?_)
          | ((with_reducible refine gateOp (op := .store 34 (.tmp 9) (.tmp 22)) rfl ?_); refine store_mach rfl _ _ rfl w1.heap.size rfl m rfl 34 _ hS.out.m0 ?_; intro W1 p3 ho hsz hbl; replace hS := hid (hS.out.setM hle.out p3 ho hbl); clear p3 ho hsz hbl)
          | (go_at_call 73; (with_reducible refine (hcl.out _ hS.out.m2).mono ?_); rintro e w2 ⟨rfl, hb⟩; replace hS := hid (hS.out.call hb); clear hcl; clear hb)
          | ((with_reducible refine gateOp (op := .store 34 (.tmp 9) (.tmp 25)) rfl ?_); refine store_mach rfl _ _ rfl w1.heap.size rfl (inv m l s) rfl 34 _ hS.out.m0 ?_; intro W2 p3 ho hsz hbl; replace hS := hid (hS.out.setM hle.out p3 ho hbl); clear p3 ho hsz hbl))
        clear hld
        generalize w1.heap.size = b9 at *
        have hcs := hid (fun (W : World) B (hB : W.heap[B]? = some (.cells #[.pointer (some ⟨b9, 0, none⟩), .int .i64 (q : Int)] 88 (0, 0))) => (show ∀ j v, [Value.pointer (some ⟨b9, 0, none⟩), .int .i64 (q : Int)][j]? = some v → W.cell? ⟨B, j, none⟩ = some v from fun j v hv => by
          rw [cell_of_row W B j _ _ _ hB]; simpa using hv))
        have hrp := hid (fun (W : World) B (hB : W.heap[B]? = some (.cells (rp [.pointer (some ⟨b9, 0, none⟩), .int .i64 (q : Int)] f0).toArray 88 (0, 0))) => (show ∀ i, i < f0 → W.rangeAt B (i * 2) [.pointer (some ⟨b9, 0, none⟩), .int .i64 (q : Int)] from fun i hi j u hu => by
          rw [cell_of_row W B _ _ _ _ hB]
          simpa using rp_at _ f0 i j u hi hu))
        have hrf := hid (fun W B (hB : W.heap[B]? = some (.cells #[.pointer (some ⟨b9, 0, none⟩), .int .i64 (q : Int)] 88 (0, 0))) => repFactor_any W B 1 f0 [.pointer (some ⟨b9, 0, none⟩), .int .i64 (q : Int)] rfl (by intro v hv; simp at hv; rcases hv with rfl | rfl <;> rfl) (by omega) (hcs.out W B hB) (Array.getElem?_eq_some_iff.1 hB).1)
        have hpo2 := hid (fun W B (hB : W.heap[B]? = some (.cells (rp [.pointer (some ⟨b9, 0, none⟩), .int .i64 (q : Int)] f0).toArray 88 (0, 0))) (hm : MB W 34 b9 (inv m l s)) => hpo.out W B f0 f0 l (fun _ => ((inv m l s), s, q)) (fun _ => b9) g.out.l2 g.out.l3 (by omega) (fun W' hW' i hi => ⟨hrp.out W' B ((hW'.block B (Array.getElem?_eq_some_iff.1 hB).1).trans hB) i hi, hm.below hW' hm.lt⟩) (fun i _ => ⟨gB.out, hq⟩))
        have hcL := hid (fun W (hm : MB W 34 w.heap.size m) => (show W.cell? ⟨w.heap.size, 0, none⟩ = some (.int .i64 (l : Int)) from by have h := hm.cL; rw [g.out.L] at h; exact h))
        replace hS := hid hS.out.drew
        refine wp_region_heldL (L := [(7, (fun w' : World => w'.cell? ⟨w.heap.size, 0, none⟩ = some (.int .i64 (l : Int))))]) (by kernel_rfl) (HeldL.cons (fun _ => hcL.out _ hS.out.m2) HeldL.nil) (fun hHeld => ?_)
        generalize W2.drew = wa at *
        refine wpAnyL_take0 (i := 0) (v := ?_) rfl (by kernel_rfl) (by kernel_rfl) (by kernel_rfl) (by rfl) (fun _ _ _ h => h) (Or.inl ⟨by rfl, ?_⟩) (by assumption) ?_
        rotate_left
        · (intro W _; go_simp; (with_reducible rfl))
        intro hHeld'
        clear hHeld; have hHeld := hHeld'; clear hHeld'
        try simp only [Act.put, List.getElem_toArray, List.getElem_cons_succ, List.getElem_cons_zero, List.setIfInBounds_toArray, List.set_cons_zero, List.set_cons_succ]
        refine wpAnyL_take0 (i := 2) (v := ?_) rfl (by kernel_rfl) (by kernel_rfl) (by kernel_rfl) (by rfl) (fun _ _ _ h => h) (Or.inl ⟨by rfl, ?_⟩) (by assumption) ?_
        rotate_left
        · (intro W _; go_simp; (with_reducible rfl))
        intro hHeld'
        clear hHeld; have hHeld := hHeld'; clear hHeld'
        try simp only [Act.put, List.getElem_toArray, List.getElem_cons_succ, List.getElem_cons_zero, List.setIfInBounds_toArray, List.set_cons_zero, List.set_cons_succ]
        refine wpAnyL_take0 (i := 3) (v := ?_) rfl (by kernel_rfl) (by kernel_rfl) (by kernel_rfl) (by rfl) (fun _ _ _ h => h) (Or.inl ⟨by rfl, ?_⟩) (by assumption) ?_
        rotate_left
        · (intro W _; go_simp; (with_reducible rfl))
        intro hHeld'
        clear hHeld; have hHeld := hHeld'; clear hHeld'
        try simp only [Act.put, List.getElem_toArray, List.getElem_cons_succ, List.getElem_cons_zero, List.setIfInBounds_toArray, List.set_cons_zero, List.set_cons_succ]
        refine wpAnyL_take0 (i := 5) (v := ?_) rfl (by kernel_rfl) (by kernel_rfl) (by kernel_rfl) (by rfl) (fun _ _ _ h => h) (Or.inl ⟨by rfl, ?_⟩) (by assumption) ?_
        rotate_left
        · (intro W _; go_simp; (with_reducible rfl))
        intro hHeld'
        clear hHeld; have hHeld := hHeld'; clear hHeld'
        try simp only [Act.put, List.getElem_toArray, List.getElem_cons_succ, List.getElem_cons_zero, List.setIfInBounds_toArray, List.set_cons_zero, List.set_cons_succ]
        refine wpAnyL_takeP (i := 1) 7 [] (v := ?_) (fun w' : World => w'.cell? ⟨w.heap.size, 0, none⟩ = some (.int .i64 (l : Int))) rfl (by kernel_rfl) (by kernel_rfl) (by kernel_rfl) (by rfl) (by kernel_rfl) (by simp) (fun _ _ _ h => h) (Or.inl ⟨by rfl, ?_⟩) (by assumption) ?_
        rotate_left
        · (intro W hW; go_simp; (with_reducible rfl))
        intro hHeld'
        clear hHeld; have hHeld := hHeld'; clear hHeld'
        try simp only [Act.put, List.getElem_toArray, List.getElem_cons_succ, List.getElem_cons_zero, List.setIfInBounds_toArray, List.set_cons_zero, List.set_cons_succ]
        refine wpAnyL_ready (rs := [4]) (by kernel_rfl) (by simp) ?_
        refine AllReadyL.cons rfl (fun K hK => ?_) AllReadyL.nil
        go_simp
        replace hS := hid (hS.out.newBlk #[.pointer (some ⟨b9, 0, none⟩), .int .i64 (q : Int)] 88)
        generalize wa.heap.size = bA at *
        generalize wa.alloc (.cells #[.pointer (some ⟨b9, 0, none⟩), .int .i64 (q : Int)] 88) = wb at *
        refine hK.out _ _ (HeldL.cons (fun _ => hcL.out _ hS.out.m3) HeldL.nil) (fun hHeld' => ?_)
        clear hK K hHeld; have hHeld := hHeld'; clear hHeld'
        try simp only [Act.put, List.getElem_toArray, List.getElem_cons_succ, List.getElem_cons_zero, List.setIfInBounds_toArray, List.set_cons_zero, List.set_cons_succ]
        refine wpAnyL_ready (rs := [6]) (by kernel_rfl) (by simp) ?_
        refine AllReadyL.cons rfl (fun K hK => ?_) AllReadyL.nil
        go_simp
        (with_reducible refine (hrf.out _ _ hS.out.k0).mono ?_)
        rintro e w4 ⟨rfl, h4⟩
        replace hS := hid (hS.out.callBlk h4 (Nat.le_refl _))
        clear h4
        generalize wb.heap.size = bB at *
        go_simp
        refine hK.out _ _ (HeldL.cons (fun _ => hcL.out _ hS.out.m4) HeldL.nil) (fun hHeld' => ?_)
        clear hK K hHeld; have hHeld := hHeld'; clear hHeld'
        try simp only [Act.put, List.getElem_toArray, List.getElem_cons_succ, List.getElem_cons_zero, List.setIfInBounds_toArray, List.set_cons_zero, List.set_cons_succ]
        refine wpAnyL_ready (rs := [7]) (by kernel_rfl) (by simp) ?_
        refine AllReadyL.cons rfl (fun K hK => ?_) AllReadyL.nil
        go_simp
        (with_reducible refine (hpo2.out _ _ hS.out.k0 hS.out.m2).mono ?_)
        rintro e w5 ⟨rfl, h5⟩
        replace hS := hid (hS.out.call h5)
        clear h5
        rw [hans.out]
        go_simp
        refine hK.out _ _ (HeldL.cons (fun h => absurd h (by decide +kernel)) HeldL.nil) (fun hHeld' => ?_)
        clear hK K hHeld; have hHeld := hHeld'; clear hHeld'
        try simp only [Act.put, List.getElem_toArray, List.getElem_cons_succ, List.getElem_cons_zero, List.setIfInBounds_toArray, List.set_cons_zero, List.set_cons_succ]
        refine wpAnyL_take0 (i := 8) (v := ?_) rfl (by kernel_rfl) (by kernel_rfl) (by kernel_rfl) (by rfl) (fun _ _ _ h => h) (Or.inl ⟨by rfl, ?_⟩) (by assumption) ?_
        rotate_left
        · (intro W _; go_simp; (with_reducible rfl))
        intro hHeld'
        clear hHeld; have hHeld := hHeld'; clear hHeld'
        try simp only [Act.put, List.getElem_toArray, List.getElem_cons_succ, List.getElem_cons_zero, List.setIfInBounds_toArray, List.set_cons_zero, List.set_cons_succ]
        refine wpAnyL_take0 (i := 9) (v := ?_) rfl (by kernel_rfl) (by kernel_rfl) (by kernel_rfl) (by rfl) (fun _ _ _ h => h) (Or.inl ⟨by rfl, ?_⟩) (by assumption) ?_
        rotate_left
        · (intro W _; go_simp; (with_reducible rfl))
        intro hHeld'
        clear hHeld; have hHeld := hHeld'; clear hHeld'
        try simp only [Act.put, List.getElem_toArray, List.getElem_cons_succ, List.getElem_cons_zero, List.setIfInBounds_toArray, List.set_cons_zero, List.set_cons_succ]
        refine wpAnyL_ready (rs := [10]) (by kernel_rfl) (by simp) ?_
        refine AllReadyL.cons rfl (fun K hK => ?_) AllReadyL.nil
        refine step_store_mach rfl _ _ rfl _ rfl ans.1 rfl _ _ hS.out.m3 ?_
        intro W9 p2 ho hbl
        have pB := hid (hbl _ _ (Nat.le_succ _) hS.out.bel)
        replace p2 := hid p2
        clear ho hbl
        refine hK.out _ _ (HeldL.cons (fun h => absurd h (by decide +kernel)) HeldL.nil) (fun hHeld' => ?_)
        clear hK K hHeld; have hHeld := hHeld'; clear hHeld'
        try simp only [Act.put, List.getElem_toArray, List.getElem_cons_succ, List.getElem_cons_zero, List.setIfInBounds_toArray, List.set_cons_zero, List.set_cons_succ]
        refine wpAnyL_take0 (i := 11) (v := ?_) rfl (by kernel_rfl) (by kernel_rfl) (by kernel_rfl) (by rfl) (fun _ _ _ h => h) (Or.inl ⟨by rfl, ?_⟩) (by assumption) ?_
        rotate_left
        · (intro W _; go_simp; (with_reducible rfl))
        intro hHeld'
        clear hHeld; have hHeld := hHeld'; clear hHeld'
        try simp only [Act.put, List.getElem_toArray, List.getElem_cons_succ, List.getElem_cons_zero, List.setIfInBounds_toArray, List.set_cons_zero, List.set_cons_succ]
        refine wpAnyL_done (by kernel_rfl) ?_ _
        go_wp2
        exact ret_mach_i rfl rfl rfl p2.out rfl ⟨rfl, pB.out⟩
      · have hB : powB m l s n = m := if_neg hneg
        have hn0 : decide (n < 0) = false := decide_eq_false hneg
        obtain ⟨f0, hf0⟩ : ∃ f0 : Nat, n = f0 := ⟨n.natAbs, by omega⟩
        have e0 : n.natAbs = f0 := by omega
        have hf16 : f0 ≤ 16 := by omega
        have hans : chn (fun _ => (m, s, q)) l f0 0 (trivM l) = ans := by rw [hpw.out]; unfold powR; rw [e0, hB]
        rw [hB] at gB
        subst hf0
        replace hans := hid hans; replace gB := hid gB; replace g := hid g
        clear hB e0 hneg hn hpw
        go_upto_region 9 with (first
          | ((with_reducible refine gate (N := 22) rfl ?_); refine load_mach rfl _ rfl w.heap.size rfl m hld.out ?_)
          | ((with_reducible refine gateOp (op := .store 34 (.tmp 9) (.tmp 22)) rfl ?_); refine store_mach rfl _ _ rfl w1.heap.size rfl m rfl 34 _ hS.out.m0 ?_; intro W1 p3 ho hsz hbl; replace hS := hid (hS.out.setM hle.out p3 ho hbl); clear p3 ho hsz hbl))
        clear hld
        generalize w1.heap.size = b9 at *
        have hcs := hid (fun (W : World) B (hB : W.heap[B]? = some (.cells #[.pointer (some ⟨b9, 0, none⟩), .int .i64 (q : Int)] 88 (0, 0))) => (show ∀ j v, [Value.pointer (some ⟨b9, 0, none⟩), .int .i64 (q : Int)][j]? = some v → W.cell? ⟨B, j, none⟩ = some v from fun j v hv => by
          rw [cell_of_row W B j _ _ _ hB]; simpa using hv))
        have hrp := hid (fun (W : World) B (hB : W.heap[B]? = some (.cells (rp [.pointer (some ⟨b9, 0, none⟩), .int .i64 (q : Int)] f0).toArray 88 (0, 0))) => (show ∀ i, i < f0 → W.rangeAt B (i * 2) [.pointer (some ⟨b9, 0, none⟩), .int .i64 (q : Int)] from fun i hi j u hu => by
          rw [cell_of_row W B _ _ _ _ hB]
          simpa using rp_at _ f0 i j u hi hu))
        have hrf := hid (fun W B (hB : W.heap[B]? = some (.cells #[.pointer (some ⟨b9, 0, none⟩), .int .i64 (q : Int)] 88 (0, 0))) => repFactor_any W B 1 f0 [.pointer (some ⟨b9, 0, none⟩), .int .i64 (q : Int)] rfl (by intro v hv; simp at hv; rcases hv with rfl | rfl <;> rfl) (by omega) (hcs.out W B hB) (Array.getElem?_eq_some_iff.1 hB).1)
        have hpo2 := hid (fun W B (hB : W.heap[B]? = some (.cells (rp [.pointer (some ⟨b9, 0, none⟩), .int .i64 (q : Int)] f0).toArray 88 (0, 0))) (hm : MB W 34 b9 m) => hpo.out W B f0 f0 l (fun _ => (m, s, q)) (fun _ => b9) g.out.l2 g.out.l3 (by omega) (fun W' hW' i hi => ⟨hrp.out W' B ((hW'.block B (Array.getElem?_eq_some_iff.1 hB).1).trans hB) i hi, hm.below hW' hm.lt⟩) (fun i _ => ⟨gB.out, hq⟩))
        have hcL := hid (fun W (hm : MB W 34 w.heap.size m) => (show W.cell? ⟨w.heap.size, 0, none⟩ = some (.int .i64 (l : Int)) from by have h := hm.cL; rw [g.out.L] at h; exact h))
        replace hS := hid hS.out.drew
        refine wp_region_heldL (L := [(7, (fun w' : World => w'.cell? ⟨w.heap.size, 0, none⟩ = some (.int .i64 (l : Int))))]) (by kernel_rfl) (HeldL.cons (fun _ => hcL.out _ hS.out.m2) HeldL.nil) (fun hHeld => ?_)
        generalize W1.drew = wa at *
        refine wpAnyL_take0 (i := 0) (v := ?_) rfl (by kernel_rfl) (by kernel_rfl) (by kernel_rfl) (by rfl) (fun _ _ _ h => h) (Or.inl ⟨by rfl, ?_⟩) (by assumption) ?_
        rotate_left
        · (intro W _; go_simp; (with_reducible rfl))
        intro hHeld'
        clear hHeld; have hHeld := hHeld'; clear hHeld'
        try simp only [Act.put, List.getElem_toArray, List.getElem_cons_succ, List.getElem_cons_zero, List.setIfInBounds_toArray, List.set_cons_zero, List.set_cons_succ]
        refine wpAnyL_take0 (i := 2) (v := ?_) rfl (by kernel_rfl) (by kernel_rfl) (by kernel_rfl) (by rfl) (fun _ _ _ h => h) (Or.inl ⟨by rfl, ?_⟩) (by assumption) ?_
        rotate_left
        · (intro W _; go_simp; (with_reducible rfl))
        intro hHeld'
        clear hHeld; have hHeld := hHeld'; clear hHeld'
        try simp only [Act.put, List.getElem_toArray, List.getElem_cons_succ, List.getElem_cons_zero, List.setIfInBounds_toArray, List.set_cons_zero, List.set_cons_succ]
        refine wpAnyL_take0 (i := 3) (v := ?_) rfl (by kernel_rfl) (by kernel_rfl) (by kernel_rfl) (by rfl) (fun _ _ _ h => h) (Or.inl ⟨by rfl, ?_⟩) (by assumption) ?_
        rotate_left
        · (intro W _; go_simp; (with_reducible rfl))
        intro hHeld'
        clear hHeld; have hHeld := hHeld'; clear hHeld'
        try simp only [Act.put, List.getElem_toArray, List.getElem_cons_succ, List.getElem_cons_zero, List.setIfInBounds_toArray, List.set_cons_zero, List.set_cons_succ]
        refine wpAnyL_take0 (i := 5) (v := ?_) rfl (by kernel_rfl) (by kernel_rfl) (by kernel_rfl) (by rfl) (fun _ _ _ h => h) (Or.inl ⟨by rfl, ?_⟩) (by assumption) ?_
        rotate_left
        · (intro W _; go_simp; (with_reducible rfl))
        intro hHeld'
        clear hHeld; have hHeld := hHeld'; clear hHeld'
        try simp only [Act.put, List.getElem_toArray, List.getElem_cons_succ, List.getElem_cons_zero, List.setIfInBounds_toArray, List.set_cons_zero, List.set_cons_succ]
        refine wpAnyL_takeP (i := 1) 7 [] (v := ?_) (fun w' : World => w'.cell? ⟨w.heap.size, 0, none⟩ = some (.int .i64 (l : Int))) rfl (by kernel_rfl) (by kernel_rfl) (by kernel_rfl) (by rfl) (by kernel_rfl) (by simp) (fun _ _ _ h => h) (Or.inl ⟨by rfl, ?_⟩) (by assumption) ?_
        rotate_left
        · (intro W hW; go_simp; (with_reducible rfl))
        intro hHeld'
        clear hHeld; have hHeld := hHeld'; clear hHeld'
        try simp only [Act.put, List.getElem_toArray, List.getElem_cons_succ, List.getElem_cons_zero, List.setIfInBounds_toArray, List.set_cons_zero, List.set_cons_succ]
        refine wpAnyL_ready (rs := [4]) (by kernel_rfl) (by simp) ?_
        refine AllReadyL.cons rfl (fun K hK => ?_) AllReadyL.nil
        go_simp
        replace hS := hid (hS.out.newBlk #[.pointer (some ⟨b9, 0, none⟩), .int .i64 (q : Int)] 88)
        generalize wa.heap.size = bA at *
        generalize wa.alloc (.cells #[.pointer (some ⟨b9, 0, none⟩), .int .i64 (q : Int)] 88) = wb at *
        refine hK.out _ _ (HeldL.cons (fun _ => hcL.out _ hS.out.m3) HeldL.nil) (fun hHeld' => ?_)
        clear hK K hHeld; have hHeld := hHeld'; clear hHeld'
        try simp only [Act.put, List.getElem_toArray, List.getElem_cons_succ, List.getElem_cons_zero, List.setIfInBounds_toArray, List.set_cons_zero, List.set_cons_succ]
        refine wpAnyL_ready (rs := [6]) (by kernel_rfl) (by simp) ?_
        refine AllReadyL.cons rfl (fun K hK => ?_) AllReadyL.nil
        go_simp
        (with_reducible refine (hrf.out _ _ hS.out.k0).mono ?_)
        rintro e w4 ⟨rfl, h4⟩
        replace hS := hid (hS.out.callBlk h4 (Nat.le_refl _))
        clear h4
        generalize wb.heap.size = bB at *
        go_simp
        refine hK.out _ _ (HeldL.cons (fun _ => hcL.out _ hS.out.m4) HeldL.nil) (fun hHeld' => ?_)
        clear hK K hHeld; have hHeld := hHeld'; clear hHeld'
        try simp only [Act.put, List.getElem_toArray, List.getElem_cons_succ, List.getElem_cons_zero, List.setIfInBounds_toArray, List.set_cons_zero, List.set_cons_succ]
        refine wpAnyL_ready (rs := [7]) (by kernel_rfl) (by simp) ?_
        refine AllReadyL.cons rfl (fun K hK => ?_) AllReadyL.nil
        go_simp
        (with_reducible refine (hpo2.out _ _ hS.out.k0 hS.out.m2).mono ?_)
        rintro e w5 ⟨rfl, h5⟩
        replace hS := hid (hS.out.call h5)
        clear h5
        rw [hans.out]
        go_simp
        refine hK.out _ _ (HeldL.cons (fun h => absurd h (by decide +kernel)) HeldL.nil) (fun hHeld' => ?_)
        clear hK K hHeld; have hHeld := hHeld'; clear hHeld'
        try simp only [Act.put, List.getElem_toArray, List.getElem_cons_succ, List.getElem_cons_zero, List.setIfInBounds_toArray, List.set_cons_zero, List.set_cons_succ]
        refine wpAnyL_take0 (i := 8) (v := ?_) rfl (by kernel_rfl) (by kernel_rfl) (by kernel_rfl) (by rfl) (fun _ _ _ h => h) (Or.inl ⟨by rfl, ?_⟩) (by assumption) ?_
        rotate_left
        · (intro W _; go_simp; (with_reducible rfl))
        intro hHeld'
        clear hHeld; have hHeld := hHeld'; clear hHeld'
        try simp only [Act.put, List.getElem_toArray, List.getElem_cons_succ, List.getElem_cons_zero, List.setIfInBounds_toArray, List.set_cons_zero, List.set_cons_succ]
        refine wpAnyL_take0 (i := 9) (v := ?_) rfl (by kernel_rfl) (by kernel_rfl) (by kernel_rfl) (by rfl) (fun _ _ _ h => h) (Or.inl ⟨by rfl, ?_⟩) (by assumption) ?_
        rotate_left
        · (intro W _; go_simp; (with_reducible rfl))
        intro hHeld'
        clear hHeld; have hHeld := hHeld'; clear hHeld'
        try simp only [Act.put, List.getElem_toArray, List.getElem_cons_succ, List.getElem_cons_zero, List.setIfInBounds_toArray, List.set_cons_zero, List.set_cons_succ]
        refine wpAnyL_ready (rs := [10]) (by kernel_rfl) (by simp) ?_
        refine AllReadyL.cons rfl (fun K hK => ?_) AllReadyL.nil
        refine step_store_mach rfl _ _ rfl _ rfl ans.1 rfl _ _ hS.out.m3 ?_
        intro W9 p2 ho hbl
        have pB := hid (hbl _ _ (Nat.le_succ _) hS.out.bel)
        replace p2 := hid p2
        clear ho hbl
        refine hK.out _ _ (HeldL.cons (fun h => absurd h (by decide +kernel)) HeldL.nil) (fun hHeld' => ?_)
        clear hK K hHeld; have hHeld := hHeld'; clear hHeld'
        try simp only [Act.put, List.getElem_toArray, List.getElem_cons_succ, List.getElem_cons_zero, List.setIfInBounds_toArray, List.set_cons_zero, List.set_cons_succ]
        refine wpAnyL_take0 (i := 11) (v := ?_) rfl (by kernel_rfl) (by kernel_rfl) (by kernel_rfl) (by rfl) (fun _ _ _ h => h) (Or.inl ⟨by rfl, ?_⟩) (by assumption) ?_
        rotate_left
        · (intro W _; go_simp; (with_reducible rfl))
        intro hHeld'
        clear hHeld; have hHeld := hHeld'; clear hHeld'
        try simp only [Act.put, List.getElem_toArray, List.getElem_cons_succ, List.getElem_cons_zero, List.setIfInBounds_toArray, List.set_cons_zero, List.set_cons_succ]
        refine wpAnyL_done (by kernel_rfl) ?_ _
        go_wp2
        exact ret_mach_i rfl rfl rfl p2.out rfl ⟨rfl, pB.out⟩
    · rw [powAns_r h hn]
      have hw := hid (show false = decide (-16 ≤ n ∧ n ≤ 16) from (decide_eq_false hn).symm)
      rw [h] at hcode
      replace hkm := hid hkm; clear h hn; replace g := hid g
      generalize hzs : mcells ⟨0, 0, fun _ => 0, fun _ => 0⟩ = zs at *
      replace hzs := hid hzs
      go_enter Try.func30, Try.ntmps30
      go_wp2_with (first
        | ((with_reducible refine gate (N := 10) rfl ?_); refine load_mach rfl _ rfl w.heap.size rfl m hS.out.m1 ?_)
        | (go_at_call 61; (with_reducible refine (hcode.out _ _ _ hown.out.o0).mono ?_); rintro e w1 ⟨rfl, hb⟩; replace hS := hid (hown.out.call hb).drop; clear hcode hown; clear hb)
        | (go_at_call 62; (with_reducible refine (within_any _ _ _ false hw.out _).mono ?_); rintro e w' ⟨rfl, rfl⟩)
        | ((with_reducible refine gate (N := 21) rfl ?_); refine build_zero rfl rfl ?_)
        | ((with_reducible refine gateOp (op := .store 34 (.tmp 6) (.tmp 21)) rfl ?_); refine store_mach rfl _ _ rfl (w.heap.size + 1) rfl ⟨0, 0, fun _ => 0, fun _ => 0⟩ rfl 34 _ hS.out.m0 ?_; intro W3 p2 ho hsz hbl; have pB := hid (hbl _ _ (Nat.le_succ _) hS.out.bel); replace p2 := hid p2; clear ho hsz hbl))
      exact ret_mach_i rfl rfl rfl p2.out rfl ⟨by rw [hzs.out], pB.out⟩
end Go.Proofs.Ythempofohidlnaa

/- Machines of states do not hang on the table: states that do the same have the same machine. -/
namespace Go.Proofs.Ythempofohidlnaa
set_option linter.unusedVariables false
set_option linter.unusedSimpArgs false

/-- A relation between the states of two tables that goes on. -/
structure Bis (T U : Tab) (R : Nat → Nat → Prop) : Prop where
  L : T.L = U.L
  l : ∀ {a b}, R a b → a < T.n
  r : ∀ {a b}, R a b → b < U.n
  ot : ∀ {a b}, R a b → ∀ x, x < T.L → T.ot a x = U.ot b x
  nx : ∀ {a b}, R a b → ∀ x, x < T.L → R (T.nx a x) (U.nx b x)
/-- Two states that do the same. -/
def Sim (T : Tab) (p : Nat) (U : Tab) (q : Nat) : Prop := ∃ R, Bis T U R ∧ R p q

section
variable {T U V : Tab} {R : Nat → Nat → Prop}
theorem Sim.refl (hT : T.Ok) {q : Nat} (hq : q < T.n) : Sim T q T q :=
  ⟨fun a b => a = b ∧ a < T.n, ⟨rfl, fun h => h.2, fun h => h.1 ▸ h.2, fun h x _ => by rw [h.1], fun h x hx => ⟨by rw [h.1], hT.nx _ x h.2 hx⟩⟩, rfl, hq⟩
theorem Sim.symm {p q : Nat} (h : Sim T p U q) : Sim U q T p := by
  obtain ⟨R, h, hr⟩ := h
  exact ⟨fun a b => R b a, ⟨h.L.symm, fun k => h.r k, fun k => h.l k, fun k x hx => (h.ot k x (by rw [h.L]; exact hx)).symm, fun k x hx => h.nx k x (by rw [h.L]; exact hx)⟩, hr⟩
theorem Sim.trans {p q r : Nat} (h : Sim T p U q) (k : Sim U q V r) : Sim T p V r := by
  obtain ⟨R, h, hr⟩ := h
  obtain ⟨S, k, ks⟩ := k
  refine ⟨fun a c => ∃ b, R a b ∧ S b c, ⟨h.L.trans k.L, fun ⟨_, h1, _⟩ => h.l h1, fun ⟨_, _, h2⟩ => k.r h2, fun ⟨b, h1, h2⟩ x hx => ?_, fun ⟨b, h1, h2⟩ x hx => ?_⟩, q, hr, ks⟩
  · exact (h.ot h1 x hx).trans (k.ot h2 x (by rw [← h.L]; exact hx))
  · exact ⟨_, h.nx h1 x hx, k.nx h2 x (by rw [← h.L]; exact hx)⟩

theorem Bis.cls (h : Bis T U R) : ∀ k a b a' b', R a b → R a' b' → (cls T k a = cls T k a' ↔ cls U k b = cls U k b')
  | 0, _, _, _, _, _, _ => ⟨fun _ => rfl, fun _ => rfl⟩
  | k + 1, a, b, a', b', h1, h2 => by
    rw [cls_iff, cls_iff, like_iff, like_iff, Bis.cls h k _ _ _ _ h1 h2]
    constructor
    · rintro ⟨e1, e2, e3⟩
      refine ⟨e1, fun x hx => ?_, fun x hx => ?_⟩
      · have hx' : x < T.L := by rw [h.L]; exact hx
        rw [← h.ot h1 x hx', ← h.ot h2 x hx']; exact e2 x hx'
      · have hx' : x < T.L := by rw [h.L]; exact hx
        exact (Bis.cls h k _ _ _ _ (h.nx h1 x hx') (h.nx h2 x hx')).1 (e3 x hx')
    · rintro ⟨e1, e2, e3⟩
      refine ⟨e1, fun x hx => ?_, fun x hx => ?_⟩
      · rw [h.ot h1 x hx, h.ot h2 x hx]; exact e2 x (by rw [← h.L]; exact hx)
      · exact (Bis.cls h k _ _ _ _ (h.nx h1 x hx) (h.nx h2 x hx)).2 (e3 x (by rw [← h.L]; exact hx))

theorem stable_ex (hT : T.Ok) : ∃ k, k ≤ T.n ∧ Stable T k := by
  apply Classical.byContradiction
  intro hn
  have key : ∀ j, j ≤ T.n → j + 1 ≤ cnt1 T (j + 1) T.n := by
    intro j
    induction j with
    | zero => intro _; exact cnt1_pos T 0 T.n hT.pos
    | succ j ih =>
      intro hj
      have h1 := ih (by omega)
      have h2 := stable_or T j (fun hs => hn ⟨j + 1, hj, hs⟩)
      show j + 1 + 1 ≤ cnt1 T (j + 2) T.n
      omega
  have h1 := key T.n (Nat.le_refl _)
  have h2 := cnt1_le T (T.n + 1) T.n
  omega
theorem fix_big (hT : T.Ok) (d q : Nat) (hq : q < T.n) : Go.Proofs.Ythempofohidlnaa.cls T (T.n + d) q = fix T q := by
  obtain ⟨k, hk, hs⟩ := stable_ex hT
  have h1 := stable_all hT hs (T.n + d - k) q hq
  rw [show k + (T.n + d - k) = T.n + d by omega] at h1
  rw [h1, fix_of hT hk hs q hq]
theorem fix_fix (T : Tab) (q : Nat) : fix T (fix T q) = fix T q := cls_cls T T.n q
theorem fix_ot (T : Tab) (q x : Nat) (hx : x < T.L) : T.ot (fix T q) x = T.ot q x := ((like_iff _ _ _ _).1 (cls_like T T.n q)).2.1 x hx
theorem fix_nx (hT : T.Ok) {q x : Nat} (hq : q < T.n) (hx : x < T.L) : fix T (T.nx (fix T q) x) = fix T (T.nx q x) := by
  have hf := fix_lt (T := T) q hq
  have h : Go.Proofs.Ythempofohidlnaa.cls T (T.n + 1 + 1) (fix T q) = Go.Proofs.Ythempofohidlnaa.cls T (T.n + 1 + 1) q := by
    have h1 := fix_big hT 2 _ hf
    have h2 := fix_big hT 2 _ hq
    rw [show T.n + 2 = T.n + 1 + 1 by omega] at h1 h2
    rw [h1, h2, fix_fix]
  exact ((like_iff _ _ _ _).1 ((cls_iff T (T.n + 1) _ _).1 h)).2.2 x hx
theorem Bis.fix (h : Bis T U R) (hT : T.Ok) (hU : U.Ok) {a b a' b' : Nat} (h1 : R a b) (h2 : R a' b') : fix T a = fix T a' ↔ fix U b = fix U b' := by
  rw [← fix_big hT U.n a (h.l h1), ← fix_big hT U.n a' (h.l h2), ← fix_big hU T.n b (h.r h1), ← fix_big hU T.n b' (h.r h2), Nat.add_comm U.n T.n]
  exact h.cls _ _ _ _ _ h1 h2

/-- Classes of states that do the same. -/
def Rc (T U : Tab) (R : Nat → Nat → Prop) (c d : Nat) : Prop := ∃ a b, R a b ∧ c = Go.Proofs.Ythempofohidlnaa.fix T a ∧ d = Go.Proofs.Ythempofohidlnaa.fix U b
theorem Rc.of {a b : Nat} (h : R a b) : Rc T U R (Go.Proofs.Ythempofohidlnaa.fix T a) (Go.Proofs.Ythempofohidlnaa.fix U b) := ⟨a, b, h, rfl, rfl⟩
theorem Rc.inj (h : Bis T U R) (hT : T.Ok) (hU : U.Ok) {c d c' d' : Nat} (h1 : Rc T U R c d) (h2 : Rc T U R c' d') : c = c' ↔ d = d' := by
  obtain ⟨a, b, hr, rfl, rfl⟩ := h1
  obtain ⟨a', b', hr', rfl, rfl⟩ := h2
  exact h.fix hT hU hr hr'
theorem Rc.nx (h : Bis T U R) (hT : T.Ok) (hU : U.Ok) {c d x : Nat} (h1 : Rc T U R c d) (hx : x < T.L) : Rc T U R (Go.Proofs.Ythempofohidlnaa.fix T (T.nx c x)) (Go.Proofs.Ythempofohidlnaa.fix U (U.nx d x)) := by
  obtain ⟨a, b, hr, rfl, rfl⟩ := h1
  rw [fix_nx hT (h.l hr) hx, fix_nx hU (h.r hr) (by rw [← h.L]; exact hx)]
  exact Rc.of (h.nx hr x hx)
theorem Rc.ot (h : Bis T U R) {c d x : Nat} (h1 : Rc T U R c d) (hx : x < T.L) : T.ot c x = U.ot d x := by
  obtain ⟨a, b, hr, rfl, rfl⟩ := h1
  rw [fix_ot T a x hx, fix_ot U b x (by rw [← h.L]; exact hx)]
  exact h.ot hr x hx

/-- Lists in step. -/
inductive Par (S : Nat → Nat → Prop) : List Nat → List Nat → Prop
  | nil : Par S [] []
  | cons {a b : Nat} {l m : List Nat} : S a b → Par S l m → Par S (a :: l) (b :: m)
section
variable {S : Nat → Nat → Prop} {l m : List Nat}
theorem Par.length (h : Par S l m) : l.length = m.length := by
  induction h with
  | nil => rfl
  | cons _ _ ih => simp [ih]
theorem Par.snoc {a b : Nat} (h : Par S l m) (hs : S a b) : Par S (l ++ [a]) (m ++ [b]) := by
  induction h with
  | nil => exact .cons hs .nil
  | cons h1 _ ih => exact .cons h1 ih
theorem Par.get (h : Par S l m) : ∀ {i a b : Nat}, l[i]? = some a → m[i]? = some b → S a b := by
  induction h with
  | nil => intro i a b h1; simp at h1
  | cons hs _ ih =>
    intro i a b h1 h2
    cases i with
    | zero => simp at h1 h2; subst h1; subst h2; exact hs
    | succ i => simp at h1 h2; exact ih h1 h2
theorem Par.mem (h : Par S l m) (hi : ∀ {c d c' d'}, S c d → S c' d' → (c = c' ↔ d = d')) {c d : Nat} (hs : S c d) : c ∈ l ↔ d ∈ m := by
  induction h with
  | nil => simp
  | cons h1 _ ih => rw [List.mem_cons, List.mem_cons, ih, hi hs h1]
theorem Par.idxOf (h : Par S l m) (hi : ∀ {c d c' d'}, S c d → S c' d' → (c = c' ↔ d = d')) {c d : Nat} (hs : S c d) : l.idxOf c = m.idxOf d := by
  induction h with
  | nil => rfl
  | @cons a b l m h1 _ ih =>
    rw [List.idxOf_cons, List.idxOf_cons, ih]
    have := hi h1 hs
    by_cases e : a = c
    · have e2 := this.1 e
      subst e; subst e2; simp
    · have e2 : ¬ b = d := fun k => e (this.2 k)
      have f1 : (a == c) = false := by simpa using e
      have f2 : (b == d) = false := by simpa using e2
      rw [f1, f2]
end
theorem par_meet (h : Bis T U R) (hT : T.Ok) (hU : U.Ok) {l m : List Nat} {c d : Nat} (hp : Par (Rc T U R) l m) (hs : Rc T U R c d) : Par (Rc T U R) (meet l c) (meet m d) := by
  have hm := hp.mem (fun h1 h2 => Rc.inj h hT hU h1 h2) hs
  unfold meet
  by_cases e : c ∈ l
  · rw [if_pos e, if_pos (hm.1 e)]; exact hp
  · rw [if_neg e, if_neg (fun k => e (hm.2 k))]; exact hp.snoc hs
theorem par_meets (h : Bis T U R) (hT : T.Ok) (hU : U.Ok) {l m : List Nat} {s t : Nat} (hp : Par (Rc T U R) l m) (hs : Rc T U R s t) : ∀ x, x ≤ T.L → Par (Rc T U R) (meets T (Go.Proofs.Ythempofohidlnaa.fix T) s l x) (meets U (Go.Proofs.Ythempofohidlnaa.fix U) t m x)
  | 0, _ => hp
  | x + 1, hx => par_meet h hT hU (par_meets h hT hU hp hs x (by omega)) (hs.nx h hT hU (by omega))
theorem par_bfs (h : Bis T U R) (hT : T.Ok) (hU : U.Ok) {p q : Nat} (hr : R p q) : ∀ i, Par (Rc T U R) (bfs T (Go.Proofs.Ythempofohidlnaa.fix T) p i) (bfs U (Go.Proofs.Ythempofohidlnaa.fix U) q i)
  | 0 => .cons (Rc.of hr) .nil
  | i + 1 => by
    have ih := par_bfs h hT hU hr i
    have hl := ih.length
    unfold bfs
    rcases Nat.lt_or_ge i (bfs T (Go.Proofs.Ythempofohidlnaa.fix T) p i).length with hi | hi
    · rw [List.getElem?_eq_getElem hi, List.getElem?_eq_getElem (show i < (bfs U (Go.Proofs.Ythempofohidlnaa.fix U) q i).length by omega)]
      dsimp only
      have hs := ih.get (List.getElem?_eq_getElem hi) (List.getElem?_eq_getElem (show i < (bfs U (Go.Proofs.Ythempofohidlnaa.fix U) q i).length by omega))
      have := par_meets h hT hU ih hs T.L (Nat.le_refl _)
      rw [h.L] at this ⊢
      exact this
    · rw [List.getElem?_eq_none hi, List.getElem?_eq_none (show (bfs U (Go.Proofs.Ythempofohidlnaa.fix U) q i).length ≤ i by omega)]
      exact ih
theorem fin_big (hT : T.Ok) {q : Nat} (hq : q < T.n) (d : Nat) : bfs T (Go.Proofs.Ythempofohidlnaa.fix T) q (T.n + d) = fin T (Go.Proofs.Ythempofohidlnaa.fix T) q :=
  bfs_stay T _ (bfs_uniq hT (fun r hr => fix_lt r hr) q hq T.n).len d
theorem par_fin (h : Bis T U R) (hT : T.Ok) (hU : U.Ok) {p q : Nat} (hr : R p q) : Par (Rc T U R) (fin T (Go.Proofs.Ythempofohidlnaa.fix T) p) (fin U (Go.Proofs.Ythempofohidlnaa.fix U) q) := by
  rw [← fin_big hT (h.l hr) U.n, ← fin_big hU (h.r hr) T.n, Nat.add_comm U.n T.n]
  exact par_bfs h hT hU hr _
theorem gth_eq (h : Bis T U R) (hT : T.Ok) (hU : U.Ok) {l m : List Nat} (hp : Par (Rc T U R) l m) : gth T (Go.Proofs.Ythempofohidlnaa.fix T) l = gth U (Go.Proofs.Ythempofohidlnaa.fix U) m := by
  have hl := hp.length
  have key : ∀ p, (p / 3 < l.length ∨ p / 3 = l.length ∧ p % 3 < 0) ∧ p % 3 < U.L → Rc T U R (l.getD (p / 3) 0) (m.getD (p / 3) 0) := fun p hp' => by
    have h1 : p / 3 < l.length := by omega
    have h2 : p / 3 < m.length := by omega
    rw [List.getD_eq_getElem?_getD, List.getD_eq_getElem?_getD, List.getElem?_eq_getElem h1, List.getElem?_eq_getElem h2]
    exact hp.get (List.getElem?_eq_getElem h1) (List.getElem?_eq_getElem h2)
  unfold gth gthP
  rw [← hl, h.L]
  congr 1
  · funext p
    by_cases e : (p / 3 < l.length ∨ p / 3 = l.length ∧ p % 3 < 0) ∧ p % 3 < U.L
    · rw [if_pos e, if_pos e]
      exact hp.idxOf (fun h1 h2 => Rc.inj h hT hU h1 h2) ((key p e).nx h hT hU (by rw [h.L]; exact e.2))
    · rw [if_neg e, if_neg e]
  · funext p
    by_cases e : (p / 3 < l.length ∨ p / 3 = l.length ∧ p % 3 < 0) ∧ p % 3 < U.L
    · rw [if_pos e, if_pos e]
      exact (key p e).ot h (by rw [h.L]; exact e.2)
    · rw [if_neg e, if_neg e]
/-- States that do the same have the same machine. -/
theorem Sim.canon {p q : Nat} (h : Sim T p U q) (hT : T.Ok) (hU : U.Ok) : fromM T p = fromM U q ∧ fromC T p = fromC U q := by
  obtain ⟨R, h, hr⟩ := h
  have hp := par_fin h hT hU hr
  have hl := hp.length
  unfold fromM fromC
  rw [hl, gth_eq h hT hU hp]
  exact ⟨rfl, rfl⟩
theorem fromC_eq (T : Tab) (q : Nat) : fromC T q = 0 ↔ (fin T (Go.Proofs.Ythempofohidlnaa.fix T) q).length ≤ 16 := by
  unfold fromC
  by_cases h : (fin T (Go.Proofs.Ythempofohidlnaa.fix T) q).length ≤ 16
  · rw [if_pos h]; exact ⟨fun _ => h, fun _ => rfl⟩
  · rw [if_neg h]; exact ⟨fun k => absurd k (by decide), fun k => absurd k h⟩
theorem fin_zero (T : Tab) (q : Nat) : (fin T (Go.Proofs.Ythempofohidlnaa.fix T) q)[0]? = some (Go.Proofs.Ythempofohidlnaa.fix T q) := by
  obtain ⟨r, hr⟩ := bfs_pre T (Go.Proofs.Ythempofohidlnaa.fix T) q 0 T.n
  rw [Nat.zero_add] at hr
  unfold fin
  rw [hr]; simp [bfs]
/-- A table's few states are no limit. -/
theorem fromC_few (hT : T.Ok) {q : Nat} (hq : q < T.n) (hn : T.n ≤ 16) : fromC T q = 0 := by
  rw [fromC_eq]
  exact Nat.le_trans (bfs_uniq hT (fun r hr => fix_lt r hr) q hq T.n).len hn
/-- The machine of a state does what the state does. -/
theorem Sim.of_from (hT : T.Ok) {q : Nat} (hq : q < T.n) (h3 : T.L ≤ 3) (hc : fromC T q = 0) {s : Nat} (hs : (fromM T q).S = s) : Sim (tabOf (fromM T q) T.L s) 0 T q := by
  have h16 := (fromC_eq T q).1 hc
  have hM : fromM T q = gth T (Go.Proofs.Ythempofohidlnaa.fix T) (fin T (Go.Proofs.Ythempofohidlnaa.fix T) q) := by unfold fromM; rw [if_pos h16]
  rw [hM] at hs ⊢
  have hcl := fin_closed hT (c := Go.Proofs.Ythempofohidlnaa.fix T) (fun r hr => fix_lt r hr) hq
  have hf0 := fin_zero T q
  generalize fin T (Go.Proofs.Ythempofohidlnaa.fix T) q = st at *
  have hs' : s = st.length := by
    have : ((st.length : Nat) : Int) = s := hs
    omega
  subst hs'
  have lt : ∀ {i c : Nat}, st[i]? = some c → i < st.length := fun h => (List.getElem?_eq_some_iff.1 h).1
  refine ⟨fun i a => st[i]? = some (Go.Proofs.Ythempofohidlnaa.fix T a) ∧ a < T.n, ⟨rfl, fun h => lt h.1, fun h => h.2, fun {i a} h x hx => ?_, fun {i a} h x hx => ⟨?_, hT.nx _ x h.2 hx⟩⟩, hf0, hq⟩
  · have hi := lt h.1
    have hx' : x < T.L := hx
    show (gth T (Go.Proofs.Ythempofohidlnaa.fix T) st).ot (i * 3 + x) = _
    unfold gth gthP
    dsimp only
    rw [if_pos (by omega), show (i * 3 + x) / 3 = i by omega, show (i * 3 + x) % 3 = x by omega, List.getD_eq_getElem?_getD, h.1]
    exact fix_ot T a x hx'
  · have hi := lt h.1
    have hx' : x < T.L := hx
    show st[(gth T (Go.Proofs.Ythempofohidlnaa.fix T) st).nx (i * 3 + x)]? = _
    have e : (gth T (Go.Proofs.Ythempofohidlnaa.fix T) st).nx (i * 3 + x) = st.idxOf (Go.Proofs.Ythempofohidlnaa.fix T (T.nx a x)) := by
      unfold gth gthP
      dsimp only
      rw [if_pos (by omega), show (i * 3 + x) / 3 = i by omega, show (i * 3 + x) % 3 = x by omega, List.getD_eq_getElem?_getD, h.1]
      show st.idxOf (Go.Proofs.Ythempofohidlnaa.fix T (T.nx (Go.Proofs.Ythempofohidlnaa.fix T a) x)) = _
      rw [fix_nx hT h.2 hx']
    have hmem : Go.Proofs.Ythempofohidlnaa.fix T (T.nx a x) ∈ st := by
      have := hcl _ (List.mem_of_getElem? h.1) x hx'
      rwa [fix_nx hT h.2 hx'] at this
    rw [e]
    have hlt := List.idxOf_lt_length_of_mem hmem
    rw [List.getElem?_eq_getElem hlt, List.getElem_idxOf hlt]
end

section
variable {m m' k k' : Mach} {l s s' t t' : Nat}
theorem Sim.prod {a a' b b' : Nat} (g : Good m l s) (h : Sim (tabOf m l s) a (tabOf m' l s') a') (h' : Sim (tabOf k l t) b (tabOf k' l t') b') :
    Sim (prodT m k l s t) (a * t + b) (prodT m' k' l s' t') (a' * t' + b') := by
  obtain ⟨R, h, hr⟩ := h
  obtain ⟨S, h', hs⟩ := h'
  refine ⟨fun P P' => ∃ a b a' b', R a a' ∧ S b b' ∧ P = a * t + b ∧ P' = a' * t' + b', ⟨rfl, ?_, ?_, ?_, ?_⟩, a, b, a', b', hr, hs, rfl, rfl⟩
  · rintro P P' ⟨a, b, a', b', h1, h2, rfl, rfl⟩
    exact prod_in (h.l h1) (h'.l h2)
  · rintro P P' ⟨a, b, a', b', h1, h2, rfl, rfl⟩
    exact prod_in (h.r h1) (h'.r h2)
  · rintro P P' ⟨a, b, a', b', h1, h2, rfl, rfl⟩ x hx
    have hx' : x < l := hx
    have hb : b < t := h'.l h2
    have hb' : b' < t' := h'.r h2
    rw [prod_ot m k l s x hb rfl, prod_ot m' k' l s' x hb' rfl]
    have e : m.ot (a * 3 + x) = m'.ot (a' * 3 + x) := h.ot h1 x hx'
    rw [← e]
    exact h'.ot h2 _ (g.ot a x (h.l h1) hx')
  · rintro P P' ⟨a, b, a', b', h1, h2, rfl, rfl⟩ x hx
    have hx' : x < l := hx
    have hb : b < t := h'.l h2
    have hb' : b' < t' := h'.r h2
    rw [prod_nx m k l s x hb rfl, prod_nx m' k' l s' x hb' rfl]
    have e : m.ot (a * 3 + x) = m'.ot (a' * 3 + x) := h.ot h1 x hx'
    rw [← e]
    exact ⟨_, _, _, _, h.nx h1 x hx', h'.nx h2 _ (g.ot a x (h.l h1) hx'), rfl, rfl⟩
/-- Behind a trivial state comes the other one alone. -/
theorem Sim.triv {q : Nat} (g : Good k l t) (hq : q < t) : Sim (prodT (trivM l) k l 1 t) (0 * t + q) (tabOf k l t) q := by
  refine ⟨fun P b => P = 0 * t + b ∧ b < t, ⟨rfl, ?_, fun h => h.2, ?_, ?_⟩, rfl, hq⟩
  · rintro P b ⟨rfl, hb⟩
    exact prod_in (by omega) hb
  · rintro P b ⟨rfl, hb⟩ x hx
    have hx' : x < l := hx
    rw [prod_ot (trivM l) k l 1 x hb rfl]
    show k.ot (b * 3 + (if 0 * 3 + x < l then 0 * 3 + x else 0)) = k.ot (b * 3 + x)
    rw [if_pos (by omega), show 0 * 3 + x = x by omega]
  · rintro P b ⟨rfl, hb⟩ x hx
    have hx' : x < l := hx
    rw [prod_nx (trivM l) k l 1 x hb rfl]
    refine ⟨?_, g.nx b x hb hx'⟩
    show 0 * t + k.nx (b * 3 + (if 0 * 3 + x < l then 0 * 3 + x else 0)) = 0 * t + k.nx (b * 3 + x)
    rw [if_pos (by omega), show 0 * 3 + x = x by omega]
end
end Go.Proofs.Ythempofohidlnaa

/- CommutatorOfStates: what the program and the reference answer. -/
namespace Go.Proofs.Ythempofohidlnaa
open Go.RowKit
set_option linter.unusedVariables false
set_option linter.unusedSimpArgs false
-- @LONG

/-- The four states of a commutator. -/
def comF (m : Mach) (l s q r : Nat) (i : Nat) : Mach × Nat × Nat := if i = 0 then (inv m l s, s, q) else if i = 1 then (inv m l s, s, r) else if i = 2 then (m, s, q) else (m, s, r)
open Classical in
noncomputable def comAns (m : Mach) (q r : Int) : Mach × Int :=
  if codeI m { data := #[] } [q, r] = 0 then chn (comF m m.L.toNat m.S.toNat q.toNat r.toNat) m.L.toNat 4 0 (trivM m.L.toNat) else (⟨0, 0, fun _ => 0, fun _ => 0⟩, codeI m { data := #[] } [q, r])
theorem comAns_n {m : Mach} {q r c : Int} (h : codeI m { data := #[] } [q, r] = c) (hc : c ≠ 0) : comAns m q r = (⟨0, 0, fun _ => 0, fun _ => 0⟩, c) := by
  unfold comAns; rw [h, if_neg hc]
theorem comAns_0 {m : Mach} {l s q r : Nat} (g : Good m l s) (h : codeI m { data := #[] } [(q : Int), (r : Int)] = 0) : comAns m q r = chn (comF m l s q r) l 4 0 (trivM l) := by
  unfold comAns; rw [if_pos h, g.L, g.S]; rfl
theorem codeI2_cases (m : Mach) (q r : Int) : (codeI m { data := #[] } [q] = 1 ∧ codeI m { data := #[] } [q, r] = 1) ∨ (codeI m { data := #[] } [q] = 2 ∧ codeI m { data := #[] } [q, r] = 2)
    ∨ (∃ l s, Good m l s ∧ ¬ (0 ≤ r ∧ r < (s : Int)) ∧ codeI m { data := #[] } [q] = 0 ∧ codeI m { data := #[] } [q, r] = 2)
    ∨ ∃ (l s q' r' : Nat), Good m l s ∧ q = q' ∧ r = r' ∧ q' < s ∧ r' < s ∧ codeI m { data := #[] } [q] = 0 ∧ codeI m { data := #[] } [q, r] = 0 := by
  rcases codeI_cases m q with h | h | ⟨l, s, q', g, rfl, hq, h⟩
  · refine .inl ⟨h, ?_⟩
    by_cases hm : IsM m
    · obtain ⟨l, s, g⟩ := hm.good
      exfalso
      by_cases hq : 0 ≤ q ∧ q < (s : Int)
      · rw [codeI_one g hq] at h; cases h
      · rw [codeI_bad g hq] at h; cases h
    · exact codeI_1 hm
  · refine .inr (.inl ⟨h, ?_⟩)
    by_cases hm : IsM m
    · obtain ⟨l, s, g⟩ := hm.good
      by_cases hq : 0 ≤ q ∧ q < (s : Int)
      · rw [codeI_one g hq] at h; cases h
      · exact codeI_2 g (isWd_nil _) (fun k => hq (k q (by simp)))
    · rw [codeI_1 hm] at h; cases h
  · by_cases hr : 0 ≤ r ∧ r < (s : Int)
    · obtain ⟨r', rfl⟩ := Int.eq_ofNat_of_zero_le hr.1
      exact .inr (.inr (.inr ⟨l, s, q', r', g, rfl, rfl, hq, by omega, h, codeI_0 g (isWd_nil _) (by intro x hx; simp at hx; rcases hx with rfl | rfl <;> omega)⟩))
    · exact .inr (.inr (.inl ⟨l, s, g, hr, h, codeI_2 g (isWd_nil _) (fun k => hr (k r (by simp)))⟩))

/-- What the reference makes: the first product at once. -/
def comS (m : Mach) (l s q r : Nat) : Mach × Int :=
  if fromC (prodT (inv m l s) (inv m l s) l s s) (q * s + r) = 0 then chn (comF m l s q r) l 2 2 (fromM (prodT (inv m l s) (inv m l s) l s s) (q * s + r)) else (⟨0, 0, fun _ => 0, fun _ => 0⟩, 3)
theorem com_eq {m : Mach} {l s q r : Nat} (g : Good m l s) (hq : q < s) (hr : r < s) : chn (comF m l s q r) l 4 0 (trivM l) = comS m l s q r := by
  have gB := inv_good g
  have gT := trivM_good l g.l2 g.l3
  have hin := prod_in (s' := s) (show 0 < 1 from Nat.one_pos) hq
  obtain ⟨hM, hC⟩ := next_M (inv m l s) l s q (trivM l) 1 gT
  have hs := Sim.triv gB hq
  have hT : (prodT (trivM l) (inv m l s) l 1 s).Ok := prod_ok gT gB
  have hc1 := hs.canon hT (tabOf_ok gB)
  have h0 : fromC (prodT (trivM l) (inv m l s) l 1 s) (0 * s + q) = 0 := by
    rw [hc1.2]; exact fromC_few (tabOf_ok gB) hq gB.s16
  rw [chn_0 (show nextC (comF m l s q r 0).1 l (comF m l s q r 0).2.1 (comF m l s q r 0).2.2 (trivM l) = 0 from hC ▸ h0)]
  show chn (comF m l s q r) l 3 1 (nextM (inv m l s) l s q (trivM l)) = _
  obtain ⟨s2, g2⟩ := fromM_good hT hin g.l2 g.l3 (prod_o gT gB) (prod_inj gT gB) h0
  have hsim := (Sim.of_from hT hin g.l3 h0 g2.S).trans hs
  rw [← hM]
  generalize fromM (prodT (trivM l) (inv m l s) l 1 s) (0 * s + q) = A at *
  have g2' : Good A l s2 := g2
  have hsim' : Sim (tabOf A l s2) 0 (tabOf (inv m l s) l s) q := hsim
  have hs2 := Sim.prod g2' hsim' (Sim.refl (tabOf_ok gB) hr)
  have hc2 := hs2.canon (prod_ok g2' gB) (prod_ok gB gB)
  obtain ⟨hM2, hC2⟩ := next_M (inv m l s) l s r A s2 g2'
  unfold comS
  rw [← hc2.1, ← hc2.2, hM2, hC2]
  by_cases h : nextC (inv m l s) l s r A = 0
  · rw [if_pos h]
    exact chn_0 (show nextC (comF m l s q r 1).1 l (comF m l s q r 1).2.1 (comF m l s q r 1).2.2 A = 0 from h)
  · rw [if_neg h]
    unfold chn
    rw [if_neg (show ¬ nextC (comF m l s q r 1).1 l (comF m l s q r 1).2.1 (comF m l s q r 1).2.2 A = 0 from h)]
end Go.Proofs.Ythempofohidlnaa

/- CommutatorOfStates: the program's side. -/
namespace Go.Proofs.Ythempofohidlnaa
open Go.RowKit
set_option linter.unusedVariables false
set_option linter.unusedSimpArgs false
-- @LONG

set_option maxHeartbeats 4000000 in
set_option maxRecDepth 4000 in
theorem implCom_any (w : World) (m : Mach) (hkm : m.Ok) (q r : Int) :
    Calls Try.prog 27 #[.agg (mcells m), .int .i64 q, .int .i64 r] w fun e w' => e = .returned (.tuple #[.agg (mcells (comAns m q r).1), .int .i64 (comAns m q r).2]) ∧ Below w.heap.size w w' := by
  have hz := zero_mach
  have hS := hid (((St.start w).newMB m 34).newMB ⟨0, 0, fun _ => 0, fun _ => 0⟩ 34)
  rw [heap_alloc_size] at hS
  have hcode := hid (fun W base v h => codeOf_any W m hkm { data := #[] } (by decide) base v [q, r] h (by simp))
  have hown := hid (hS.out.newOwn [Value.int .i64 q, Value.int .i64 r] 2 (by simp))
  simp only [heap_alloc_size] at hown
  rcases codeI2_cases m q r with ⟨_, h⟩ | ⟨_, h⟩ | ⟨l, s, g, _, _, h⟩ | ⟨l, s, q, r, g, rfl, rfl, hq, hr, _, h⟩
  · rw [comAns_n h (by decide)]
    rw [h] at hcode
    clear h
    replace hkm := hid hkm
    generalize hzs : mcells ⟨0, 0, fun _ => 0, fun _ => 0⟩ = zs at *
    replace hzs := hid hzs
    go_enter Try.func27, Try.ntmps27
    go_wp2_with (first
      | ((with_reducible refine gate (N := 10) rfl ?_); refine load_mach rfl _ rfl w.heap.size rfl m hS.out.m1 ?_)
      | (go_at_call 61; (with_reducible refine (hcode.out _ _ _ hown.out.o0).mono ?_); rintro e w1 ⟨rfl, hb⟩; replace hS := hid (hown.out.call hb).drop; clear hcode hown; clear hb)
      | ((with_reducible refine gate (N := 17) rfl ?_); refine build_zero rfl rfl ?_)
      | ((with_reducible refine gateOp (op := .store 34 (.tmp 6) (.tmp 17)) rfl ?_); refine store_mach rfl _ _ rfl (w.heap.size + 1) rfl ⟨0, 0, fun _ => 0, fun _ => 0⟩ rfl 34 _ hS.out.m0 ?_; intro W3 p2 ho hsz hbl; have pB := hid (hbl _ _ (Nat.le_succ _) hS.out.bel); replace p2 := hid p2; clear ho hsz hbl))
    exact ret_mach_i rfl rfl rfl p2.out rfl ⟨by rw [hzs.out], pB.out⟩
  · rw [comAns_n h (by decide)]
    rw [h] at hcode
    clear h
    replace hkm := hid hkm
    generalize hzs : mcells ⟨0, 0, fun _ => 0, fun _ => 0⟩ = zs at *
    replace hzs := hid hzs
    go_enter Try.func27, Try.ntmps27
    go_wp2_with (first
      | ((with_reducible refine gate (N := 10) rfl ?_); refine load_mach rfl _ rfl w.heap.size rfl m hS.out.m1 ?_)
      | (go_at_call 61; (with_reducible refine (hcode.out _ _ _ hown.out.o0).mono ?_); rintro e w1 ⟨rfl, hb⟩; replace hS := hid (hown.out.call hb).drop; clear hcode hown; clear hb)
      | ((with_reducible refine gate (N := 17) rfl ?_); refine build_zero rfl rfl ?_)
      | ((with_reducible refine gateOp (op := .store 34 (.tmp 6) (.tmp 17)) rfl ?_); refine store_mach rfl _ _ rfl (w.heap.size + 1) rfl ⟨0, 0, fun _ => 0, fun _ => 0⟩ rfl 34 _ hS.out.m0 ?_; intro W3 p2 ho hsz hbl; have pB := hid (hbl _ _ (Nat.le_succ _) hS.out.bel); replace p2 := hid p2; clear ho hsz hbl))
    exact ret_mach_i rfl rfl rfl p2.out rfl ⟨by rw [hzs.out], pB.out⟩
  · rw [comAns_n h (by decide)]
    rw [h] at hcode
    clear h; replace g := hid g
    replace hkm := hid hkm
    generalize hzs : mcells ⟨0, 0, fun _ => 0, fun _ => 0⟩ = zs at *
    replace hzs := hid hzs
    go_enter Try.func27, Try.ntmps27
    go_wp2_with (first
      | ((with_reducible refine gate (N := 10) rfl ?_); refine load_mach rfl _ rfl w.heap.size rfl m hS.out.m1 ?_)
      | (go_at_call 61; (with_reducible refine (hcode.out _ _ _ hown.out.o0).mono ?_); rintro e w1 ⟨rfl, hb⟩; replace hS := hid (hown.out.call hb).drop; clear hcode hown; clear hb)
      | ((with_reducible refine gate (N := 17) rfl ?_); refine build_zero rfl rfl ?_)
      | ((with_reducible refine gateOp (op := .store 34 (.tmp 6) (.tmp 17)) rfl ?_); refine store_mach rfl _ _ rfl (w.heap.size + 1) rfl ⟨0, 0, fun _ => 0, fun _ => 0⟩ rfl 34 _ hS.out.m0 ?_; intro W3 p2 ho hsz hbl; have pB := hid (hbl _ _ (Nat.le_succ _) hS.out.bel); replace p2 := hid p2; clear ho hsz hbl))
    exact ret_mach_i rfl rfl rfl p2.out rfl ⟨by rw [hzs.out], pB.out⟩
  · rw [comAns_0 g h]
    rw [h] at hcode
    have hcl := hid (fun W hW => inverse_any w.heap.size W m hW l s g hkm)
    have gB := hid (inv_good g)
    have gL := hid g.L
    have l2 := hid g.l2; have l3 := hid g.l3
    have hz2 := hid (fun L W (h : St w.heap.size w L W) => h.newMB ⟨0, 0, fun _ => 0, fun _ => 0⟩ 34)
    replace hkm := hid hkm; clear h
    have hpo := hid (productOf_any)
    obtain ⟨ans, hans⟩ : ∃ a, a = chn (comF m l s q r) l 4 0 (trivM l) := ⟨_, rfl⟩
    rw [← hans]
    replace hans := hid hans
    have hgd : Hid (∀ i, i < 4 → Good (comF m l s q r i).1 l (comF m l s q r i).2.1 ∧ (comF m l s q r i).2.2 < (comF m l s q r i).2.1) := fun i hi => by
      unfold comF
      split
      · exact ⟨gB.out, hq⟩
      · split
        · exact ⟨gB.out, hr⟩
        · split
          · exact ⟨g, hq⟩
          · exact ⟨g, hr⟩
    replace g := hid g
    generalize mcells ⟨0, 0, fun _ => 0, fun _ => 0⟩ = zs at *
    go_enter Try.func27, Try.ntmps27
    go_upto_region 5 with (first
      | ((with_reducible refine gate (N := 10) rfl ?_); refine load_mach rfl _ rfl w.heap.size rfl m hS.out.m1 ?_)
      | (go_at_call 61; (with_reducible refine (hcode.out _ _ _ hown.out.o0).mono ?_); rintro e w1 ⟨rfl, hb⟩; replace hS := hid (hown.out.call hb).drop; clear hcode hown; clear hb)
      | (go_at_call 73; (with_reducible refine (hcl.out _ hS.out.m1).mono ?_); rintro e w2 ⟨rfl, hb⟩; have hle := hid (hS.out.call hb).le; replace hS := hid (hz2.out _ _ (hS.out.call hb)); clear hcl; clear hb)
      | ((with_reducible refine gateOp (op := .store 34 (.tmp 9) (.tmp 19)) rfl ?_); refine store_mach rfl _ _ rfl w2.heap.size rfl (inv m l s) rfl 34 _ hS.out.m0 ?_; intro W2 p3 ho hsz hbl; replace hS := hid (hS.out.setM hle.out p3 ho hbl); clear p3 ho hsz hbl))
    generalize w2.heap.size = b9 at *
    generalize hbm : w.heap.size = bm at *
    replace hbm := hid hbm
    have hpo2 := hid (fun W B (hB : W.heap[B]? = some (.cells #[.pointer (some ⟨b9, 0, none⟩), .int .i64 (q : Int), .pointer (some ⟨b9, 0, none⟩), .int .i64 (r : Int), .pointer (some ⟨bm, 0, none⟩), .int .i64 (q : Int), .pointer (some ⟨bm, 0, none⟩), .int .i64 (r : Int)] 88 (0, 0))) (h9 : MB W 34 b9 (inv m l s)) (hm : MB W 34 bm m) =>
      hpo.out W B 4 4 l (comF m l s q r) (fun i => if i < 2 then b9 else bm) l2.out l3.out (by omega) (fun W' hW' i hi => by
        have hB' := (hW'.block B (Array.getElem?_eq_some_iff.1 hB).1).trans hB
        have h9' := h9.below hW' h9.lt
        have hm' := hm.below hW' hm.lt
        have hi4 : i = 0 ∨ i = 1 ∨ i = 2 ∨ i = 3 := by omega
        rcases hi4 with rfl | rfl | rfl | rfl <;>
        · refine ⟨fun j u hu => ?_, by first | exact h9' | exact hm'⟩
          rw [cell_of_row W' B _ _ _ _ hB']
          rcases j with _ | _ | j
          · simpa [comF] using hu
          · simpa [comF] using hu
          · simp at hu) hgd.out)
    have hcL := hid (fun W (hm : MB W 34 bm m) => (show W.cell? ⟨bm, 0, none⟩ = some (.int .i64 (l : Int)) from by have h := hm.cL; rw [gL.out] at h; exact h))
    have cL := hcL.out _ hS.out.m2
    replace hS := hid (hS.out.newBlk #[.pointer (some ⟨b9, 0, none⟩), .int .i64 (q : Int), .pointer (some ⟨b9, 0, none⟩), .int .i64 (r : Int), .pointer (some ⟨bm, 0, none⟩), .int .i64 (q : Int), .pointer (some ⟨bm, 0, none⟩), .int .i64 (r : Int)] 88)
    go_wp2_with (first
      | (go_at_call 74; (with_reducible refine (hpo2.out _ _ hS.out.k0 hS.out.m1 hS.out.m3).mono ?_); rintro e w5 ⟨rfl, hb⟩; replace hS := hid (hS.out.call hb); rw [← hans.out]; clear hpo2; clear hb)
      | ((with_reducible refine gateOp (op := .store 34 (.tmp 6) (.tmp 32)) rfl ?_); refine store_mach rfl _ _ rfl (bm + 1) rfl ans.1 rfl 34 _ hS.out.m2 ?_; intro W3 p2 ho hsz hbl; have pB := hid (hbl _ _ (Nat.le_succ _) hS.out.bel); replace p2 := hid p2; clear ho hsz hbl))
    exact ret_mach_i rfl rfl rfl p2.out rfl ⟨rfl, by rw [hbm.out]; exact pB.out⟩
end Go.Proofs.Ythempofohidlnaa
