/- What the proof of PortraitOf leans on, part 12 of 12. -/
import Derived.Test.YthempofohidlnaaZPortraitOfK
/- slices.Repeat of one element, a few times. -/
namespace Go.Proofs.Ythempofohidlnaa
open Go.RowKit
set_option linter.unusedVariables false
set_option linter.unusedSimpArgs false
-- @LONG

/-- The cells cs, n times. -/
def rp (cs : List Value) (n : Nat) : List Value := (List.range (n * cs.length)).map fun j => cs.getD (j % cs.length) undef
theorem rp_length (cs : List Value) (n : Nat) : (rp cs n).length = n * cs.length := by simp [rp]
theorem rp_get (cs : List Value) (n j : Nat) (h : j < n * cs.length) : (rp cs n)[j]? = some (cs.getD (j % cs.length) undef) := by simp [rp, h]
theorem rp_at (cs : List Value) (n i j : Nat) (u : Value) (hi : i < n) (hu : cs[j]? = some u) : (rp cs n)[i * cs.length + j]? = some u := by
  have hj := (List.getElem?_eq_some_iff.1 hu).1
  have h1 : i * cs.length + cs.length ≤ n * cs.length := by rw [← Nat.succ_mul]; exact Nat.mul_le_mul_right _ hi
  rw [rp_get _ _ _ (by omega), Nat.mul_comm i, Nat.mul_add_mod, Nat.mod_eq_of_lt hj, List.getD_eq_getElem?_getD, hu]; rfl
theorem rp_one (cs : List Value) (n : Nat) (h1 : ∀ v ∈ cs, v.oneCell' = true) : ∀ v ∈ rp cs n, v.oneCell' = true := fun v hv => by
  unfold rp at hv
  obtain ⟨j, hj, rfl⟩ := List.mem_map.1 hv
  have hj' := List.mem_range.1 hj
  have hpos : 0 < cs.length := Nat.pos_of_ne_zero (fun e => by rw [e] at hj'; simp at hj')
  have hlt := Nat.mod_lt j hpos
  rw [List.getD_eq_getElem?_getD, List.getElem?_eq_getElem hlt]
  exact h1 _ (List.getElem_mem hlt)
/-- What is in the row when k elements are there. -/
def Rep (cs : List Value) (n k : Nat) (cur : List Value) : Prop := cur.length = n * cs.length ∧ ∀ j, j < k * cs.length → cur[j]? = (rp cs n)[j]?
theorem Rep.all {cs cur : List Value} {n : Nat} (h : Rep cs n n cur) : cur = rp cs n := by
  apply List.ext_getElem?
  intro j
  by_cases hj : j < n * cs.length
  · exact h.2 j hj
  · rw [List.getElem?_eq_none (by rw [h.1]; omega), List.getElem?_eq_none (by rw [rp_length]; omega)]
theorem Rep.step {cs cur : List Value} {n k c : Nat} (h : Rep cs n k cur) (hc : k + c ≤ n) : Rep cs n (k + c) (splice cur (k * cs.length) ((rp cs n).take (c * cs.length))) := by
  have e1 : k * cs.length + c * cs.length = (k + c) * cs.length := (Nat.add_mul _ _ _).symm
  have e2 : (k + c) * cs.length ≤ n * cs.length := Nat.mul_le_mul_right _ hc
  have hl : ((rp cs n).take (c * cs.length)).length = c * cs.length := by rw [List.length_take, rp_length]; omega
  refine ⟨by rw [length_splice _ _ _ (by rw [hl, h.1]; omega)]; exact h.1, fun j hj => ?_⟩
  unfold splice
  have hk : (cur.take (k * cs.length)).length = k * cs.length := by rw [List.length_take, h.1]; omega
  by_cases hj1 : j < k * cs.length
  · rw [List.getElem?_append_left (by omega), List.getElem?_take_of_lt hj1]
    exact h.2 j hj1
  · rw [List.getElem?_append_right (by omega), hk, List.getElem?_append_left (by omega), List.getElem?_take_of_lt (by omega), rp_get _ _ _ (by omega), rp_get _ _ _ (by omega)]
    have e3 : j % cs.length = (j - k * cs.length) % cs.length := by
      conv => lhs; rw [show j = k * cs.length + (j - k * cs.length) by omega, Nat.mul_comm k, Nat.mul_add_mod]
      rw [Nat.mul_comm k]
    rw [e3]
theorem Rep.zero {cs Z : List Value} {n : Nat} (h : Z.length = n * cs.length) : Rep cs n 0 Z := ⟨h, fun j hj => by omega⟩

/-- A part that is one block, its row anew. -/
theorem St.setRow {base bn : Nat} {w0 w : World} {L : List Asn} {cs : Array Value} {t : Nat} (h : St base w0 (Asn.blk bn cs t :: L) w) (hb : base ≤ bn) (cs' : Array Value) : St base w0 (Asn.blk bn cs' t :: L) (w.setRow bn cs') :=
  h.turn (a' := Asn.blk bn cs' t) (setRow_heap w bn _ _ t _ h.star.1) (fun k hk => .inl hk) (fun k hk => (show k = bn from hk) ▸ hb) (below_setRow (Below.refl _ _) hb _)
    fun k _ hk => setRow_other w bn k _ hk
/-- copy as a step of a region that draws. -/
theorem step_copy_N {P : Program} {ops : Array Oper} {o : Oper} {a : Act} {w : World} {K : Act → World → Prop} {Q : Exit → Act → World → Prop} {E : Prop} (hgd : o.guard = none) (d s : Operand) (dT sT : TypeId)
    (ho : o.op = .call { callee := .builtin .copy, args := #[d, s], argTypes := #[dT, sT] }) (elem : TypeId) (sz : Nat) (hu : P.underlying dT = some (.slice elem)) (hsz : (P.info? elem).map (·.size) = some sz)
    (g off dLen dCap : Nat) (ad : Addr) (sLen sCap : Nat) (hd : a.eval d = .slice (some ⟨g, off, none⟩) dLen dCap) (hs : a.eval s = .slice (some ad) sLen sCap)
    (cur : List Value) (t : TypeId) (hg : w.heap[g]? = some (.cells cur.toArray t (0, 0))) (cs : List Value) (hn : cs.length = Nat.min sLen dLen * sz)
    (hsrc : ∀ j v, cs[j]? = some v → w.cell? (ad.add j) = some v) (hfit : off + cs.length ≤ cur.length) (h1 : ∀ v ∈ cs, v.oneCell' = true)
    (h : K (a.put o.dst (goInt (Nat.min sLen dLen))) (w.setRow g (splice cur off cs).toArray)) :
    if Region.wanted o (yielded ops a.tmps) = true then Oper.wp P o a w K Q else E := by
  have hw : Region.wanted o (yielded ops a.tmps) = true := by simp [Region.wanted, hgd]
  rw [if_pos hw]
  have hrun := run_copy_N (P := P) w dT sT o.type elem sz g off dLen dCap ad sLen sCap cur.toArray t cs hu hsz hg hn hsrc (by simpa using hfit) h1
  unfold Oper.wp
  simp [execOp, ho, resolve, invoke, builtin, hd, hs, hrun, Result.andThen]
  have e : w.setRow g (splice cur off cs).toArray = w.setRow g (List.take off cur ++ (cs ++ List.drop (off + cs.length) cur)).toArray := rfl
  first
    | exact h
    | (rw [e] at h; simpa using h)
/-- The numbers of times that are asked for. -/
def Few (n : Nat) : Prop := n ≤ 16 ∨ n = 27 ∨ n = 32 ∨ n = 81

theorem info_factor : (Try.prog.info? 88).map (fun i => (i.zero, i.size, i.bytes)) = some (some (.agg #[.pointer none, .int .i64 0]), 2, 16) := by kernel_rfl
set_option maxHeartbeats 2000000 in
set_option maxRecDepth 4000 in
theorem repFactor_any (w : World) (gs cap n : Nat) (cs : List Value) (hc : cs.length = 2) (h1 : ∀ v ∈ cs, v.oneCell' = true) (hn : n ≤ 16)
    (hsrc : ∀ j v, cs[j]? = some v → w.cell? ⟨gs, j, none⟩ = some v) (hgs : gs < w.heap.size) :
    Calls Try.prog 77 #[.slice (some ⟨gs, 0, none⟩) 1 cap, .int .i64 n] w fun e w' => e = .returned (.slice (some ⟨w.heap.size, 0, none⟩) n n) ∧ St w.heap.size w [Asn.blk w.heap.size (rp cs n).toArray 88] w' := by
  obtain ⟨i, hi, hz0, hz1, hz2⟩ := info_parts info_factor
  have hmk := fun W : World => run_make (P := Try.prog) W 89 88 i _ Try.underlying89 hi hz0 .i64 .i64 n n (by omega) (by omega) (by rw [hz2]; omega) (by omega)
  rw [hz1] at hmk
  simp only [Int.toNat_natCast] at hmk
  obtain ⟨Z, hZ⟩ : ∃ Z : List Value, Z.toArray = madeCells (Value.agg #[.pointer none, .int .i64 0]).cells (n * 2) := ⟨(madeCells (Value.agg #[.pointer none, .int .i64 0]).cells (n * 2)).toList, by simp⟩
  have hZl := hid (show Z.length = n * cs.length by rw [hc, ← List.size_toArray, hZ, size_madeCells])
  rw [← hZ] at hmk
  clear hi hz0 hz1 hz2 hZ
  have hb := hid (fun W => bitsMul_small W n hn)
  have xn : (n : Int) % 18446744073709551616 = n := by omega
  have hS := hid ((St.start w).newBlk Z.toArray 88)
  replace hsrc := hid hsrc; replace h1 := hid h1; replace hc := hid hc
  go_enter Try.func77, Try.ntmps77
  go_upto_region 7 with (first
    | (go_at_call 128; (with_reducible refine (hb.out _).mono ?_); rintro e w1 ⟨rfl, rfl⟩))
  have hpre : Hid (∃ k : Nat, k = Nat.min 1 n ∧ k ≤ n ∧ (0 < n → 0 < k)) := ⟨_, rfl, by simp only [Nat.min_def]; split <;> omega, fun h => by simp only [Nat.min_def]; split <;> omega⟩
  obtain ⟨k0, hk0, hk0n, hk0p⟩ := hpre.out
  replace hk0 := hid hk0
  have pl := hid (show ((rp cs n).take (k0 * cs.length)).length = Nat.min 1 n * 2 by
    have h2 : k0 * cs.length ≤ n * cs.length := Nat.mul_le_mul_right _ hk0n
    rw [List.length_take, rp_length, ← hk0.out, hc.out] at *; omega)
  have psrc := hid (fun (W : World) (hW : Below w.heap.size w W) => (show ∀ j v, ((rp cs n).take (k0 * cs.length))[j]? = some v → W.cell? ((⟨gs, 0, none⟩ : Addr).add j) = some v from fun j v hv => by
    have hj := (List.getElem?_eq_some_iff.1 hv).1
    rw [pl.out, ← hk0.out] at hj
    have h01 : k0 ≤ 1 := by rw [hk0.out]; exact Nat.min_le_left _ _
    have h2 : j < cs.length := by rw [hc.out]; omega
    have h3 : k0 * cs.length ≤ n * cs.length := Nat.mul_le_mul_right _ hk0n
    rw [hc.out] at h3
    rw [List.getElem?_take_of_lt (by rw [hc.out]; omega), rp_get _ _ _ (by rw [hc.out]; omega), Nat.mod_eq_of_lt h2] at hv
    rw [Addr.add_mid, Nat.zero_add]
    refine (hW.cell (p := ⟨gs, j, none⟩) hgs).trans (hsrc.out j v ?_)
    rw [List.getD_eq_getElem?_getD, List.getElem?_eq_getElem h2] at hv
    rw [List.getElem?_eq_getElem h2]; exact hv))
  have pfit := hid (show 0 + ((rp cs n).take (k0 * cs.length)).length ≤ Z.length by
    have h2 : k0 * cs.length ≤ n * cs.length := Nat.mul_le_mul_right _ hk0n
    rw [List.length_take, rp_length, hZl.out]; omega)
  have pone := hid (fun v (hv : v ∈ (rp cs n).take (k0 * cs.length)) => rp_one cs n h1.out v (List.mem_of_mem_take hv))
  go_wp2_with (first
    | ((with_reducible refine gate (N := 33) rfl ?_); refine wpList_copy_N rfl _ _ _ _ rfl 88 2 Try.underlying89 sz_factor w.heap.size 0 n n ⟨gs, 0, none⟩ 1 cap rfl rfl Z _ hS.out.k0 ((rp cs n).take (k0 * cs.length)) pl.out (psrc.out _ hS.out.bel) pfit.out pone.out ?_; replace hS := hid (hS.out.setRow (Nat.le_refl _) (splice Z 0 ((rp cs n).take (k0 * cs.length))).toArray)))
  have hR := hid (show Rep cs n k0 (splice Z 0 ((rp cs n).take (k0 * cs.length))) from by have h := Rep.step (c := k0) (Rep.zero hZl.out) (show 0 + k0 ≤ n by omega); rw [Nat.zero_add, Nat.zero_mul] at h; exact h)
  go_loopw [8] (fun i wr => ∃ (k : Nat) (cur : List Value), k ≤ n ∧ (0 < n → 0 < k) ∧ i = .int .i64 k ∧ Hid (Rep cs n k cur) ∧ St w.heap.size w [Asn.blk w.heap.size cur.toArray 88] wr) (fun i _ => n - (intOf i).toNat)
  case atStart => exact ⟨k0, _, hk0n, hk0p, by rw [hk0.out], hR, hS.out⟩
  case round =>
    obtain ⟨k, cur, hk, hkp, rfl, hR2, rS⟩ := hrel
    clear hS hR pl psrc pfit pone
    replace rS := hid rS
    by_cases hkn : k < n
    · have dc : decide ((k : Int) < (n : Int)) = true := decide_eq_true (by omega)
      have i0 : (0 : Int) ≤ (k : Int) := Int.natCast_nonneg _
      have i1 : (k : Int) ≤ (n : Int) := by omega
      have hnk : ¬ n = k := by omega
      obtain ⟨c, hcc⟩ : ∃ c, c = Nat.min k (n - k) := ⟨_, rfl⟩
      have hcn : k + c ≤ n := by rw [hcc]; show k + min k (n - k) ≤ n; omega
      have hck : c ≤ k := by rw [hcc]; exact Nat.min_le_left _ _
      have hcp : 0 < c := by rw [hcc]; show 0 < min k (n - k); omega
      replace hcc := hid hcc
      have ew : IntKind.i64.wrap ((k : Int) + (c : Int)) = ((k + c : Nat) : Int) := by rw [IntWalk.i64_in _ (by omega)]; rfl
      have m1 : k * cs.length + c * cs.length = (k + c) * cs.length := (Nat.add_mul _ _ _).symm
      have m2 : (k + c) * cs.length ≤ n * cs.length := Nat.mul_le_mul_right _ hcn
      have m3 : c * cs.length ≤ k * cs.length := Nat.mul_le_mul_right _ hck
      replace m1 := hid m1; replace m2 := hid m2; replace m3 := hid m3
      have pl := hid (show ((rp cs n).take (c * cs.length)).length = Nat.min k (n - k) * 2 by rw [List.length_take, rp_length, ← hcc.out, ← hc.out]; have := m1.out; have := m2.out; omega)
      have psrc := hid (fun (W : World) (hW : W.heap[w.heap.size]? = some (.cells cur.toArray 88 (0, 0))) => (show ∀ j v, ((rp cs n).take (c * cs.length))[j]? = some v → W.cell? ((⟨w.heap.size, 0, none⟩ : Addr).add j) = some v from fun j v hv => by
        have hj := (List.getElem?_eq_some_iff.1 hv).1
        rw [List.length_take] at hj
        rw [List.getElem?_take_of_lt (by omega), ← hR2.out.2 j (by have := m3.out; omega)] at hv
        rw [Addr.add_mid, Nat.zero_add, cell_of_row W w.heap.size j _ _ _ hW]
        simpa using hv))
      have pfit := hid (show k * 2 + ((rp cs n).take (c * cs.length)).length ≤ cur.length by rw [List.length_take, rp_length, hR2.out.1, ← hc.out]; have := m1.out; have := m2.out; omega)
      have pone := hid (fun v (hv : v ∈ (rp cs n).take (c * cs.length)) => rp_one cs n h1.out v (List.mem_of_mem_take hv))
      have hR3 := hid (show Rep cs n (k + c) (splice cur (k * 2) ((rp cs n).take (c * cs.length))) from by have h := hR2.out.step hcn; rw [show k * cs.length = k * 2 by rw [hc.out]] at h; exact h)
      go_upto_region 9 with (fail)
      refine wp_region_heldL (L := []) (by kernel_rfl) HeldL.nil (fun hHeld => ?_)
      replace rS := hid rS.out.drew
      generalize wr.drew = wd at *
      refine wpAnyL_take0 (i := 0) (v := ?_) rfl (by kernel_rfl) (by kernel_rfl) (by kernel_rfl) (by rfl) (fun _ _ _ h => h) (Or.inl ⟨by rfl, ?_⟩) (by assumption) ?_
      rotate_left
      · (intro W _; go_simp; (with_reducible rfl))
      intro hHeld'
      clear hHeld; have hHeld := hHeld'; clear hHeld'
      try simp only [Act.put, List.getElem_toArray, List.getElem_cons_succ, List.getElem_cons_zero, List.setIfInBounds_toArray, List.set_cons_zero, List.set_cons_succ]
      refine wpAnyL_take0 (i := 1) (v := ?_) rfl (by kernel_rfl) (by kernel_rfl) (by kernel_rfl) (by rfl) (fun _ _ _ h => h) (Or.inl ⟨by rfl, ?_⟩) (by assumption) ?_
      rotate_left
      · (intro W _; go_simp; (with_reducible rfl))
      intro hHeld'
      clear hHeld; have hHeld := hHeld'; clear hHeld'
      try simp only [Act.put, List.getElem_toArray, List.getElem_cons_succ, List.getElem_cons_zero, List.setIfInBounds_toArray, List.set_cons_zero, List.set_cons_succ]
      refine wpAnyL_take0 (i := 2) (v := ?_) rfl (by kernel_rfl) (by kernel_rfl) (by kernel_rfl) (by rfl) (fun _ _ _ h => h) (Or.inl ⟨by rfl, ?_⟩) (by assumption) ?_
      rotate_left
      · (intro W _; go_simp; (with_reducible rfl))
      intro hHeld'
      clear hHeld; have hHeld := hHeld'; clear hHeld'
      try simp only [Act.put, List.getElem_toArray, List.getElem_cons_succ, List.getElem_cons_zero, List.setIfInBounds_toArray, List.set_cons_zero, List.set_cons_succ]
      refine wpAnyL_take0 (i := 3) (v := ?_) rfl (by kernel_rfl) (by kernel_rfl) (by kernel_rfl) (by rfl) (fun _ _ _ h => h) (Or.inl ⟨by rfl, ?_⟩) (by assumption) ?_
      rotate_left
      · (intro W _; go_simp; (with_reducible rfl))
      intro hHeld'
      clear hHeld; have hHeld := hHeld'; clear hHeld'
      try simp only [Act.put, List.getElem_toArray, List.getElem_cons_succ, List.getElem_cons_zero, List.setIfInBounds_toArray, List.set_cons_zero, List.set_cons_succ]
      refine wpAnyL_take0 (i := 4) (v := ?_) rfl (by kernel_rfl) (by kernel_rfl) (by kernel_rfl) (by rfl) (fun _ _ _ h => h) (Or.inl ⟨by rfl, ?_⟩) (by assumption) ?_
      rotate_left
      · (intro W _; go_simp; (with_reducible rfl))
      intro hHeld'
      clear hHeld; have hHeld := hHeld'; clear hHeld'
      try simp only [Act.put, List.getElem_toArray, List.getElem_cons_succ, List.getElem_cons_zero, List.setIfInBounds_toArray, List.set_cons_zero, List.set_cons_succ]
      refine wpAnyL_take0 (i := 5) (v := ?_) rfl (by kernel_rfl) (by kernel_rfl) (by kernel_rfl) (by rfl) (fun _ _ _ h => h) (Or.inl ⟨by rfl, ?_⟩) (by assumption) ?_
      rotate_left
      · (intro W _; go_simp; (with_reducible rfl))
      intro hHeld'
      clear hHeld; have hHeld := hHeld'; clear hHeld'
      try simp only [Act.put, List.getElem_toArray, List.getElem_cons_succ, List.getElem_cons_zero, List.setIfInBounds_toArray, List.set_cons_zero, List.set_cons_succ]
      refine wpAnyL_take0 (i := 6) (v := ?_) rfl (by kernel_rfl) (by kernel_rfl) (by kernel_rfl) (by rfl) (fun _ _ _ h => h) (Or.inl ⟨by rfl, ?_⟩) (by assumption) ?_
      rotate_left
      · (intro W _; go_simp; (with_reducible rfl))
      intro hHeld'
      clear hHeld; have hHeld := hHeld'; clear hHeld'
      try simp only [Act.put, List.getElem_toArray, List.getElem_cons_succ, List.getElem_cons_zero, List.setIfInBounds_toArray, List.set_cons_zero, List.set_cons_succ]
      refine wpAnyL_ready (rs := [7]) (by kernel_rfl) (by simp) ?_
      refine AllReadyL.cons rfl (fun K hK => ?_) AllReadyL.nil
      refine step_copy_N rfl _ _ _ _ rfl 88 2 Try.underlying89 sz_factor w.heap.size (k * 2) (n - k) (n - k) ⟨w.heap.size, 0, none⟩ k n rfl rfl cur _ rS.out.k0 ((rp cs n).take (c * cs.length)) (by rw [pl.out]) (psrc.out _ rS.out.k0) pfit.out pone.out ?_
      replace rS := hid (rS.out.setRow (Nat.le_refl _) (splice cur (k * 2) ((rp cs n).take (c * cs.length))).toArray)
      generalize wd.setRow w.heap.size (splice cur (k * 2) ((rp cs n).take (c * cs.length))).toArray = we at *
      rw [← hcc.out]
      refine hK.out _ _ (HeldL.nil) (fun hHeld' => ?_)
      clear hK K hHeld; have hHeld := hHeld'; clear hHeld'
      try simp only [Act.put, List.getElem_toArray, List.getElem_cons_succ, List.getElem_cons_zero, List.setIfInBounds_toArray, List.set_cons_zero, List.set_cons_succ]
      refine wpAnyL_take0 (i := 8) (v := ?_) rfl (by kernel_rfl) (by kernel_rfl) (by kernel_rfl) (by rfl) (fun _ _ _ h => h) (Or.inl ⟨by rfl, ?_⟩) (by assumption) ?_
      rotate_left
      · (intro W _; go_simp; (with_reducible rfl))
      intro hHeld'
      clear hHeld; have hHeld := hHeld'; clear hHeld'
      try simp only [Act.put, List.getElem_toArray, List.getElem_cons_succ, List.getElem_cons_zero, List.setIfInBounds_toArray, List.set_cons_zero, List.set_cons_succ]
      refine wpAnyL_take0 (i := 9) (v := ?_) rfl (by kernel_rfl) (by kernel_rfl) (by kernel_rfl) (by rfl) (fun _ _ _ h => h) (Or.inl ⟨by rfl, ?_⟩) (by assumption) ?_
      rotate_left
      · (intro W _; go_simp; (with_reducible rfl))
      intro hHeld'
      clear hHeld; have hHeld := hHeld'; clear hHeld'
      try simp only [Act.put, List.getElem_toArray, List.getElem_cons_succ, List.getElem_cons_zero, List.setIfInBounds_toArray, List.set_cons_zero, List.set_cons_succ]
      refine wpAnyL_done (by kernel_rfl) ?_ _
      go_wp2
      go_roundw
      case rel => exact ⟨k + c, _, hcn, fun _ => by omega, by go_num, hR3, rS.out⟩
      case measure => simp [intOf]; omega
    · obtain rfl : k = n := by omega
      have dc : decide ((k : Int) < (k : Int)) = false := decide_eq_false (by omega)
      have hall := hid hR2.out.all
      go_wp2
      go_ret
      exact ⟨rfl, by rw [← hall.out]; exact rS.out⟩
end Go.Proofs.Ythempofohidlnaa

/- The reference's permutations of letters. -/
namespace Go.Proofs.Ythempofohidlnaa
open Go.RowKit
set_option linter.unusedVariables false
set_option linter.unusedSimpArgs false
-- @LONG

/-- Where permutation k leads the letter x. -/
def pim (d k x : Nat) : Nat := (((prms d).getD k []).getD x 0).toNat
theorem pim_lt (d k x : Nat) (hd : d = 2 ∨ d = 3) (hk : k < cnt d) (hx : x < d) : pim d k x < d := by
  rcases hd with rfl | rfl
  · have : k = 0 ∨ k = 1 := by have : cnt 2 = 2 := rfl; omega
    have h2 : x = 0 ∨ x = 1 := by omega
    rcases this with rfl | rfl <;> rcases h2 with rfl | rfl <;> decide
  · have : k = 0 ∨ k = 1 ∨ k = 2 ∨ k = 3 ∨ k = 4 ∨ k = 5 := by have : cnt 3 = 6 := rfl; omega
    have h2 : x = 0 ∨ x = 1 ∨ x = 2 := by omega
    rcases this with rfl | rfl | rfl | rfl | rfl | rfl <;> rcases h2 with rfl | rfl | rfl <;> decide
/-- Three bytes in a block of their own. -/
theorem row_new3 (w : World) (f : Nat → Nat) (a b c : Int) (ha : a = (f 0 : Nat)) (hb : b = (f 1 : Nat)) (hc : c = (f 2 : Nat)) :
    (w.alloc (.cells #[.int .u8 a, .int .u8 b, .int .u8 c] 29)).rowIs w.heap.size 29 3 (byt f) := by
  subst ha; subst hb; subst hc
  exact rowIs_new w 3 29 (byt f)
set_option maxHeartbeats 1000000 in
set_option maxRecDepth 100000 in
theorem l03Images_20 (w : World) :
    Calls Try.prog 148 #[.int .i64 2, .int .i64 0] w fun e w' => e = .returned (.agg (rowL 3 (byt (pim 2 0))).toArray) ∧ Below w.heap.size w w' := by
  go_enter Try.func148, Try.ntmps148
  go_wp2
  exact ret_row (ty := 29) (p := 4) rfl (g := w.heap.size) (t := 29) (n := 3) rfl (row_new3 w (pim 2 0) _ _ _ (by decide) (by decide) (by decide)) Try.underlying29 rfl sz_b3 rfl ⟨rfl, below_alloc (Below.refl _ _) (Nat.le_refl _) _⟩
set_option maxHeartbeats 1000000 in
set_option maxRecDepth 100000 in
theorem l03Images_21 (w : World) :
    Calls Try.prog 148 #[.int .i64 2, .int .i64 1] w fun e w' => e = .returned (.agg (rowL 3 (byt (pim 2 1))).toArray) ∧ Below w.heap.size w w' := by
  go_enter Try.func148, Try.ntmps148
  go_wp2
  exact ret_row (ty := 29) (p := 4) rfl (g := w.heap.size) (t := 29) (n := 3) rfl (row_new3 w (pim 2 1) _ _ _ (by decide) (by decide) (by decide)) Try.underlying29 rfl sz_b3 rfl ⟨rfl, below_alloc (Below.refl _ _) (Nat.le_refl _) _⟩
theorem row_is3 {W : World} {b t : Nat} {f : Nat → Nat} (h : W.heap[b]? = some (.cells (rowL 3 (byt f)).toArray t (0, 0))) : W.rowIs b t 3 (byt f) :=
  ⟨_, h, rfl, fun i hi => by have := rowL_get 3 (byt f) i hi; simpa using this⟩
theorem sz_63 : (Try.prog.info? 179).map (·.size) = some 18 := by kernel_rfl
theorem zero_63 (w : World) : (zeroValue 179).run Try.prog w = .ok (.agg (rowL 18 (byt fun _ => 0)).toArray) w := by kernel_rfl
def all6 : Array Value := #[.int .u8 0, .int .u8 1, .int .u8 2, .int .u8 0, .int .u8 2, .int .u8 1, .int .u8 1, .int .u8 0, .int .u8 2, .int .u8 1, .int .u8 2, .int .u8 0, .int .u8 2, .int .u8 0, .int .u8 1, .int .u8 2, .int .u8 1, .int .u8 0]
theorem all6_get (k : Nat) (hk : k < 6) (j : Nat) (v : Value) (hv : (rowL 3 (byt (pim 3 k)))[j]? = some v) : all6[k * 3 + j]? = some v := by
  have hj : j < 3 := by have := (List.getElem?_eq_some_iff.1 hv).1; rwa [rowL_length] at this
  rw [rowL_get 3 _ j hj] at hv
  rw [← hv]
  have : k = 0 ∨ k = 1 ∨ k = 2 ∨ k = 3 ∨ k = 4 ∨ k = 5 := by omega
  have h2 : j = 0 ∨ j = 1 ∨ j = 2 := by omega
  rcases this with rfl | rfl | rfl | rfl | rfl | rfl <;> rcases h2 with rfl | rfl | rfl <;> rfl
theorem built6 : Try.prog.built 179 [(0, Value.agg #[.int .u8 0, .int .u8 1, .int .u8 2]), (1, Value.agg #[.int .u8 0, .int .u8 2, .int .u8 1]), (2, Value.agg #[.int .u8 1, .int .u8 0, .int .u8 2]), (3, Value.agg #[.int .u8 1, .int .u8 2, .int .u8 0]), (4, Value.agg #[.int .u8 2, .int .u8 0, .int .u8 1]), (5, Value.agg #[.int .u8 2, .int .u8 1, .int .u8 0])] = some all6 := by kernel_rfl
theorem build_all6 {ops : Array Oper} {rest : List Oper} {o : Oper} {a : Act} {w : World} {Q : Exit → Act → World → Prop} (hgd : o.guard = none) (ho : o.op = .build 179 #[(0, Operand.tmp 12), (1, Operand.tmp 13), (2, Operand.tmp 14), (3, Operand.tmp 15), (4, Operand.tmp 16), (5, Operand.tmp 17)])
    (e0 : a.eval (.tmp 12) = .agg #[.int .u8 0, .int .u8 1, .int .u8 2]) (e1 : a.eval (.tmp 13) = .agg #[.int .u8 0, .int .u8 2, .int .u8 1]) (e2 : a.eval (.tmp 14) = .agg #[.int .u8 1, .int .u8 0, .int .u8 2]) (e3 : a.eval (.tmp 15) = .agg #[.int .u8 1, .int .u8 2, .int .u8 0]) (e4 : a.eval (.tmp 16) = .agg #[.int .u8 2, .int .u8 0, .int .u8 1]) (e5 : a.eval (.tmp 17) = .agg #[.int .u8 2, .int .u8 1, .int .u8 0])
    (h : wpList Try.prog ops Q rest (a.put o.dst (.agg all6)) w) : wpList Try.prog ops Q (o :: rest) a w := by
  have h0 : ((#[(0, Operand.tmp 12), (1, Operand.tmp 13), (2, Operand.tmp 14), (3, Operand.tmp 15), (4, Operand.tmp 16), (5, Operand.tmp 17)] : Array (Nat × Operand)).map fun (i, x) => (i, a.eval x)).toList = [(0, Value.agg #[.int .u8 0, .int .u8 1, .int .u8 2]), (1, Value.agg #[.int .u8 0, .int .u8 2, .int .u8 1]), (2, Value.agg #[.int .u8 1, .int .u8 0, .int .u8 2]), (3, Value.agg #[.int .u8 1, .int .u8 2, .int .u8 0]), (4, Value.agg #[.int .u8 2, .int .u8 0, .int .u8 1]), (5, Value.agg #[.int .u8 2, .int .u8 1, .int .u8 0])] := by
    simp only [List.map_toArray, List.map_cons, List.map_nil, e0, e1, e2, e3, e4, e5]
  have e : Try.prog.built 179 ((#[(0, Operand.tmp 12), (1, Operand.tmp 13), (2, Operand.tmp 14), (3, Operand.tmp 15), (4, Operand.tmp 16), (5, Operand.tmp 17)] : Array (Nat × Operand)).map fun (i, x) => (i, a.eval x)).toList = some all6 := by
    rw [h0]; exact built6
  refine wpList_build hgd 179 _ ho (by rw [e]; rfl) ?_
  rw [e]
  exact h
set_option maxHeartbeats 2000000 in
set_option maxRecDepth 100000 in
theorem l03Images_3 (k : Nat) (hk : k < 6) (w : World) :
    Calls Try.prog 148 #[.int .i64 3, .int .i64 k] w fun e w' => e = .returned (.agg (rowL 3 (byt (pim 3 k))).toArray) ∧ Below w.heap.size w w' := by
  have hS := ((St.start w).newBlk #[.int .u8 0, .int .u8 0, .int .u8 0] 29).newBlk (rowL 18 (byt fun _ => 0)).toArray 179
  rw [heap_alloc_size] at hS
  replace hS := hid hS
  have hz := zero_63
  have hbig : all6.all (·.oneCell') = true := by simp [all6, Value.oneCell']
  have hss := hid sz_63
  have hzs := hid (show (rowL 18 (byt fun _ => 0)).toArray.size = 18 from rfl)
  have h6s := hid (show all6.size = 18 from rfl)
  have hget := hid (all6_get k hk)
  have hl := hid (rowL_length 3 (byt (pim 3 k)))
  have k0 : (0 : Int) ≤ (k : Int) := Int.natCast_nonneg _
  have k1 : (k : Int) < 6 := by omega
  replace hbig := hid hbig
  generalize (rowL 18 (byt fun _ => 0)).toArray = zs at *
  go_enter Try.func148, Try.ntmps148
  go_upto_region 6 with (first
    | ((with_reducible refine gate (N := 18) rfl ?_); refine build_all6 rfl rfl rfl rfl rfl rfl rfl rfl ?_)
    | ((with_reducible refine gateOp (op := .store 179 (.tmp 5) (.tmp 18)) rfl ?_); refine wpList_store_row rfl _ _ _ rfl (w.heap.size + 1) _ rfl rfl _ _ hS.out.k0 (by rw [h6s.out]; exact hss.out) (by rw [hzs.out, h6s.out]) hbig.out ?_))
  replace hS := hid (hS.out.setRow (Nat.le_succ _) all6)
  generalize World.setRow _ _ all6 = w2 at *
  have hrg := hid (show w2.rangeAt (w.heap.size + 1) (k * 3) (rowL 3 (byt (pim 3 k))) from fun j v hv => (cell_of_row _ _ (k * 3 + j) _ _ _ hS.out.k0).trans (hget.out j v hv))
  have h1c := hid (show ((rowL 3 (byt (pim 3 k))).toArray.all (·.oneCell') = true) from one_byt 3 (pim 3 k))
  have hls := hid (show (rowL 3 (byt (pim 3 k))).toArray.size = 3 from rfl)
  have hrr := hid (fun (W : World) (b : Nat) (h : W.heap[b]? = some (.cells (rowL 3 (byt (pim 3 k))).toArray 29 (0, 0))) => (show W.rowIs b 29 3 (byt (pim 3 k)) from row_is3 h))
  have hRR := hid (show rowL 3 (byt (pim 3 k)) = rowL 3 (byt (pim 3 k)) from rfl)
  generalize hR : rowL 3 (byt (pim 3 k)) = R at *
  replace hR := hid hR
  clear hRR
  have hRR := hid hR.out
  go_wp2_with (first
    | ((with_reducible refine gate (N := 21) rfl ?_); refine wpList_load_mid rfl 29 _ rfl (w.heap.size + 1) (k * 3) rfl _ _ hrg.out Try.underlying29 rfl (by rw [hl.out]; exact sz_b3) ?_)
    | ((with_reducible refine gateOp (op := .store 29 (.tmp 4) (.tmp 21)) rfl ?_); refine wpList_store_row rfl _ _ _ rfl w.heap.size _ rfl rfl _ _ hS.out.k1 (by rw [hls.out]; exact sz_b3) (by rw [hls.out]; rfl) h1c.out ?_; replace hS := hid (hS.out.f1.setRow (Nat.le_refl _) R.toArray)))
  exact ret_row (ty := 29) (p := 4) rfl (g := w.heap.size) (t := 29) (n := 3) rfl (hrr.out _ _ hS.out.k0) Try.underlying29 rfl sz_b3 rfl ⟨by rw [hRR.out], hS.out.bel⟩
theorem l03Images_any (d k : Nat) (hd : d = 2 ∨ d = 3) (hk : k < cnt d) (w : World) :
    Calls Try.prog 148 #[.int .i64 d, .int .i64 k] w fun e w' => e = .returned (.agg (rowL 3 (byt (pim d k))).toArray) ∧ Below w.heap.size w w' := by
  rcases hd with rfl | rfl
  · have : k = 0 ∨ k = 1 := by have : cnt 2 = 2 := rfl; omega
    rcases this with rfl | rfl
    · exact l03Images_20 w
    · exact l03Images_21 w
  · exact l03Images_3 k (by have : cnt 3 = 6 := rfl; omega) w
end Go.Proofs.Ythempofohidlnaa

/- The reference's number of a permutation. -/
namespace Go.Proofs.Ythempofohidlnaa
open Go.RowKit
set_option linter.unusedVariables false
set_option linter.unusedSimpArgs false
-- @LONG

theorem pim_256 (d k x : Nat) (hd : d = 2 ∨ d = 3) (hk : k < cnt d) (hx : x < 3) : pim d k x < 256 := by
  rcases hd with rfl | rfl
  · have : k = 0 ∨ k = 1 := by have : cnt 2 = 2 := rfl; omega
    have h2 : x = 0 ∨ x = 1 ∨ x = 2 := by omega
    rcases this with rfl | rfl <;> rcases h2 with rfl | rfl | rfl <;> decide
  · have : k = 0 ∨ k = 1 ∨ k = 2 ∨ k = 3 ∨ k = 4 ∨ k = 5 := by have : cnt 3 = 6 := rfl; omega
    have h2 : x = 0 ∨ x = 1 ∨ x = 2 := by omega
    rcases this with rfl | rfl | rfl | rfl | rfl | rfl <;> rcases h2 with rfl | rfl | rfl <;> decide
theorem pim_inj (d k i : Nat) (hd : d = 2 ∨ d = 3) (hk : k < cnt d) (hi : i < cnt d) (h : pim d k 0 = pim d i 0 ∧ pim d k 1 = pim d i 1 ∧ pim d k 2 = pim d i 2) : k = i := by
  rcases hd with rfl | rfl
  · have h1 : k = 0 ∨ k = 1 := by have : cnt 2 = 2 := rfl; omega
    have h2 : i = 0 ∨ i = 1 := by have : cnt 2 = 2 := rfl; omega
    rcases h1 with rfl | rfl <;> rcases h2 with rfl | rfl <;> first | rfl | (exact absurd h (by decide))
  · have h1 : k = 0 ∨ k = 1 ∨ k = 2 ∨ k = 3 ∨ k = 4 ∨ k = 5 := by have : cnt 3 = 6 := rfl; omega
    have h2 : i = 0 ∨ i = 1 ∨ i = 2 ∨ i = 3 ∨ i = 4 ∨ i = 5 := by have : cnt 3 = 6 := rfl; omega
    rcases h1 with rfl | rfl | rfl | rfl | rfl | rfl <;> rcases h2 with rfl | rfl | rfl | rfl | rfl | rfl <;> first | rfl | (exact absurd h (by decide))
theorem load_b3 {w : World} {b t : Nat} {x y z : Value} (h : w.heap[b]? = some (.cells #[x, y, z] t (0, 0))) : (loadVar 29 ⟨b, 0, none⟩).run Try.prog w = .ok (.agg #[x, y, z]) w := by
  have := run_loadVar_mid (P := Try.prog) w b 0 29 [x, y, z] _ (fun j v hv => by rw [Nat.zero_add, cell_of_row w b j _ _ _ h]; simpa using hv) Try.underlying29 rfl sz_b3
  simpa using this
set_option maxHeartbeats 4000000 in
set_option maxRecDepth 100000 in
theorem l03Number_lit (d i : Nat) (hd : d = 2 ∨ d = 3) (hi : i < cnt d) (a b c : Nat) (ha : a = pim d i 0) (hb : b = pim d i 1) (hc : c = pim d i 2) (w : World) :
    Calls Try.prog 111 #[.int .i64 d, .agg #[.int .u8 (a : Int), .int .u8 (b : Int), .int .u8 (c : Int)]] w fun e w' => e = .returned (.int .i64 (i : Nat)) ∧ Below w.heap.size w w' := by
  have hS := hid ((St.start w).newBlk #[.int .u8 (a : Int), .int .u8 (b : Int), .int .u8 (c : Int)] 29)
  have hct := hid (fun W => l03Count_any d hd W)
  have hc6 : cnt d ≤ 6 := by rcases hd with rfl | rfl <;> decide
  have him := hid (fun k (hk : k < cnt d) W => (by have h := l03Images_any d k hd hk W; rw [row3] at h; exact h : Calls Try.prog 148 #[.int .i64 d, .int .i64 k] W fun e w' => e = .returned (.agg #[.int .u8 (pim d k 0 : Nat), .int .u8 (pim d k 1 : Nat), .int .u8 (pim d k 2 : Nat)]) ∧ Below W.heap.size W w'))
  have hab : a < 256 ∧ b < 256 ∧ c < 256 := ⟨ha ▸ pim_256 d i 0 hd hi (by omega), hb ▸ pim_256 d i 1 hd hi (by omega), hc ▸ pim_256 d i 2 hd hi (by omega)⟩
  have heq0 := hid (fun k (hk : k < cnt d) (r : Bool) (hr : Tells r (pim d k 0 = a ∧ pim d k 1 = b ∧ pim d k 2 = c)) W => eq_b3 W (pim d k 0) (pim d k 1) (pim d k 2) a b c ⟨pim_256 d k 0 hd hk (by omega), pim_256 d k 1 hd hk (by omega), pim_256 d k 2 hd hk (by omega)⟩ hab r hr)
  have hne := hid (fun k (hk : k < i) (h : pim d k 0 = a ∧ pim d k 1 = b ∧ pim d k 2 = c) => (show False from by
    have := pim_inj d k i hd (by omega) hi ⟨h.1.trans ha, h.2.1.trans hb, h.2.2.trans hc⟩; omega))
  have hye := hid (show pim d i 0 = a ∧ pim d i 1 = b ∧ pim d i 2 = c from ⟨ha.symm, hb.symm, hc.symm⟩)
  have hg := guard_b3
  clear ha hb hc hab
  generalize hC : cnt d = C at *
  have ew : IntKind.i64.wrap ((C : Int) - 1) = (C : Int) - 1 := IntWalk.i64_in _ (by omega)
  clear hC
  go_enter Try.func111, Try.ntmps111
  go_wp2
  go_loopw [5] (fun j wr => ∃ k : Nat, k ≤ i ∧ j = .int .i64 k ∧ St w.heap.size w [Asn.blk w.heap.size #[.int .u8 (a : Int), .int .u8 (b : Int), .int .u8 (c : Int)] 29] wr) (fun j _ => i - (intOf j).toNat)
  case atStart => exact ⟨0, Nat.zero_le _, rfl, hS.out⟩
  case round =>
    obtain ⟨k, hk, rfl, rS⟩ := hrel
    clear hS
    replace rS := hid rS
    have dk : decide ((k : Int) < 6) = true := decide_eq_true (by omega)
    have hkC : k < C := by omega
    have hik := hid (him.out k hkC)
    have dm : decide ((C : Int) - 1 < (k : Int)) = false := decide_eq_false (by omega)
    have hmin : ¬ (C : Int) - 1 < (k : Int) := by omega
    by_cases hlt : k < i
    · have heq := fun W => heq0.out k hkC false ⟨fun h => (by cases h), fun h => (hne.out k hlt h).elim⟩ W
      generalize pim d k 0 = a' at *
      generalize pim d k 1 = b' at *
      generalize pim d k 2 = c' at *
      go_upto_region 4 with (fail)
      replace rS := hid rS.out.drew
      refine wp_region_heldL (L := [(8, (fun w' : World => w'.heap[w.heap.size]? = some (.cells #[.int .u8 (a : Int), .int .u8 (b : Int), .int .u8 (c : Int)] 29 (0, 0))))]) (by kernel_rfl) (HeldL.cons (fun _ => rS.out.k0) HeldL.nil) (fun hHeld => ?_)
      generalize wr.drew = wa at *
      refine wpAnyL_take0 (i := 0) (v := ?_) rfl (by kernel_rfl) (by kernel_rfl) (by kernel_rfl) (by rfl) (fun _ _ _ h => h) (Or.inl ⟨by rfl, ?_⟩) (by assumption) ?_
      rotate_left
      · (intro W _; go_simp; (with_reducible rfl))
      intro hHeld'
      clear hHeld; have hHeld := hHeld'; clear hHeld'
      try simp only [Act.put, List.getElem_toArray, List.getElem_cons_succ, List.getElem_cons_zero, List.setIfInBounds_toArray, List.set_cons_zero, List.set_cons_succ]
      refine wpAnyL_take0 (i := 1) (v := ?_) rfl (by kernel_rfl) (by kernel_rfl) (by kernel_rfl) (by rfl) (fun _ _ _ h => h) (Or.inl ⟨by rfl, ?_⟩) (by assumption) ?_
      rotate_left
      · (intro W _; go_simp; (with_reducible rfl))
      intro hHeld'
      clear hHeld; have hHeld := hHeld'; clear hHeld'
      try simp only [Act.put, List.getElem_toArray, List.getElem_cons_succ, List.getElem_cons_zero, List.setIfInBounds_toArray, List.set_cons_zero, List.set_cons_succ]
      refine wpAnyL_take0 (i := 2) (v := ?_) rfl (by kernel_rfl) (by kernel_rfl) (by kernel_rfl) (by rfl) (fun _ _ _ h => h) (Or.inl ⟨by rfl, ?_⟩) (by assumption) ?_
      rotate_left
      · (intro W _; go_simp; (with_reducible rfl))
      intro hHeld'
      clear hHeld; have hHeld := hHeld'; clear hHeld'
      try simp only [Act.put, List.getElem_toArray, List.getElem_cons_succ, List.getElem_cons_zero, List.setIfInBounds_toArray, List.set_cons_zero, List.set_cons_succ]
      refine wpAnyL_takeP (i := 7) 8 [] (v := (.agg #[.int .u8 (a : Int), .int .u8 (b : Int), .int .u8 (c : Int)])) (fun w' : World => w'.heap[w.heap.size]? = some (.cells #[.int .u8 (a : Int), .int .u8 (b : Int), .int .u8 (c : Int)] 29 (0, 0))) rfl (by kernel_rfl) (by kernel_rfl) (by kernel_rfl) (by rfl) (by kernel_rfl) (by simp) (fun _ _ _ h => h) (Or.inl ⟨by rfl, ?_⟩) (by assumption) ?_
      · (intro W hW; exact exec_load _ rfl rfl (load_b3 hW))
      intro hHeld'
      clear hHeld; have hHeld := hHeld'; clear hHeld'
      try simp only [Act.put, List.getElem_toArray, List.getElem_cons_succ, List.getElem_cons_zero, List.setIfInBounds_toArray, List.set_cons_zero, List.set_cons_succ]
      refine wpAnyL_ready (rs := [3]) (by kernel_rfl) (by simp) ?_
      refine AllReadyL.cons rfl (fun K hK => ?_) AllReadyL.nil
      go_simp
      (with_reducible refine (hct.out _).mono ?_)
      rintro e w3 ⟨rfl, rfl⟩
      go_simp
      refine hK.out _ _ (HeldL.cons (fun _ => rS.out.k0) HeldL.nil) (fun hHeld' => ?_)
      clear hK K hHeld; have hHeld := hHeld'; clear hHeld'
      try simp only [Act.put, List.getElem_toArray, List.getElem_cons_succ, List.getElem_cons_zero, List.setIfInBounds_toArray, List.set_cons_zero, List.set_cons_succ]
      refine wpAnyL_take0 (i := 4) (v := ?_) rfl (by kernel_rfl) (by kernel_rfl) (by kernel_rfl) (by rfl) (fun _ _ _ h => h) (Or.inl ⟨by rfl, ?_⟩) (by assumption) ?_
      rotate_left
      · (intro W _; go_simp; (with_reducible rfl))
      intro hHeld'
      clear hHeld; have hHeld := hHeld'; clear hHeld'
      try simp only [Act.put, List.getElem_toArray, List.getElem_cons_succ, List.getElem_cons_zero, List.setIfInBounds_toArray, List.set_cons_zero, List.set_cons_succ]
      refine wpAnyL_take0 (i := 5) (v := (.int .i64 (k : Nat))) rfl (by kernel_rfl) (by kernel_rfl) (by kernel_rfl) (by rfl) (fun _ _ _ h => h) (Or.inl ⟨by rfl, ?_⟩) (by assumption) ?_
      · (intro W _; go_simp)
      intro hHeld'
      clear hHeld; have hHeld := hHeld'; clear hHeld'
      try simp only [Act.put, List.getElem_toArray, List.getElem_cons_succ, List.getElem_cons_zero, List.setIfInBounds_toArray, List.set_cons_zero, List.set_cons_succ]
      refine wpAnyL_ready (rs := [6]) (by kernel_rfl) (by simp) ?_
      refine AllReadyL.cons rfl (fun K hK => ?_) AllReadyL.nil
      go_simp
      (with_reducible refine (hik.out _).mono ?_)
      rintro e w4 ⟨rfl, hb⟩
      replace rS := hid (rS.out.call hb)
      clear hb
      go_simp
      refine hK.out _ _ (HeldL.cons (fun _ => rS.out.k0) HeldL.nil) (fun hHeld' => ?_)
      clear hK K hHeld; have hHeld := hHeld'; clear hHeld'
      try simp only [Act.put, List.getElem_toArray, List.getElem_cons_succ, List.getElem_cons_zero, List.setIfInBounds_toArray, List.set_cons_zero, List.set_cons_succ]
      refine wpAnyL_ready (rs := [8]) (by kernel_rfl) (by simp) ?_
      refine AllReadyL.cons rfl (fun K hK => ?_) AllReadyL.nil
      go_simp
      refine hK.out _ _ (HeldL.cons (fun h => absurd h (by decide +kernel)) HeldL.nil) (fun hHeld' => ?_)
      clear hK K hHeld; have hHeld := hHeld'; clear hHeld'
      try simp only [Act.put, List.getElem_toArray, List.getElem_cons_succ, List.getElem_cons_zero, List.setIfInBounds_toArray, List.set_cons_zero, List.set_cons_succ]
      refine wpAnyL_done (by kernel_rfl) ?_ _
      go_wp2
      go_roundw
      case rel => exact ⟨k + 1, by omega, by go_num, rS.out⟩
      case measure => simp [intOf]; omega
    · obtain rfl : k = i := by omega
      have heq := fun W => heq0.out k hkC true ⟨fun _ => hye.out, fun _ => rfl⟩ W
      clear hye
      generalize pim d k 0 = a' at *
      generalize pim d k 1 = b' at *
      generalize pim d k 2 = c' at *
      go_upto_region 4 with (fail)
      replace rS := hid rS.out.drew
      refine wp_region_heldL (L := [(8, (fun w' : World => w'.heap[w.heap.size]? = some (.cells #[.int .u8 (a : Int), .int .u8 (b : Int), .int .u8 (c : Int)] 29 (0, 0))))]) (by kernel_rfl) (HeldL.cons (fun _ => rS.out.k0) HeldL.nil) (fun hHeld => ?_)
      generalize wr.drew = wa at *
      refine wpAnyL_take0 (i := 0) (v := ?_) rfl (by kernel_rfl) (by kernel_rfl) (by kernel_rfl) (by rfl) (fun _ _ _ h => h) (Or.inl ⟨by rfl, ?_⟩) (by assumption) ?_
      rotate_left
      · (intro W _; go_simp; (with_reducible rfl))
      intro hHeld'
      clear hHeld; have hHeld := hHeld'; clear hHeld'
      try simp only [Act.put, List.getElem_toArray, List.getElem_cons_succ, List.getElem_cons_zero, List.setIfInBounds_toArray, List.set_cons_zero, List.set_cons_succ]
      refine wpAnyL_take0 (i := 1) (v := ?_) rfl (by kernel_rfl) (by kernel_rfl) (by kernel_rfl) (by rfl) (fun _ _ _ h => h) (Or.inl ⟨by rfl, ?_⟩) (by assumption) ?_
      rotate_left
      · (intro W _; go_simp; (with_reducible rfl))
      intro hHeld'
      clear hHeld; have hHeld := hHeld'; clear hHeld'
      try simp only [Act.put, List.getElem_toArray, List.getElem_cons_succ, List.getElem_cons_zero, List.setIfInBounds_toArray, List.set_cons_zero, List.set_cons_succ]
      refine wpAnyL_take0 (i := 2) (v := ?_) rfl (by kernel_rfl) (by kernel_rfl) (by kernel_rfl) (by rfl) (fun _ _ _ h => h) (Or.inl ⟨by rfl, ?_⟩) (by assumption) ?_
      rotate_left
      · (intro W _; go_simp; (with_reducible rfl))
      intro hHeld'
      clear hHeld; have hHeld := hHeld'; clear hHeld'
      try simp only [Act.put, List.getElem_toArray, List.getElem_cons_succ, List.getElem_cons_zero, List.setIfInBounds_toArray, List.set_cons_zero, List.set_cons_succ]
      refine wpAnyL_takeP (i := 7) 8 [] (v := (.agg #[.int .u8 (a : Int), .int .u8 (b : Int), .int .u8 (c : Int)])) (fun w' : World => w'.heap[w.heap.size]? = some (.cells #[.int .u8 (a : Int), .int .u8 (b : Int), .int .u8 (c : Int)] 29 (0, 0))) rfl (by kernel_rfl) (by kernel_rfl) (by kernel_rfl) (by rfl) (by kernel_rfl) (by simp) (fun _ _ _ h => h) (Or.inl ⟨by rfl, ?_⟩) (by assumption) ?_
      · (intro W hW; exact exec_load _ rfl rfl (load_b3 hW))
      intro hHeld'
      clear hHeld; have hHeld := hHeld'; clear hHeld'
      try simp only [Act.put, List.getElem_toArray, List.getElem_cons_succ, List.getElem_cons_zero, List.setIfInBounds_toArray, List.set_cons_zero, List.set_cons_succ]
      refine wpAnyL_ready (rs := [3]) (by kernel_rfl) (by simp) ?_
      refine AllReadyL.cons rfl (fun K hK => ?_) AllReadyL.nil
      go_simp
      (with_reducible refine (hct.out _).mono ?_)
      rintro e w3 ⟨rfl, rfl⟩
      go_simp
      refine hK.out _ _ (HeldL.cons (fun _ => rS.out.k0) HeldL.nil) (fun hHeld' => ?_)
      clear hK K hHeld; have hHeld := hHeld'; clear hHeld'
      try simp only [Act.put, List.getElem_toArray, List.getElem_cons_succ, List.getElem_cons_zero, List.setIfInBounds_toArray, List.set_cons_zero, List.set_cons_succ]
      refine wpAnyL_take0 (i := 4) (v := ?_) rfl (by kernel_rfl) (by kernel_rfl) (by kernel_rfl) (by rfl) (fun _ _ _ h => h) (Or.inl ⟨by rfl, ?_⟩) (by assumption) ?_
      rotate_left
      · (intro W _; go_simp; (with_reducible rfl))
      intro hHeld'
      clear hHeld; have hHeld := hHeld'; clear hHeld'
      try simp only [Act.put, List.getElem_toArray, List.getElem_cons_succ, List.getElem_cons_zero, List.setIfInBounds_toArray, List.set_cons_zero, List.set_cons_succ]
      refine wpAnyL_take0 (i := 5) (v := (.int .i64 (k : Nat))) rfl (by kernel_rfl) (by kernel_rfl) (by kernel_rfl) (by rfl) (fun _ _ _ h => h) (Or.inl ⟨by rfl, ?_⟩) (by assumption) ?_
      · (intro W _; go_simp)
      intro hHeld'
      clear hHeld; have hHeld := hHeld'; clear hHeld'
      try simp only [Act.put, List.getElem_toArray, List.getElem_cons_succ, List.getElem_cons_zero, List.setIfInBounds_toArray, List.set_cons_zero, List.set_cons_succ]
      refine wpAnyL_ready (rs := [6]) (by kernel_rfl) (by simp) ?_
      refine AllReadyL.cons rfl (fun K hK => ?_) AllReadyL.nil
      go_simp
      (with_reducible refine (hik.out _).mono ?_)
      rintro e w4 ⟨rfl, hb⟩
      replace rS := hid (rS.out.call hb)
      clear hb
      go_simp
      refine hK.out _ _ (HeldL.cons (fun _ => rS.out.k0) HeldL.nil) (fun hHeld' => ?_)
      clear hK K hHeld; have hHeld := hHeld'; clear hHeld'
      try simp only [Act.put, List.getElem_toArray, List.getElem_cons_succ, List.getElem_cons_zero, List.setIfInBounds_toArray, List.set_cons_zero, List.set_cons_succ]
      refine wpAnyL_ready (rs := [8]) (by kernel_rfl) (by simp) ?_
      refine AllReadyL.cons rfl (fun K hK => ?_) AllReadyL.nil
      go_simp
      refine hK.out _ _ (HeldL.cons (fun h => absurd h (by decide +kernel)) HeldL.nil) (fun hHeld' => ?_)
      clear hK K hHeld; have hHeld := hHeld'; clear hHeld'
      try simp only [Act.put, List.getElem_toArray, List.getElem_cons_succ, List.getElem_cons_zero, List.setIfInBounds_toArray, List.set_cons_zero, List.set_cons_succ]
      refine wpAnyL_done (by kernel_rfl) ?_ _
      go_wp2_with (first
        | (go_at_call 149; (with_reducible refine (hct.out _).mono ?_); rintro e w' ⟨rfl, rfl⟩))
      go_ret
      exact ⟨rfl, rS.out.bel⟩
end Go.Proofs.Ythempofohidlnaa

/- PortraitOf: what the reference answers. -/
namespace Go.Proofs.Ythempofohidlnaa
open Go.RowKit
set_option linter.unusedVariables false
set_option linter.unusedSimpArgs false
-- @LONG

/-- A row of a machine is a permutation with a number. -/
theorem pnm_two (a b : Nat) (ha : a < 2) (hb : b < 2) (h : a ≠ b) : ∃ i, i < cnt 2 ∧ pnm [(a : Int), (b : Int)] = (i : Nat) ∧ pim 2 i 0 = a ∧ pim 2 i 1 = b ∧ pim 2 i 2 = 0 := by
  have h1 : (a = 0 ∧ b = 1) ∨ (a = 1 ∧ b = 0) := by omega
  rcases h1 with ⟨rfl, rfl⟩ | ⟨rfl, rfl⟩
  · exact ⟨0, by decide, by decide, by decide, by decide, by decide⟩
  · exact ⟨1, by decide, by decide, by decide, by decide, by decide⟩
theorem pnm_three (a b c : Nat) (ha : a < 3) (hb : b < 3) (hc : c < 3) (h : a ≠ b) (h2 : a ≠ c) (h3 : b ≠ c) : ∃ i, i < cnt 3 ∧ pnm [(a : Int), (b : Int), (c : Int)] = (i : Nat) ∧ pim 3 i 0 = a ∧ pim 3 i 1 = b ∧ pim 3 i 2 = c := by
  have h1 : (a = 0 ∧ b = 1 ∧ c = 2) ∨ (a = 0 ∧ b = 2 ∧ c = 1) ∨ (a = 1 ∧ b = 0 ∧ c = 2) ∨ (a = 1 ∧ b = 2 ∧ c = 0) ∨ (a = 2 ∧ b = 0 ∧ c = 1) ∨ (a = 2 ∧ b = 1 ∧ c = 0) := by omega
  rcases h1 with ⟨rfl, rfl, rfl⟩ | ⟨rfl, rfl, rfl⟩ | ⟨rfl, rfl, rfl⟩ | ⟨rfl, rfl, rfl⟩ | ⟨rfl, rfl, rfl⟩ | ⟨rfl, rfl, rfl⟩
  · exact ⟨0, by decide, by decide, by decide, by decide, by decide⟩
  · exact ⟨1, by decide, by decide, by decide, by decide, by decide⟩
  · exact ⟨2, by decide, by decide, by decide, by decide, by decide⟩
  · exact ⟨3, by decide, by decide, by decide, by decide, by decide⟩
  · exact ⟨4, by decide, by decide, by decide, by decide, by decide⟩
  · exact ⟨5, by decide, by decide, by decide, by decide, by decide⟩
theorem pnm_row {m : Mach} {l s : Nat} (gd : Good m l s) {q : Nat} (hq : q < s) : ∃ i, i < cnt l ∧ pnm (rowM m l q) = (i : Nat) ∧ pim l i 0 = m.ot (q * 3 + 0) ∧ pim l i 1 = m.ot (q * 3 + 1) ∧ pim l i 2 = m.ot (q * 3 + 2) := by
  have l2 := gd.l2
  have l3 := gd.l3
  have s16 := gd.s16
  have hl : l = 2 ∨ l = 3 := by omega
  rcases hl with rfl | rfl
  · obtain ⟨i, h1, h2, h3, h4, h5⟩ := pnm_two (m.ot (q * 3 + 0)) (m.ot (q * 3 + 1)) (gd.ot q 0 hq (by omega)) (gd.ot q 1 hq (by omega)) (gd.inj q hq 0 1 (by omega) (by omega))
    exact ⟨i, h1, h2, h3, h4, h5.trans (gd.z q 2 (by omega) (by omega) (by omega)).2.symm⟩
  · exact pnm_three (m.ot (q * 3 + 0)) (m.ot (q * 3 + 1)) (m.ot (q * 3 + 2)) (gd.ot q 0 hq (by omega)) (gd.ot q 1 hq (by omega)) (gd.ot q 2 hq (by omega)) (gd.inj q hq 0 1 (by omega) (by omega)) (gd.inj q hq 0 2 (by omega) (by omega)) (gd.inj q hq 1 2 (by omega) (by omega))
set_option maxHeartbeats 8000000 in
set_option maxRecDepth 100000 in
theorem l03Of_any (w : World) (m : Mach) (l s : Nat) (gd : Good m l s) (q : Nat) (hq : q < s) (n : Nat) (hn : n ≤ 4) :
    Calls Try.prog 59 #[.agg (mcells m), .int .i64 q, .int .i64 n] w fun e w' => ∃ v, e = .returned v ∧ Own w' w.heap.size 2 v (ints (prtM m l q n)) ∧ Below w.heap.size w w' := by
  have l2 := gd.l2
  have l3 := gd.l3
  have hd : l = 2 ∨ l = 3 := by omega
  have s16 := gd.s16
  have gL := hid gd.L
  have hS := ((St.start w).newMB m 34).newOwn [] 2 (by simp)
  simp only [heap_alloc_size, List.length_nil] at hS
  replace hS := hid hS
  have hpo := hid (fun k (hk : k < n) W => l01Power_any l k (by omega) (by have := pw5 (n := k) hd (by omega); omega) (by omega) W)
  have hwo := hid (fun k j (hk : k < n) (hj : j < pw l k) W => l01WordOf_any l (by omega) (by omega) k j (by omega) (by have := pw5 (n := k) hd (by omega); omega) W)
  have hac := hid (fun k j (hk : k < n) W => l01Act_any W m l s gd q hq (wrd l k j) (wrd_lt l (by omega) k j) (by rw [wrd_length]; omega))
  have hsl := hid (fun k j => sec_lt gd (wrd l k j) q hq (wrd_lt l (by omega) k j))
  have hnu := hid (fun r (hr : r < s) => (show ∃ i : Nat, pnm (rowM m l r) = i ∧ ∀ W, Calls Try.prog 111 #[.int .i64 l, .agg #[.int .u8 (m.ot (r * 3 + 0) : Nat), .int .u8 (m.ot (r * 3 + 1) : Nat), .int .u8 (m.ot (r * 3 + 2) : Nat)]] W fun e w' => e = .returned (.int .i64 (i : Nat)) ∧ Below W.heap.size W w' from by
    obtain ⟨i, hi, h1, h2, h3, h4⟩ := pnm_row gd hr
    exact ⟨i, h1, fun W => l03Number_lit l i hd hi _ _ _ h2.symm h3.symm h4.symm W⟩))
  have hrg := hid (fun (W : World) (hW : MB W 34 w.heap.size m) r (hr : r < s) => (show W.rangeAt w.heap.size (50 + r * 3) [.int .u8 (m.ot (r * 3 + 0) : Nat), .int .u8 (m.ot (r * 3 + 1) : Nat), .int .u8 (m.ot (r * 3 + 2) : Nat)] from fun j v hv => by
    have hj : j < 3 := (List.getElem?_eq_some_iff.1 hv).1
    have h := hW.cot r j (by omega) hj
    rw [h]
    have : j = 0 ∨ j = 1 ∨ j = 2 := by omega
    rcases this with rfl | rfl | rfl <;> simpa using hv))
  obtain ⟨F, hF⟩ : ∃ F : List Nat → Int, F = fun u => pnm (rowM m l (sec m q u)) := ⟨_, rfl⟩
  have hFe := hid (fun k j => (show F (wrd l k j) = pnm (rowM m l (sec m q (wrd l k j))) by rw [hF]))
  have hpr := hid (show prtM m l q n = byL l F n by rw [hF]; rfl)
  have hsn := hid (fun k j => byP_snoc l F k j)
  have hbl := hid (fun k j => byP_length l F k j)
  have hend := hid (fun k => byP_full l F k)
  have hz0 := hid (fun k => byP_zero l F k)
  have hb00 := hid (show byL l F 0 = [] from rfl)
  have hp5 := hid (fun k (hk : k < n) => pw5 (n := k) hd (by omega))
  have hst := hid (fun k (hk : k < n) => (start_le hd (show k ≤ 4 by omega)).1)
  rw [hpr.out]
  clear hF hpr hd
  replace gd := hid gd
  generalize byL l F = BL at *
  generalize byP l F = BP at *
  go_enter Try.func59, Try.ntmps59
  go_wp2
  go_loopw [7, 8] (fun o i wr => ∃ k : Nat, k ≤ n ∧ i = .int .i64 k ∧ St w.heap.size w [Asn.own w.heap.size 2 o (ints (BL k)), Asn.mb 34 w.heap.size m] wr) (fun _ i _ => n - (intOf i).toNat)
  case atStart => exact ⟨0, Nat.zero_le _, rfl, by rw [hb00.out]; exact hS.out⟩
  case round =>
    obtain ⟨k, hk, rfl, rS⟩ := hrel
    clear hS
    replace rS := hid rS
    by_cases hlk : k < n
    · have dk : decide ((k : Int) < (n : Int)) = true := decide_eq_true (by omega)
      have hpk := hid (hpo.out k hlk)
      have hwk := hid (fun j => hwo.out k j hlk)
      have hak := hid (fun j => hac.out k j hlk)
      have hsk := hid (fun j => hsl.out k j)
      have hM5 := hp5.out k hlk
      have hs4 := hst.out k hlk
      have hek := hid (hend.out k)
      rw [← hz0.out] at rS
      generalize pw l k = M at *
      go_wp2
      go_loopw [7, 9] (fun o i wr => ∃ j : Nat, j ≤ M ∧ i = .int .i64 j ∧ St w.heap.size w [Asn.own w.heap.size 2 o (ints (BP k j)), Asn.mb 34 w.heap.size m] wr) (fun _ i _ => M - (intOf i).toNat)
      case atStart => exact ⟨0, Nat.zero_le _, rfl, rS.out⟩
      case round =>
        obtain ⟨j, hj, rfl, rS⟩ := hrel
        have cL := rS.m1.cL
        rw [gL.out] at cL
        replace rS := hid rS
        by_cases hlj : j < M
        · have dj : decide ((j : Int) < (M : Int)) = true := decide_eq_true (by omega)
          have hwj := hid (hwk.out j hlj)
          have haj := hid (hak.out j)
          have hr := hsk.out j
          have hsn2 := hid (hsn.out k j)
          have hil := hid (ints_length (BP k j))
          have hbl2 := hid (hbl.out k j)
          obtain ⟨i, hi, hnc⟩ := hnu.out _ hr
          have hfi := hid ((hFe.out k j).trans hi)
          have hrj := hid (fun W hW => hrg.out W hW _ hr)
          replace hnc := hid hnc
          clear hi
          generalize F (wrd l k j) = fu at *
          generalize sec m q (wrd l k j) = r at *
          generalize img m q (wrd l k j) = im at *
          generalize wstr (wrd l k j) = su at *
          generalize m.ot (r * 3 + 0) = o0 at *
          generalize m.ot (r * 3 + 1) = o1 at *
          generalize m.ot (r * 3 + 2) = o2 at *
          go_upto_region 8 with (first
            | (go_at_call 49; (with_reducible refine (hpk.out _).mono ?_); rintro e w' ⟨rfl, rfl⟩))
          replace rS := hid rS.out.drew
          refine wp_region_heldL (L := [(7, (fun w' : World => MB w' 34 w.heap.size m))]) (by kernel_rfl) (HeldL.cons (fun _ => rS.out.m1) HeldL.nil) (fun hHeld => ?_)
          generalize wr.drew = wa at *
          refine wpAnyL_takeP (i := 0) 7 [] (v := (.agg (mcells m))) (fun w' : World => MB w' 34 w.heap.size m) rfl (by kernel_rfl) (by kernel_rfl) (by kernel_rfl) (by rfl) (by kernel_rfl) (by simp) (fun _ _ _ h => h) (Or.inl ⟨by rfl, ?_⟩) (by assumption) ?_
          · (intro W hW; exact exec_load _ rfl rfl (load_run hW))
          intro hHeld'
          clear hHeld; have hHeld := hHeld'; clear hHeld'
          try simp only [Act.put, List.getElem_toArray, List.getElem_cons_succ, List.getElem_cons_zero, List.setIfInBounds_toArray, List.set_cons_zero, List.set_cons_succ]
          refine wpAnyL_take0 (i := 1) (v := ?_) rfl (by kernel_rfl) (by kernel_rfl) (by kernel_rfl) (by rfl) (fun _ _ _ h => h) (Or.inl ⟨by rfl, ?_⟩) (by assumption) ?_
          rotate_left
          · (intro W _; go_simp; (with_reducible rfl))
          intro hHeld'
          clear hHeld; have hHeld := hHeld'; clear hHeld'
          try simp only [Act.put, List.getElem_toArray, List.getElem_cons_succ, List.getElem_cons_zero, List.setIfInBounds_toArray, List.set_cons_zero, List.set_cons_succ]
          refine wpAnyL_take0 (i := 2) (v := ?_) rfl (by kernel_rfl) (by kernel_rfl) (by kernel_rfl) (by rfl) (fun _ _ _ h => h) (Or.inl ⟨by rfl, ?_⟩) (by assumption) ?_
          rotate_left
          · (intro W _; go_simp; (with_reducible rfl))
          intro hHeld'
          clear hHeld; have hHeld := hHeld'; clear hHeld'
          try simp only [Act.put, List.getElem_toArray, List.getElem_cons_succ, List.getElem_cons_zero, List.setIfInBounds_toArray, List.set_cons_zero, List.set_cons_succ]
          refine wpAnyL_takeP (i := 3) 7 [6] (v := (.int .i64 l)) (fun w' : World => MB w' 34 w.heap.size m) rfl (by kernel_rfl) (by kernel_rfl) (by kernel_rfl) (by rfl) (by kernel_rfl) (by simp) (fun _ _ _ h => h) (Or.inl ⟨by rfl, ?_⟩) (by assumption) ?_
          · (intro W hW; (have h := hW.cL; rw [gL.out] at h; go_simp))
          intro hHeld'
          clear hHeld; have hHeld := hHeld'; clear hHeld'
          try simp only [Act.put, List.getElem_toArray, List.getElem_cons_succ, List.getElem_cons_zero, List.setIfInBounds_toArray, List.set_cons_zero, List.set_cons_succ]
          refine wpAnyL_take0 (i := 4) (v := ?_) rfl (by kernel_rfl) (by kernel_rfl) (by kernel_rfl) (by rfl) (fun _ _ _ h => h) (Or.inl ⟨by rfl, ?_⟩) (by assumption) ?_
          rotate_left
          · (intro W _; go_simp; (with_reducible rfl))
          intro hHeld'
          clear hHeld; have hHeld := hHeld'; clear hHeld'
          try simp only [Act.put, List.getElem_toArray, List.getElem_cons_succ, List.getElem_cons_zero, List.setIfInBounds_toArray, List.set_cons_zero, List.set_cons_succ]
          refine wpAnyL_take0 (i := 5) (v := ?_) rfl (by kernel_rfl) (by kernel_rfl) (by kernel_rfl) (by rfl) (fun _ _ _ h => h) (Or.inl ⟨by rfl, ?_⟩) (by assumption) ?_
          rotate_left
          · (intro W _; go_simp; (with_reducible rfl))
          intro hHeld'
          clear hHeld; have hHeld := hHeld'; clear hHeld'
          try simp only [Act.put, List.getElem_toArray, List.getElem_cons_succ, List.getElem_cons_zero, List.setIfInBounds_toArray, List.set_cons_zero, List.set_cons_succ]
          refine wpAnyL_ready (rs := [6]) (by kernel_rfl) (by simp) ?_
          refine AllReadyL.cons rfl (fun K hK => ?_) AllReadyL.nil
          go_simp
          (with_reducible refine (hwj.out _).mono ?_)
          rintro e w3 ⟨rfl, hb⟩
          replace rS := hid (rS.out.call hb)
          clear hb cL
          go_simp
          refine hK.out _ _ (HeldL.cons (fun _ => rS.out.m1) HeldL.nil) (fun hHeld' => ?_)
          clear hK K hHeld; have hHeld := hHeld'; clear hHeld'
          try simp only [Act.put, List.getElem_toArray, List.getElem_cons_succ, List.getElem_cons_zero, List.setIfInBounds_toArray, List.set_cons_zero, List.set_cons_succ]
          refine wpAnyL_ready (rs := [7]) (by kernel_rfl) (by simp) ?_
          refine AllReadyL.cons rfl (fun K hK => ?_) AllReadyL.nil
          go_simp
          (with_reducible refine (haj.out _).mono ?_)
          rintro e w4 ⟨rfl, hb⟩
          replace rS := hid (rS.out.call hb)
          clear hb
          go_simp
          refine hK.out _ _ (HeldL.cons (fun h => absurd h (by decide +kernel)) HeldL.nil) (fun hHeld' => ?_)
          clear hK K hHeld; have hHeld := hHeld'; clear hHeld'
          try simp only [Act.put, List.getElem_toArray, List.getElem_cons_succ, List.getElem_cons_zero, List.setIfInBounds_toArray, List.set_cons_zero, List.set_cons_succ]
          refine wpAnyL_take0 (i := 8) (v := ?_) rfl (by kernel_rfl) (by kernel_rfl) (by kernel_rfl) (by rfl) (fun _ _ _ h => h) (Or.inl ⟨by rfl, ?_⟩) (by assumption) ?_
          rotate_left
          · (intro W _; go_simp; (with_reducible rfl))
          intro hHeld'
          clear hHeld; have hHeld := hHeld'; clear hHeld'
          try simp only [Act.put, List.getElem_toArray, List.getElem_cons_succ, List.getElem_cons_zero, List.setIfInBounds_toArray, List.set_cons_zero, List.set_cons_succ]
          refine wpAnyL_take0 (i := 9) (v := ?_) rfl (by kernel_rfl) (by kernel_rfl) (by kernel_rfl) (by rfl) (fun _ _ _ h => h) (Or.inl ⟨by rfl, ?_⟩) (by assumption) ?_
          rotate_left
          · (intro W _; go_simp; (with_reducible rfl))
          intro hHeld'
          clear hHeld; have hHeld := hHeld'; clear hHeld'
          try simp only [Act.put, List.getElem_toArray, List.getElem_cons_succ, List.getElem_cons_zero, List.setIfInBounds_toArray, List.set_cons_zero, List.set_cons_succ]
          refine wpAnyL_take0 (i := 10) (v := ?_) rfl (by kernel_rfl) (by kernel_rfl) (by kernel_rfl) (by rfl) (fun _ _ _ h => h) (Or.inl ⟨by rfl, ?_⟩) (by assumption) ?_
          rotate_left
          · (intro W _; go_simp; (with_reducible rfl))
          intro hHeld'
          clear hHeld; have hHeld := hHeld'; clear hHeld'
          try simp only [Act.put, List.getElem_toArray, List.getElem_cons_succ, List.getElem_cons_zero, List.setIfInBounds_toArray, List.set_cons_zero, List.set_cons_succ]
          refine wpAnyL_take0 (i := 11) (v := ?_) rfl (by kernel_rfl) (by kernel_rfl) (by kernel_rfl) (by rfl) (fun _ _ _ h => h) (Or.inl ⟨by rfl, ?_⟩) (by assumption) ?_
          rotate_left
          · (intro W _; go_simp; (with_reducible rfl))
          intro hHeld'
          clear hHeld; have hHeld := hHeld'; clear hHeld'
          try simp only [Act.put, List.getElem_toArray, List.getElem_cons_succ, List.getElem_cons_zero, List.setIfInBounds_toArray, List.set_cons_zero, List.set_cons_succ]
          refine wpAnyL_take0 (i := 12) (v := ?_) rfl (by kernel_rfl) (by kernel_rfl) (by kernel_rfl) (by rfl) (fun _ _ _ h => h) (Or.inl ⟨by rfl, ?_⟩) (by assumption) ?_
          rotate_left
          · (intro W _; go_simp; (with_reducible rfl))
          intro hHeld'
          clear hHeld; have hHeld := hHeld'; clear hHeld'
          try simp only [Act.put, List.getElem_toArray, List.getElem_cons_succ, List.getElem_cons_zero, List.setIfInBounds_toArray, List.set_cons_zero, List.set_cons_succ]
          refine wpAnyL_done (by kernel_rfl) ?_ _
          have r0 : (0 : Int) ≤ (r : Int) := Int.natCast_nonneg _
          have r1 : (r : Int) < 16 := by omega
          go_upto_region 9 with (fail)
          replace rS := hid rS.out.drew
          refine wp_region_heldL (L := [(9, (fun w' : World => MB w' 34 w.heap.size m))]) (by kernel_rfl) (HeldL.cons (fun _ => rS.out.m1) HeldL.nil) (fun hHeld => ?_)
          generalize w4.drew = wb at *
          refine wpAnyL_take0 (i := 0) (v := ?_) rfl (by kernel_rfl) (by kernel_rfl) (by kernel_rfl) (by rfl) (fun _ _ _ h => h) (Or.inl ⟨by rfl, ?_⟩) (by assumption) ?_
          rotate_left
          · (intro W _; go_simp; (with_reducible rfl))
          intro hHeld'
          clear hHeld; have hHeld := hHeld'; clear hHeld'
          try simp only [Act.put, List.getElem_toArray, List.getElem_cons_succ, List.getElem_cons_zero, List.setIfInBounds_toArray, List.set_cons_zero, List.set_cons_succ]
          refine wpAnyL_take0 (i := 1) (v := ?_) rfl (by kernel_rfl) (by kernel_rfl) (by kernel_rfl) (by rfl) (fun _ _ _ h => h) (Or.inl ⟨by rfl, ?_⟩) (by assumption) ?_
          rotate_left
          · (intro W _; go_simp; (with_reducible rfl))
          intro hHeld'
          clear hHeld; have hHeld := hHeld'; clear hHeld'
          try simp only [Act.put, List.getElem_toArray, List.getElem_cons_succ, List.getElem_cons_zero, List.setIfInBounds_toArray, List.set_cons_zero, List.set_cons_succ]
          refine wpAnyL_takeP (i := 2) 9 [7] (v := (.int .i64 l)) (fun w' : World => MB w' 34 w.heap.size m) rfl (by kernel_rfl) (by kernel_rfl) (by kernel_rfl) (by rfl) (by kernel_rfl) (by simp) (fun _ _ _ h => h) (Or.inl ⟨by rfl, ?_⟩) (by assumption) ?_
          · (intro W hW; (have h := hW.cL; rw [gL.out] at h; go_simp))
          intro hHeld'
          clear hHeld; have hHeld := hHeld'; clear hHeld'
          try simp only [Act.put, List.getElem_toArray, List.getElem_cons_succ, List.getElem_cons_zero, List.setIfInBounds_toArray, List.set_cons_zero, List.set_cons_succ]
          refine wpAnyL_take0 (i := 3) (v := ?_) rfl (by kernel_rfl) (by kernel_rfl) (by kernel_rfl) (by rfl) (fun _ _ _ h => h) (Or.inl ⟨by rfl, ?_⟩) (by assumption) ?_
          rotate_left
          · (intro W _; go_simp; (with_reducible rfl))
          intro hHeld'
          clear hHeld; have hHeld := hHeld'; clear hHeld'
          try simp only [Act.put, List.getElem_toArray, List.getElem_cons_succ, List.getElem_cons_zero, List.setIfInBounds_toArray, List.set_cons_zero, List.set_cons_succ]
          refine wpAnyL_take0 (i := 4) (v := ?_) rfl (by kernel_rfl) (by kernel_rfl) (by kernel_rfl) (by rfl) (fun _ _ _ h => h) (Or.inl ⟨by rfl, ?_⟩) (by assumption) ?_
          rotate_left
          · (intro W _; go_simp; (with_reducible rfl))
          intro hHeld'
          clear hHeld; have hHeld := hHeld'; clear hHeld'
          try simp only [Act.put, List.getElem_toArray, List.getElem_cons_succ, List.getElem_cons_zero, List.setIfInBounds_toArray, List.set_cons_zero, List.set_cons_succ]
          refine wpAnyL_take0 (i := 5) (v := ?_) rfl (by kernel_rfl) (by kernel_rfl) (by kernel_rfl) (by rfl) (fun _ _ _ h => h) (Or.inl ⟨by rfl, ?_⟩) (by assumption) ?_
          rotate_left
          · (intro W _; go_simp; (with_reducible rfl))
          intro hHeld'
          clear hHeld; have hHeld := hHeld'; clear hHeld'
          try simp only [Act.put, List.getElem_toArray, List.getElem_cons_succ, List.getElem_cons_zero, List.setIfInBounds_toArray, List.set_cons_zero, List.set_cons_succ]
          refine wpAnyL_takeP (i := 6) 9 [7] (v := (.agg #[.int .u8 (o0 : Nat), .int .u8 (o1 : Nat), .int .u8 (o2 : Nat)])) (fun w' : World => MB w' 34 w.heap.size m) rfl (by kernel_rfl) (by kernel_rfl) (by kernel_rfl) (by rfl) (by kernel_rfl) (by simp) (fun _ _ _ h => h) (Or.inl ⟨by rfl, ?_⟩) (by assumption) ?_
          · (intro W hW; exact exec_load _ rfl rfl (run_loadVar_mid (P := Try.prog) W w.heap.size (50 + r * 3) 29 _ _ (hrj.out W hW) Try.underlying29 rfl sz_b3))
          intro hHeld'
          clear hHeld; have hHeld := hHeld'; clear hHeld'
          try simp only [Act.put, List.getElem_toArray, List.getElem_cons_succ, List.getElem_cons_zero, List.setIfInBounds_toArray, List.set_cons_zero, List.set_cons_succ]
          refine wpAnyL_ready (rs := [7]) (by kernel_rfl) (by simp) ?_
          refine AllReadyL.cons rfl (fun K hK => ?_) AllReadyL.nil
          go_simp
          (with_reducible refine (hnc.out _).mono ?_)
          rintro e w5 ⟨rfl, hb⟩
          replace rS := hid (rS.out.call hb)
          clear hb
          go_simp
          refine hK.out _ _ (HeldL.cons (fun _ => rS.out.m1) HeldL.nil) (fun hHeld' => ?_)
          clear hK K hHeld; have hHeld := hHeld'; clear hHeld'
          try simp only [Act.put, List.getElem_toArray, List.getElem_cons_succ, List.getElem_cons_zero, List.setIfInBounds_toArray, List.set_cons_zero, List.set_cons_succ]
          refine wpAnyL_ready (rs := [8]) (by kernel_rfl) (by simp) ?_
          refine AllReadyL.cons rfl (fun K hK => ?_) AllReadyL.nil
          go_simp
          replace rS := hid (rS.out.newBlk #[.int .i64 (i : Nat)] 2)
          generalize w5.heap.size = bx at *
          generalize w5.alloc (.cells #[.int .i64 (i : Nat)] 2) = w6 at *
          refine hK.out _ _ (HeldL.cons (fun _ => rS.out.m2) HeldL.nil) (fun hHeld' => ?_)
          clear hK K hHeld; have hHeld := hHeld'; clear hHeld'
          try simp only [Act.put, List.getElem_toArray, List.getElem_cons_succ, List.getElem_cons_zero, List.setIfInBounds_toArray, List.set_cons_zero, List.set_cons_succ]
          refine wpAnyL_ready (rs := [9]) (by kernel_rfl) (by simp) ?_
          refine AllReadyL.cons rfl (fun K hK => ?_) AllReadyL.nil
          refine St.step1 22 2 2 (.int .i64 0) 8 Try.underlying22 info_i64 rfl (by omega) rfl _ _ rfl _ _ rfl rS.out.f1 rfl rfl (start l k + j) (by rw [hil.out, hbl2.out]) (by omega) ?_
          intro gn cn w7 rS'
          replace rS := hid rS'.f1.drop
          clear rS'
          refine hK.out _ _ (HeldL.cons (fun h => absurd h (by decide +kernel)) HeldL.nil) (fun hHeld' => ?_)
          clear hK K hHeld; have hHeld := hHeld'; clear hHeld'
          try simp only [Act.put, List.getElem_toArray, List.getElem_cons_succ, List.getElem_cons_zero, List.setIfInBounds_toArray, List.set_cons_zero, List.set_cons_succ]
          refine wpAnyL_take0 (i := 10) (v := ?_) rfl (by kernel_rfl) (by kernel_rfl) (by kernel_rfl) (by rfl) (fun _ _ _ h => h) (Or.inl ⟨by rfl, ?_⟩) (by assumption) ?_
          rotate_left
          · (intro W _; go_simp; (with_reducible rfl))
          intro hHeld'
          clear hHeld; have hHeld := hHeld'; clear hHeld'
          try simp only [Act.put, List.getElem_toArray, List.getElem_cons_succ, List.getElem_cons_zero, List.setIfInBounds_toArray, List.set_cons_zero, List.set_cons_succ]
          refine wpAnyL_done (by kernel_rfl) ?_ _
          rw [← ints_snoc, ← hfi.out, ← hsn2.out] at rS
          go_wp2
          go_roundw
          case rel => exact ⟨j + 1, by omega, by go_num, rS.out⟩
          case measure => simp [intOf]; omega
        · obtain rfl : j = M := by omega
          have dj : decide ((j : Int) < (j : Int)) = false := decide_eq_false (by omega)
          rw [hek.out] at rS
          go_wp2_with (first
            | (go_at_call 49; (with_reducible refine (hpk.out _).mono ?_); rintro e w' ⟨rfl, rfl⟩))
          go_roundw
          case rel => exact ⟨k + 1, by omega, by go_num, rS.out⟩
          case measure => simp [intOf]; omega
    · obtain rfl : k = n := by omega
      have dk : decide ((k : Int) < (k : Int)) = false := decide_eq_false (by omega)
      go_wp2
      go_ret
      exact ⟨_, rfl, rS.out.o0, rS.out.bel⟩
set_option maxHeartbeats 4000000 in
set_option maxRecDepth 4000 in
theorem specPof_any (w : World) (m : Mach) (hk : m.Ok) (q n : Int) :
    Calls Try.prog 21 #[.agg (mcells m), .int .i64 q, .int .i64 n] w fun e w' => ∃ v', e = .returned (.tuple #[v', .int .i64 (pofAns m q n).2]) ∧ Own w' w.heap.size 2 v' (ints (pofAns m q n).1) ∧ Below w.heap.size w w' := by
  have hS := hid ((St.start w).newMB m 34)
  by_cases hm : IsM m
  · have hi := hid (fun W => l01Is_any W m hk true ⟨fun _ => hm, fun _ => rfl⟩)
    obtain ⟨l, s, gd⟩ := hm.good
    have gS := hid gd.S
    have s16 := gd.s16
    have ew : IntKind.i64.wrap ((s : Int) - 1) = (s : Int) - 1 := IntWalk.i64_in _ (by omega)
    have hq1 := hid (fun W => l01In_any q 0 ((s : Int) - 1) (decide (0 ≤ q ∧ q ≤ (s : Int) - 1)) rfl W)
    have hn1 := hid (fun W => l01In_any n 1 4 (decide (1 ≤ n ∧ n ≤ 4)) rfl W)
    rcases codeI1 m q with ⟨hc, h⟩ | ⟨hc, _, h⟩ | ⟨hc, l', s', k, gd', rfl, hks⟩
    · exact absurd hm h
    · rw [pofAns_c hc (by decide)]
      rw [gd.S] at h
      rw [decide_eq_false (by omega)] at hq1
      clear h hc
      replace hk := hid hk; replace gd := hid gd
      go_enter Try.func21, Try.ntmps21
      go_wp2_with (first
        | ((with_reducible refine gate (N := 9) rfl ?_); refine load_mach rfl _ rfl w.heap.size rfl m hS.out.m0 ?_)
        | ((with_reducible refine gate (N := 24) rfl ?_); refine load_mach rfl _ rfl w.heap.size rfl m hS.out.m0 ?_)
        | (go_at_call 57; (with_reducible refine (hi.out _).mono ?_); rintro e w1 ⟨rfl, hb⟩; replace hS := hid (hS.out.call hb); have cS := hS.out.m0.cS; rw [gS.out] at cS; clear hb)
        | (go_at_call 58; (first | (with_reducible refine (hq1.out _).mono ?_) | (with_reducible refine (hn1.out _).mono ?_)); rintro e w2 ⟨rfl, rfl⟩)
        | (go_at_call 59; (with_reducible refine (hof.out _).mono ?_); rintro e w3 ⟨v3, rfl, hO, hb⟩; replace hS := hid (hS.out.callOwn hb hO); clear hO hb cS))
      go_ret2
      exact ⟨_, rfl, Own.nil _ _ _, hS.out.bel⟩
    · obtain ⟨rfl, rfl⟩ := good_uniq gd gd'
      rw [decide_eq_true (by omega)] at hq1
      by_cases hn : 1 ≤ n ∧ n ≤ 4
      · obtain ⟨n, rfl⟩ := Int.eq_ofNat_of_zero_le (show 0 ≤ n by omega)
        rw [pofAns_0 gd hc (by omega)]
        rw [decide_eq_true hn] at hn1
        have hof := hid (fun W => l03Of_any W m _ _ gd k hks n (by omega))
        clear hc hn
        replace hk := hid hk; replace gd := hid gd
        go_enter Try.func21, Try.ntmps21
        go_wp2_with (first
          | ((with_reducible refine gate (N := 9) rfl ?_); refine load_mach rfl _ rfl w.heap.size rfl m hS.out.m0 ?_)
          | ((with_reducible refine gate (N := 24) rfl ?_); refine load_mach rfl _ rfl w.heap.size rfl m hS.out.m0 ?_)
          | (go_at_call 57; (with_reducible refine (hi.out _).mono ?_); rintro e w1 ⟨rfl, hb⟩; replace hS := hid (hS.out.call hb); have cS := hS.out.m0.cS; rw [gS.out] at cS; clear hb)
          | (go_at_call 58; (first | (with_reducible refine (hq1.out _).mono ?_) | (with_reducible refine (hn1.out _).mono ?_)); rintro e w2 ⟨rfl, rfl⟩)
          | (go_at_call 59; (with_reducible refine (hof.out _).mono ?_); rintro e w3 ⟨v3, rfl, hO, hb⟩; replace hS := hid (hS.out.callOwn hb hO); clear hO hb cS))
        go_ret2
        exact ⟨_, rfl, hS.out.o0, hS.out.bel⟩
      · rw [pofAns_2 hc hn]
        rw [decide_eq_false hn] at hn1
        clear hc hn
        replace hk := hid hk; replace gd := hid gd
        go_enter Try.func21, Try.ntmps21
        go_wp2_with (first
          | ((with_reducible refine gate (N := 9) rfl ?_); refine load_mach rfl _ rfl w.heap.size rfl m hS.out.m0 ?_)
          | ((with_reducible refine gate (N := 24) rfl ?_); refine load_mach rfl _ rfl w.heap.size rfl m hS.out.m0 ?_)
          | (go_at_call 57; (with_reducible refine (hi.out _).mono ?_); rintro e w1 ⟨rfl, hb⟩; replace hS := hid (hS.out.call hb); have cS := hS.out.m0.cS; rw [gS.out] at cS; clear hb)
          | (go_at_call 58; (first | (with_reducible refine (hq1.out _).mono ?_) | (with_reducible refine (hn1.out _).mono ?_)); rintro e w2 ⟨rfl, rfl⟩)
          | (go_at_call 59; (with_reducible refine (hof.out _).mono ?_); rintro e w3 ⟨v3, rfl, hO, hb⟩; replace hS := hid (hS.out.callOwn hb hO); clear hO hb cS))
        go_ret2
        exact ⟨_, rfl, Own.nil _ _ _, hS.out.bel⟩
  · have hi := hid (fun W => l01Is_any W m hk false ⟨fun h => (by cases h), fun h => absurd h hm⟩)
    have hc : codeI m { data := #[] } [q] = 1 := by
      rcases codeI1 m q with ⟨hc, _⟩ | ⟨_, h, _⟩ | ⟨_, l, s, k, gd, _⟩
      · exact hc
      · exact absurd h hm
      · exact absurd gd.isM hm
    rw [pofAns_c hc (by decide)]
    clear hc
    replace hk := hid hk
    go_enter Try.func21, Try.ntmps21
    go_wp2_with (first
      | ((with_reducible refine gate (N := 9) rfl ?_); refine load_mach rfl _ rfl w.heap.size rfl m hS.out.m0 ?_)
      | (go_at_call 57; (with_reducible refine (hi.out _).mono ?_); rintro e w1 ⟨rfl, hb⟩; replace hS := hid (hS.out.call hb); clear hb))
    go_ret2
    exact ⟨_, rfl, Own.nil _ _ _, hS.out.bel⟩
end Go.Proofs.Ythempofohidlnaa

/- PortraitOf: the law. -/
namespace Go.Proofs.Ythempofohidlnaa
open Go.RowKit
set_option linter.unusedVariables false
set_option linter.unusedSimpArgs false

theorem pofAns_len (m : Mach) (q n : Int) : (pofAns m q n).1.length ≤ 40 := by
  rcases codeI1 m q with ⟨hc, _⟩ | ⟨hc, _⟩ | ⟨hc, l, s, k, gd, rfl, _⟩
  · rw [pofAns_c hc (by decide)]; exact Nat.zero_le _
  · rw [pofAns_c hc (by decide)]; exact Nat.zero_le _
  · by_cases hn : 1 ≤ n ∧ n ≤ 4
    · obtain ⟨n, rfl⟩ := Int.eq_ofNat_of_zero_le (show 0 ≤ n by omega)
      rw [pofAns_0 gd hc (by omega)]
      show (byL _ _ _).length ≤ 40
      rw [byL_length]
      exact (start_le (by have := gd.l2; have := gd.l3; omega) (by omega)).1
    · rw [pofAns_2 hc hn]; exact Nat.zero_le _
set_option maxHeartbeats 8000000 in
set_option maxRecDepth 100000 in
theorem portraitOf_law (w : World) (m : Mach) (hkm : m.Ok) (x1 : Int) (x2 : Int) :
    Calls Try.prog 4 #[.agg (mcells m), .int .i64 x1, .int .i64 x2] w fun e w' => e = .returned (.bool true) ∧ Below w.heap.size w w' := by
  have hS := hid ((St.start w).newMB m 32)
  have hs := hid (fun W => specPof_any W m hkm x1 x2)
  have hp := hid (fun W => implPof_any W m hkm x1 x2)
  have hlen := pofAns_len m x1 x2
  have hcc : ((pofAns m x1 x2).2 != (pofAns m x1 x2).2) = false := by simp
  generalize (pofAns m x1 x2).1 = r at *
  generalize (pofAns m x1 x2).2 = cd at *
  have heq2 := hid (fun W b1 b2 v1 v2 (hO1 : Own W b1 2 v1 (ints r)) (hO2 : Own W b2 2 v2 (ints r)) => eqInt64SL_any W b1 b2 v1 v2 r hO1 hO2 (by omega))
  have hm2 := hid (fun L W vq (hS : St w.heap.size w (Asn.own w.heap.size 2 vq (ints r) :: L) W) => markS1 w.heap.size w L W vq (ints r) r.length (ints_length r) hS (by omega))
  have hhe := hid (fun W b vq (hO : Own W b 2 vq (marks 1 r.length)) => held1L W b vq r.length hO (by omega))
  have z2 : decide ((r.length : Int) + 1 < 0) = false := decide_eq_false (by omega)
  have z3 : ((r.length : Int) + 1 != (r.length : Int) + 1) = false := by simp
  replace hkm := hid hkm
  replace hlen := hid hlen
  generalize r.length = nr at *
  go_enter Try.func4, Try.ntmps4
  go_wp2_with (first
    | ((with_reducible refine gate (N := 16) rfl ?_); refine load_lmach rfl _ rfl w.heap.size rfl m hS.out.m0 ?_)
    | ((with_reducible refine gate (N := 24) rfl ?_); refine load_lmach rfl _ rfl w.heap.size rfl m hS.out.m1 ?_)
    | ((with_reducible refine gate (N := 52) rfl ?_); refine load_lmach rfl _ rfl w.heap.size rfl m hS.out.m2 ?_)
    | (go_at_call 22; (with_reducible refine (toMachine_any m hkm.out _).mono ?_); rintro e w1 ⟨rfl, hb⟩; replace hS := hid (hS.out.call hb); clear hb)
    | (go_at_call 21; (with_reducible refine (hs.out _).mono ?_); rintro e w3 ⟨v7, rfl, hO, hb⟩; replace hS := hid (hS.out.callOwn hb hO); clear hb hO)
    | (go_at_call 23; (with_reducible refine (hp.out _).mono ?_); rintro e w4 ⟨v8, rfl, hO, hb⟩; replace hS := hid (hS.out.callOwn hb hO); clear hb hO)
    | (go_at_call 18; (first
        | (with_reducible refine (heq2.out _ _ _ _ _ hS.out.o0 hS.out.o1).mono ?_)
        | (with_reducible refine (heq2.out _ _ _ _ _ hS.out.o0 hS.out.o2).mono ?_)); rintro e w5 ⟨rfl, hb⟩; replace hS := hid (hS.out.call hb); clear hb)
    | (go_at_call 19; (with_reducible refine (hm2.out _ _ _ hS.out).mono ?_); rintro e w5 ⟨rfl, hS'⟩; replace hS := hid hS'; clear hS')
    | (go_at_call 20; (first
        | (with_reducible refine (hhe.out _ _ _ hS.out.o0).mono ?_)
        | (with_reducible refine (hhe.out _ _ _ hS.out.o1).mono ?_)); rintro e w5 ⟨rfl, rfl⟩))
  go_ret
  exact ⟨rfl, hS.out.bel⟩
end Go.Proofs.Ythempofohidlnaa
