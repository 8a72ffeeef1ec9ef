/- What the proof of FnPortraits leans on, part 20 of 26. -/
import Derived.Test.YtbmkkaecfogmoaaZFnPortraitsS
/- Texts damaged, words drawn. -/
namespace Go.Proofs.Ytbmkkaecfogmoaa
open Go.RowKit
set_option linter.unusedVariables false
set_option linter.unusedSimpArgs false
-- @LONG

section
variable {w0 w : World} {S : Nat} {v : Value} {l : List Nat} {L : List Asn}
/-- The signs that are put in. -/
def sg13 : List ByteArray := [{ data := #[48] }, { data := #[49] }, { data := #[50] }, { data := #[51] }, { data := #[97] }, { data := #[98] }, { data := #[112] }, { data := #[113] }, { data := #[58] }, { data := #[44] }, { data := #[32] }, { data := #[45] }, { data := #[10] }]
theorem sg13_S : ∀ t ∈ sg13, t.size = 1 := by decide +kernel
set_option maxHeartbeats 4000000 in
set_option maxRecDepth 100000 in
theorem Dg.damage (D : Dg w0 S v l) (t : ByteArray) (ht : t.size ≤ 1000) (hS : St w0.heap.size w0 (Asn.src S v l.length :: L) w) :
    Calls Try.prog 137 #[.pointer (some ⟨S, 0, none⟩), .string t] w fun e w' => ∃ u : ByteArray, e = .returned (.string u) ∧ Hid (u.size ≤ t.size + 1) ∧ St w0.heap.size w0 (Asn.src S v l.length :: L) w' := by
  have hN := hid (fun W L n (h0 : n ≤ 1000000000) hW => D.next (w := W) (L := L) n h0 hW)
  have hS := hid ((hS.newOwn [.string { data := #[48] }, .string { data := #[49] }, .string { data := #[50] }, .string { data := #[51] }, .string { data := #[97] }, .string { data := #[98] }, .string { data := #[112] }, .string { data := #[113] }, .string { data := #[58] }, .string { data := #[44] }, .string { data := #[32] }, .string { data := #[45] }, .string { data := #[10] }] 9 (by simp)).f1)
  have htx := hid (fun W L r (hr : r < 13) (hW : St w0.heap.size w0 (Asn.src S v l.length :: Asn.own w0.heap.size 9 (.slice (some ⟨w.heap.size, 0, none⟩) 13 13) [.string { data := #[48] }, .string { data := #[49] }, .string { data := #[50] }, .string { data := #[51] }, .string { data := #[97] }, .string { data := #[98] }, .string { data := #[112] }, .string { data := #[113] }, .string { data := #[58] }, .string { data := #[44] }, .string { data := #[32] }, .string { data := #[45] }, .string { data := #[10] }] :: L) W) => (show ∃ c, W.cell? ⟨w.heap.size, r, none⟩ = some (.string c) ∧ c.size = 1 from by
    have hr' : r < sg13.length := hr
    have hm := sg13_S sg13[r] (List.getElem_mem hr')
    exact ⟨sg13[r], hW.o1.cellAt r _ (by rw [show ([.string { data := #[48] }, .string { data := #[49] }, .string { data := #[50] }, .string { data := #[51] }, .string { data := #[97] }, .string { data := #[98] }, .string { data := #[112] }, .string { data := #[113] }, .string { data := #[58] }, .string { data := #[44] }, .string { data := #[32] }, .string { data := #[45] }, .string { data := #[10] }] : List Value) = strs sg13 from rfl]; simp [strs, List.getElem?_eq_getElem hr']), hm⟩))
  simp only [List.length_cons, List.length_nil, Nat.reduceAdd] at hS
  clear D
  go_enter Try.func137, Try.ntmps137
  go_upto_region 2 with (fail)
  generalize World.alloc w _ = wA at *
  generalize ([.string { data := #[48] }, .string { data := #[49] }, .string { data := #[50] }, .string { data := #[51] }, .string { data := #[97] }, .string { data := #[98] }, .string { data := #[112] }, .string { data := #[113] }, .string { data := #[58] }, .string { data := #[44] }, .string { data := #[32] }, .string { data := #[45] }, .string { data := #[10] }] : List Value) = cs at *
  generalize w.heap.size = gT at *
  have mk1 : True := trivial
  go_upto_if 18 with (first
    | (go_at_call 132; (with_reducible refine (hN.out _ _ _ (by omega) hS.out).mono ?_); rintro e w2 ⟨r, rfl, hr, hS'⟩; (have hr8 : r < 13 := by omega); (have hr9 : (r : Int) < 13 := by omega); (have r0 : (0 : Int) ≤ (r : Int) := Int.natCast_nonneg _); (refine Exists.elim (htx.out w2 _ r hr8 hS') ?_); rintro c ⟨ct, hc⟩; replace hS := hid hS'; clear hS' hr))
  replace hS := hid hS.out.f1.drop
  clear ct htx r0 hr9
  by_cases h0 : t.size = 0
  · have d0 : ((t.size : Int) == 0) = true := beq_iff_eq.2 (by omega)
    go_wp2
    go_ret
    exact ⟨c, rfl, hid (by omega), hS.out⟩
  · have d0 : ((t.size : Int) == 0) = false := beq_eq_false_iff_ne.2 (by omega)
    go_upto_region 7 with (first
      | (go_at_call 132; clear mk1; (with_reducible refine (hN.out _ _ _ (by omega) hS.out).mono ?_); rintro e w3 ⟨k, rfl, hk, hS'⟩; (have hk1 : k < t.size := by omega); replace hS := hid hS'; clear hS' hk)
      | (go_at_call 132; (with_reducible refine (hN.out _ _ _ (by omega) hS.out).mono ?_); rintro e w4 ⟨z, rfl, _, hS'⟩; replace hS := hid hS'; clear hS'))
    have k0 : (0 : Int) ≤ (k : Int) := Int.natCast_nonneg _
    have k1 : (k : Int) < (t.size : Int) := by omega
    have ek : IntKind.i64.wrap ((k : Int) + 1) = ((k + 1 : Nat) : Int) := by rw [IntWalk.i64_in _ (by omega)]; omega
    by_cases z0 : z = 0
    · subst z0
      go_upto_region 8 with (fail)
      go_quiet (fail)
      go_wp2
      go_ret
      exact ⟨_, rfl, hid (by simp only [ByteArray.size_append, ByteArray.size_extract]; omega), hS.out.drewN nq⟩
    · have z0' : ((z : Int) == 0) = false := by simp; omega
      by_cases z1 : z = 1
      · subst z1
        go_upto_region 10 with (fail)
        go_quiet (fail)
        go_wp2
        go_ret
        exact ⟨_, rfl, hid (by simp only [ByteArray.size_append, ByteArray.size_extract]; omega), hS.out.drewN nq⟩
      · have z1' : ((z : Int) == 1) = false := by simp; omega
        go_upto_region 11 with (fail)
        go_quiet (fail)
        go_wp2
        go_ret
        exact ⟨_, rfl, hid (by simp only [ByteArray.size_append, ByteArray.size_extract]; omega), hS.out.drewN nq⟩
set_option maxHeartbeats 4000000 in
set_option maxRecDepth 100000 in
theorem Dg.wordy (D : Dg w0 S v l) (m : Mach) (hS : St w0.heap.size w0 (Asn.src S v l.length :: L) w) :
    Calls Try.prog 229 #[.pointer (some ⟨S, 0, none⟩), .agg (mcells m)] w fun e w' => ∃ u : ByteArray, e = .returned (.string u) ∧ Hid (u.size ≤ 50) ∧ St w0.heap.size w0 (Asn.src S v l.length :: L) w' := by
  have hN := hid (fun W L n (h0 : n ≤ 1000000000) hW => D.next (w := W) (L := L) n h0 hW)
  have hP := hid (fun W L b2 v2 M hM hMl hW => D.pick (w := W) (L := L) (b2 := b2) (v2 := v2) M hM hMl hW)
  have hW := hid (fun W L d n hn hW => D.word (w := W) (L := L) d n hn hW)
  have hDm := hid (fun W L t ht hW => D.damage (w := W) (L := L) t ht hW)
  have hpr := hid (fun (r : Int) (hr : r ∈ [0, 1, 2, 3, 4, 5, 6, 9, 40, (41 : Int)]) => (show r ≤ 41 from by
    simp only [List.mem_cons, List.not_mem_nil, or_false] at hr
    rcases hr with rfl | rfl | rfl | rfl | rfl | rfl | rfl | rfl | rfl | rfl <;> omega))
  have hS := hid ((hS.newMB m 27).f1)
  have hcL := hid (fun W L (hW : St w0.heap.size w0 (Asn.src S v l.length :: Asn.mb 27 w.heap.size m :: L) W) => hW.m1.cL)
  clear D
  go_enter Try.func229, Try.ntmps229
  go_upto_region 1 with (fail)
  generalize World.alloc w _ = wA at *
  generalize w.heap.size = b3 at *
  replace hS := hid hS.out.drew
  refine wp_region_heldL (L := [(6, (fun w' : World => w'.cell? ⟨b3, 0, none⟩ = some (.int .i64 m.L)))]) (by kernel_rfl) (HeldL.cons (fun _ => hcL.out _ _ hS.out) HeldL.nil) (fun hHeld => ?_)
  generalize World.drew wA = wa at *
  refine wpAnyL_take0 (i := 0) (v := ?_) rfl (by kernel_rfl) (by kernel_rfl) (by kernel_rfl) (by rfl) (fun _ _ _ h => h) (Or.inl ⟨by rfl, ?_⟩) (by assumption) ?_
  rotate_left
  · (intro W _; go_simp; (with_reducible rfl))
  intro hHeld'
  clear hHeld; have hHeld := hHeld'; clear hHeld'
  try simp only [Act.put, List.getElem_toArray, List.getElem_cons_succ, List.getElem_cons_zero, List.setIfInBounds_toArray, List.set_cons_zero, List.set_cons_succ]
  refine wpAnyL_take0 (i := 1) (v := ?_) rfl (by kernel_rfl) (by kernel_rfl) (by kernel_rfl) (by rfl) (fun _ _ _ h => h) (Or.inl ⟨by rfl, ?_⟩) (by assumption) ?_
  rotate_left
  · (intro W _; go_simp; (with_reducible rfl))
  intro hHeld'
  clear hHeld; have hHeld := hHeld'; clear hHeld'
  try simp only [Act.put, List.getElem_toArray, List.getElem_cons_succ, List.getElem_cons_zero, List.setIfInBounds_toArray, List.set_cons_zero, List.set_cons_succ]
  refine wpAnyL_takeP (i := 2) 6 [] (v := ?_) (fun w' : World => w'.cell? ⟨b3, 0, none⟩ = some (.int .i64 m.L)) rfl (by kernel_rfl) (by kernel_rfl) (by kernel_rfl) (by rfl) (by kernel_rfl) (by simp) (fun _ _ _ h => h) (Or.inl ⟨by rfl, ?_⟩) (by assumption) ?_
  rotate_left
  · (intro W hW; go_simp; (with_reducible rfl))
  intro hHeld'
  clear hHeld; have hHeld := hHeld'; clear hHeld'
  try simp only [Act.put, List.getElem_toArray, List.getElem_cons_succ, List.getElem_cons_zero, List.setIfInBounds_toArray, List.set_cons_zero, List.set_cons_succ]
  refine wpAnyL_take0 (i := 3) (v := ?_) rfl (by kernel_rfl) (by kernel_rfl) (by kernel_rfl) (by rfl) (fun _ _ _ h => h) (Or.inl ⟨by rfl, ?_⟩) (by assumption) ?_
  rotate_left
  · (intro W _; go_simp; (with_reducible rfl))
  intro hHeld'
  clear hHeld; have hHeld := hHeld'; clear hHeld'
  try simp only [Act.put, List.getElem_toArray, List.getElem_cons_succ, List.getElem_cons_zero, List.setIfInBounds_toArray, List.set_cons_zero, List.set_cons_succ]
  refine wpAnyL_ready (rs := [4]) (by kernel_rfl) (by simp) ?_
  refine AllReadyL.cons rfl (fun K hK => ?_) AllReadyL.nil
  go_simp
  have hS2 := hS.out.list [.int .i64 0, .int .i64 1, .int .i64 2, .int .i64 3, .int .i64 4, .int .i64 5, .int .i64 6, .int .i64 9, .int .i64 40, .int .i64 41] (by simp)
  refine hK.out _ _ (HeldL.cons (fun _ => hS2.m2.cL) HeldL.nil) (fun hHeld' => ?_)
  clear hK K hHeld; have hHeld := hHeld'; clear hHeld'
  try simp only [Act.put, List.getElem_toArray, List.getElem_cons_succ, List.getElem_cons_zero, List.setIfInBounds_toArray, List.set_cons_zero, List.set_cons_succ]
  refine wpAnyL_ready (rs := [5]) (by kernel_rfl) (by simp) ?_
  refine AllReadyL.cons rfl (fun K hK => ?_) AllReadyL.nil
  go_simp
  (with_reducible refine (hP.out _ _ _ _ [0, 1, 2, 3, 4, 5, 6, 9, 40, 41] (by simp) (by simp) hS2).mono ?_)
  rintro e w6 ⟨r, rfl, hr, hS'⟩
  have hr' := hpr.out r hr
  replace hS := hid hS'
  clear hS' hS2 hr
  go_simp
  refine hK.out _ _ (HeldL.cons (fun _ => hcL.out _ _ hS.out) HeldL.nil) (fun hHeld' => ?_)
  clear hK K hHeld; have hHeld := hHeld'; clear hHeld'
  try simp only [Act.put, List.getElem_toArray, List.getElem_cons_succ, List.getElem_cons_zero, List.setIfInBounds_toArray, List.set_cons_zero, List.set_cons_succ]
  refine wpAnyL_ready (rs := [6]) (by kernel_rfl) (by simp) ?_
  refine AllReadyL.cons rfl (fun K hK => ?_) AllReadyL.nil
  go_simp
  (with_reducible refine (hW.out _ _ m.L r hr' hS.out).mono ?_)
  rintro e w7 ⟨u, rfl, hu, hS'⟩
  replace hS := hid hS'.f1.drop
  clear hS'
  go_simp
  refine hK.out _ _ (HeldL.cons (fun h => absurd h (by decide +kernel)) HeldL.nil) (fun hHeld' => ?_)
  clear hK K hHeld; have hHeld := hHeld'; clear hHeld'
  try simp only [Act.put, List.getElem_toArray, List.getElem_cons_succ, List.getElem_cons_zero, List.setIfInBounds_toArray, List.set_cons_zero, List.set_cons_succ]
  refine wpAnyL_take0 (i := 7) (v := ?_) rfl (by kernel_rfl) (by kernel_rfl) (by kernel_rfl) (by rfl) (fun _ _ _ h => h) (Or.inl ⟨by rfl, ?_⟩) (by assumption) ?_
  rotate_left
  · (intro W _; go_simp; (with_reducible rfl))
  intro hHeld'
  clear hHeld; have hHeld := hHeld'; clear hHeld'
  try simp only [Act.put, List.getElem_toArray, List.getElem_cons_succ, List.getElem_cons_zero, List.setIfInBounds_toArray, List.set_cons_zero, List.set_cons_succ]
  refine wpAnyL_done (by kernel_rfl) ?_ _
  have hus := hid (show (wstr u).size ≤ 41 from by rw [wstr_size]; exact hu.out.1)
  generalize wstr u = us at *
  go_wp2_with (first
    | (go_at_call 132; (with_reducible refine (hN.out _ _ _ (by omega) hS.out).mono ?_); rintro e w8 ⟨z, rfl, _, hS'⟩; replace hS := hid hS'; clear hS')
    | (go_at_call 137; (with_reducible refine (hDm.out _ _ us (by have := hus.out; omega) hS.out).mono ?_); rintro e w9 ⟨u2, rfl, hu2, hS'⟩; replace hS := hid hS'; clear hS'))
  all_goals go_ret
  all_goals first
    | exact ⟨u2, rfl, hid (by have := hu2.out; have := hus.out; omega), hS.out⟩
    | exact ⟨us, rfl, hid (by have := hus.out; omega), hS.out⟩
end
end Go.Proofs.Ytbmkkaecfogmoaa

/- The reference's number of a permutation. -/
namespace Go.Proofs.Ytbmkkaecfogmoaa
open Go.RowKit
set_option linter.unusedVariables false
set_option linter.unusedSimpArgs false
-- @LONG

theorem pim_256 (d k x : Nat) (hd : d = 2 ∨ d = 3) (hk : k < cnt d) (hx : x < 3) : pim d k x < 256 := by
  rcases hd with rfl | rfl
  · have : k = 0 ∨ k = 1 := by have : cnt 2 = 2 := rfl; omega
    have h2 : x = 0 ∨ x = 1 ∨ x = 2 := by omega
    rcases this with rfl | rfl <;> rcases h2 with rfl | rfl | rfl <;> decide
  · have : k = 0 ∨ k = 1 ∨ k = 2 ∨ k = 3 ∨ k = 4 ∨ k = 5 := by have : cnt 3 = 6 := rfl; omega
    have h2 : x = 0 ∨ x = 1 ∨ x = 2 := by omega
    rcases this with rfl | rfl | rfl | rfl | rfl | rfl <;> rcases h2 with rfl | rfl | rfl <;> decide
theorem pim_inj (d k i : Nat) (hd : d = 2 ∨ d = 3) (hk : k < cnt d) (hi : i < cnt d) (h : pim d k 0 = pim d i 0 ∧ pim d k 1 = pim d i 1 ∧ pim d k 2 = pim d i 2) : k = i := by
  rcases hd with rfl | rfl
  · have h1 : k = 0 ∨ k = 1 := by have : cnt 2 = 2 := rfl; omega
    have h2 : i = 0 ∨ i = 1 := by have : cnt 2 = 2 := rfl; omega
    rcases h1 with rfl | rfl <;> rcases h2 with rfl | rfl <;> first | rfl | (exact absurd h (by decide))
  · have h1 : k = 0 ∨ k = 1 ∨ k = 2 ∨ k = 3 ∨ k = 4 ∨ k = 5 := by have : cnt 3 = 6 := rfl; omega
    have h2 : i = 0 ∨ i = 1 ∨ i = 2 ∨ i = 3 ∨ i = 4 ∨ i = 5 := by have : cnt 3 = 6 := rfl; omega
    rcases h1 with rfl | rfl | rfl | rfl | rfl | rfl <;> rcases h2 with rfl | rfl | rfl | rfl | rfl | rfl <;> first | rfl | (exact absurd h (by decide))
theorem load_b3 {w : World} {b t : Nat} {x y z : Value} (h : w.heap[b]? = some (.cells #[x, y, z] t (0, 0))) : (loadVar 24 ⟨b, 0, none⟩).run Try.prog w = .ok (.agg #[x, y, z]) w := by
  have := run_loadVar_mid (P := Try.prog) w b 0 24 [x, y, z] _ (fun j v hv => by rw [Nat.zero_add, cell_of_row w b j _ _ _ h]; simpa using hv) Try.underlying24 rfl sz_b3
  simpa using this
set_option maxHeartbeats 4000000 in
set_option maxRecDepth 100000 in
theorem l03Number_lit (d i : Nat) (hd : d = 2 ∨ d = 3) (hi : i < cnt d) (a b c : Nat) (ha : a = pim d i 0) (hb : b = pim d i 1) (hc : c = pim d i 2) (w : World) :
    Calls Try.prog 144 #[.int .i64 d, .agg #[.int .u8 (a : Int), .int .u8 (b : Int), .int .u8 (c : Int)]] w fun e w' => e = .returned (.int .i64 (i : Nat)) ∧ Below w.heap.size w w' := by
  have hS := hid ((St.start w).newBlk #[.int .u8 (a : Int), .int .u8 (b : Int), .int .u8 (c : Int)] 24)
  have hct := hid (fun W => l03Count_any d hd W)
  have hc6 : cnt d ≤ 6 := by rcases hd with rfl | rfl <;> decide
  have him := hid (fun k (hk : k < cnt d) W => (by have h := l03Images_any d k hd hk W; rw [row3] at h; exact h : Calls Try.prog 140 #[.int .i64 d, .int .i64 k] W fun e w' => e = .returned (.agg #[.int .u8 (pim d k 0 : Nat), .int .u8 (pim d k 1 : Nat), .int .u8 (pim d k 2 : Nat)]) ∧ Below W.heap.size W w'))
  have hab : a < 256 ∧ b < 256 ∧ c < 256 := ⟨ha ▸ pim_256 d i 0 hd hi (by omega), hb ▸ pim_256 d i 1 hd hi (by omega), hc ▸ pim_256 d i 2 hd hi (by omega)⟩
  have heq0 := hid (fun k (hk : k < cnt d) (r : Bool) (hr : Tells r (pim d k 0 = a ∧ pim d k 1 = b ∧ pim d k 2 = c)) W => eq_b3 W (pim d k 0) (pim d k 1) (pim d k 2) a b c ⟨pim_256 d k 0 hd hk (by omega), pim_256 d k 1 hd hk (by omega), pim_256 d k 2 hd hk (by omega)⟩ hab r hr)
  have hne := hid (fun k (hk : k < i) (h : pim d k 0 = a ∧ pim d k 1 = b ∧ pim d k 2 = c) => (show False from by
    have := pim_inj d k i hd (by omega) hi ⟨h.1.trans ha, h.2.1.trans hb, h.2.2.trans hc⟩; omega))
  have hye := hid (show pim d i 0 = a ∧ pim d i 1 = b ∧ pim d i 2 = c from ⟨ha.symm, hb.symm, hc.symm⟩)
  have hg := guard_b3
  clear ha hb hc hab
  generalize hC : cnt d = C at *
  have ew : IntKind.i64.wrap ((C : Int) - 1) = (C : Int) - 1 := IntWalk.i64_in _ (by omega)
  clear hC
  go_enter Try.func144, Try.ntmps144
  go_wp2
  go_loopw [5] (fun j wr => ∃ k : Nat, k ≤ i ∧ j = .int .i64 k ∧ St w.heap.size w [Asn.blk w.heap.size #[.int .u8 (a : Int), .int .u8 (b : Int), .int .u8 (c : Int)] 24] wr) (fun j _ => i - (intOf j).toNat)
  case atStart => exact ⟨0, Nat.zero_le _, rfl, hS.out⟩
  case round =>
    obtain ⟨k, hk, rfl, rS⟩ := hrel
    clear hS
    replace rS := hid rS
    have dk : decide ((k : Int) < 6) = true := decide_eq_true (by omega)
    have hkC : k < C := by omega
    have hik := hid (him.out k hkC)
    have dm : decide ((C : Int) - 1 < (k : Int)) = false := decide_eq_false (by omega)
    have hmin : ¬ (C : Int) - 1 < (k : Int) := by omega
    by_cases hlt : k < i
    · have heq := fun W => heq0.out k hkC false ⟨fun h => (by cases h), fun h => (hne.out k hlt h).elim⟩ W
      generalize pim d k 0 = a' at *
      generalize pim d k 1 = b' at *
      generalize pim d k 2 = c' at *
      go_upto_region 4 with (fail)
      replace rS := hid rS.out.drew
      refine wp_region_heldL (L := [(8, (fun w' : World => w'.heap[w.heap.size]? = some (.cells #[.int .u8 (a : Int), .int .u8 (b : Int), .int .u8 (c : Int)] 24 (0, 0))))]) (by kernel_rfl) (HeldL.cons (fun _ => rS.out.k0) HeldL.nil) (fun hHeld => ?_)
      generalize wr.drew = wa at *
      refine wpAnyL_take0 (i := 0) (v := ?_) rfl (by kernel_rfl) (by kernel_rfl) (by kernel_rfl) (by rfl) (fun _ _ _ h => h) (Or.inl ⟨by rfl, ?_⟩) (by assumption) ?_
      rotate_left
      · (intro W _; go_simp; (with_reducible rfl))
      intro hHeld'
      clear hHeld; have hHeld := hHeld'; clear hHeld'
      try simp only [Act.put, List.getElem_toArray, List.getElem_cons_succ, List.getElem_cons_zero, List.setIfInBounds_toArray, List.set_cons_zero, List.set_cons_succ]
      refine wpAnyL_take0 (i := 1) (v := ?_) rfl (by kernel_rfl) (by kernel_rfl) (by kernel_rfl) (by rfl) (fun _ _ _ h => h) (Or.inl ⟨by rfl, ?_⟩) (by assumption) ?_
      rotate_left
      · (intro W _; go_simp; (with_reducible rfl))
      intro hHeld'
      clear hHeld; have hHeld := hHeld'; clear hHeld'
      try simp only [Act.put, List.getElem_toArray, List.getElem_cons_succ, List.getElem_cons_zero, List.setIfInBounds_toArray, List.set_cons_zero, List.set_cons_succ]
      refine wpAnyL_take0 (i := 2) (v := ?_) rfl (by kernel_rfl) (by kernel_rfl) (by kernel_rfl) (by rfl) (fun _ _ _ h => h) (Or.inl ⟨by rfl, ?_⟩) (by assumption) ?_
      rotate_left
      · (intro W _; go_simp; (with_reducible rfl))
      intro hHeld'
      clear hHeld; have hHeld := hHeld'; clear hHeld'
      try simp only [Act.put, List.getElem_toArray, List.getElem_cons_succ, List.getElem_cons_zero, List.setIfInBounds_toArray, List.set_cons_zero, List.set_cons_succ]
      refine wpAnyL_takeP (i := 7) 8 [] (v := (.agg #[.int .u8 (a : Int), .int .u8 (b : Int), .int .u8 (c : Int)])) (fun w' : World => w'.heap[w.heap.size]? = some (.cells #[.int .u8 (a : Int), .int .u8 (b : Int), .int .u8 (c : Int)] 24 (0, 0))) rfl (by kernel_rfl) (by kernel_rfl) (by kernel_rfl) (by rfl) (by kernel_rfl) (by simp) (fun _ _ _ h => h) (Or.inl ⟨by rfl, ?_⟩) (by assumption) ?_
      · (intro W hW; exact exec_load _ rfl rfl (load_b3 hW))
      intro hHeld'
      clear hHeld; have hHeld := hHeld'; clear hHeld'
      try simp only [Act.put, List.getElem_toArray, List.getElem_cons_succ, List.getElem_cons_zero, List.setIfInBounds_toArray, List.set_cons_zero, List.set_cons_succ]
      refine wpAnyL_ready (rs := [3]) (by kernel_rfl) (by simp) ?_
      refine AllReadyL.cons rfl (fun K hK => ?_) AllReadyL.nil
      go_simp
      (with_reducible refine (hct.out _).mono ?_)
      rintro e w3 ⟨rfl, rfl⟩
      go_simp
      refine hK.out _ _ (HeldL.cons (fun _ => rS.out.k0) HeldL.nil) (fun hHeld' => ?_)
      clear hK K hHeld; have hHeld := hHeld'; clear hHeld'
      try simp only [Act.put, List.getElem_toArray, List.getElem_cons_succ, List.getElem_cons_zero, List.setIfInBounds_toArray, List.set_cons_zero, List.set_cons_succ]
      refine wpAnyL_take0 (i := 4) (v := ?_) rfl (by kernel_rfl) (by kernel_rfl) (by kernel_rfl) (by rfl) (fun _ _ _ h => h) (Or.inl ⟨by rfl, ?_⟩) (by assumption) ?_
      rotate_left
      · (intro W _; go_simp; (with_reducible rfl))
      intro hHeld'
      clear hHeld; have hHeld := hHeld'; clear hHeld'
      try simp only [Act.put, List.getElem_toArray, List.getElem_cons_succ, List.getElem_cons_zero, List.setIfInBounds_toArray, List.set_cons_zero, List.set_cons_succ]
      refine wpAnyL_take0 (i := 5) (v := (.int .i64 (k : Nat))) rfl (by kernel_rfl) (by kernel_rfl) (by kernel_rfl) (by rfl) (fun _ _ _ h => h) (Or.inl ⟨by rfl, ?_⟩) (by assumption) ?_
      · (intro W _; go_simp)
      intro hHeld'
      clear hHeld; have hHeld := hHeld'; clear hHeld'
      try simp only [Act.put, List.getElem_toArray, List.getElem_cons_succ, List.getElem_cons_zero, List.setIfInBounds_toArray, List.set_cons_zero, List.set_cons_succ]
      refine wpAnyL_ready (rs := [6]) (by kernel_rfl) (by simp) ?_
      refine AllReadyL.cons rfl (fun K hK => ?_) AllReadyL.nil
      go_simp
      (with_reducible refine (hik.out _).mono ?_)
      rintro e w4 ⟨rfl, hb⟩
      replace rS := hid (rS.out.call hb)
      clear hb
      go_simp
      refine hK.out _ _ (HeldL.cons (fun _ => rS.out.k0) HeldL.nil) (fun hHeld' => ?_)
      clear hK K hHeld; have hHeld := hHeld'; clear hHeld'
      try simp only [Act.put, List.getElem_toArray, List.getElem_cons_succ, List.getElem_cons_zero, List.setIfInBounds_toArray, List.set_cons_zero, List.set_cons_succ]
      refine wpAnyL_ready (rs := [8]) (by kernel_rfl) (by simp) ?_
      refine AllReadyL.cons rfl (fun K hK => ?_) AllReadyL.nil
      go_simp
      refine hK.out _ _ (HeldL.cons (fun h => absurd h (by decide +kernel)) HeldL.nil) (fun hHeld' => ?_)
      clear hK K hHeld; have hHeld := hHeld'; clear hHeld'
      try simp only [Act.put, List.getElem_toArray, List.getElem_cons_succ, List.getElem_cons_zero, List.setIfInBounds_toArray, List.set_cons_zero, List.set_cons_succ]
      refine wpAnyL_done (by kernel_rfl) ?_ _
      go_wp2
      go_roundw
      case rel => exact ⟨k + 1, by omega, by go_num, rS.out⟩
      case measure => simp [intOf]; omega
    · obtain rfl : k = i := by omega
      have heq := fun W => heq0.out k hkC true ⟨fun _ => hye.out, fun _ => rfl⟩ W
      clear hye
      generalize pim d k 0 = a' at *
      generalize pim d k 1 = b' at *
      generalize pim d k 2 = c' at *
      go_upto_region 4 with (fail)
      replace rS := hid rS.out.drew
      refine wp_region_heldL (L := [(8, (fun w' : World => w'.heap[w.heap.size]? = some (.cells #[.int .u8 (a : Int), .int .u8 (b : Int), .int .u8 (c : Int)] 24 (0, 0))))]) (by kernel_rfl) (HeldL.cons (fun _ => rS.out.k0) HeldL.nil) (fun hHeld => ?_)
      generalize wr.drew = wa at *
      refine wpAnyL_take0 (i := 0) (v := ?_) rfl (by kernel_rfl) (by kernel_rfl) (by kernel_rfl) (by rfl) (fun _ _ _ h => h) (Or.inl ⟨by rfl, ?_⟩) (by assumption) ?_
      rotate_left
      · (intro W _; go_simp; (with_reducible rfl))
      intro hHeld'
      clear hHeld; have hHeld := hHeld'; clear hHeld'
      try simp only [Act.put, List.getElem_toArray, List.getElem_cons_succ, List.getElem_cons_zero, List.setIfInBounds_toArray, List.set_cons_zero, List.set_cons_succ]
      refine wpAnyL_take0 (i := 1) (v := ?_) rfl (by kernel_rfl) (by kernel_rfl) (by kernel_rfl) (by rfl) (fun _ _ _ h => h) (Or.inl ⟨by rfl, ?_⟩) (by assumption) ?_
      rotate_left
      · (intro W _; go_simp; (with_reducible rfl))
      intro hHeld'
      clear hHeld; have hHeld := hHeld'; clear hHeld'
      try simp only [Act.put, List.getElem_toArray, List.getElem_cons_succ, List.getElem_cons_zero, List.setIfInBounds_toArray, List.set_cons_zero, List.set_cons_succ]
      refine wpAnyL_take0 (i := 2) (v := ?_) rfl (by kernel_rfl) (by kernel_rfl) (by kernel_rfl) (by rfl) (fun _ _ _ h => h) (Or.inl ⟨by rfl, ?_⟩) (by assumption) ?_
      rotate_left
      · (intro W _; go_simp; (with_reducible rfl))
      intro hHeld'
      clear hHeld; have hHeld := hHeld'; clear hHeld'
      try simp only [Act.put, List.getElem_toArray, List.getElem_cons_succ, List.getElem_cons_zero, List.setIfInBounds_toArray, List.set_cons_zero, List.set_cons_succ]
      refine wpAnyL_takeP (i := 7) 8 [] (v := (.agg #[.int .u8 (a : Int), .int .u8 (b : Int), .int .u8 (c : Int)])) (fun w' : World => w'.heap[w.heap.size]? = some (.cells #[.int .u8 (a : Int), .int .u8 (b : Int), .int .u8 (c : Int)] 24 (0, 0))) rfl (by kernel_rfl) (by kernel_rfl) (by kernel_rfl) (by rfl) (by kernel_rfl) (by simp) (fun _ _ _ h => h) (Or.inl ⟨by rfl, ?_⟩) (by assumption) ?_
      · (intro W hW; exact exec_load _ rfl rfl (load_b3 hW))
      intro hHeld'
      clear hHeld; have hHeld := hHeld'; clear hHeld'
      try simp only [Act.put, List.getElem_toArray, List.getElem_cons_succ, List.getElem_cons_zero, List.setIfInBounds_toArray, List.set_cons_zero, List.set_cons_succ]
      refine wpAnyL_ready (rs := [3]) (by kernel_rfl) (by simp) ?_
      refine AllReadyL.cons rfl (fun K hK => ?_) AllReadyL.nil
      go_simp
      (with_reducible refine (hct.out _).mono ?_)
      rintro e w3 ⟨rfl, rfl⟩
      go_simp
      refine hK.out _ _ (HeldL.cons (fun _ => rS.out.k0) HeldL.nil) (fun hHeld' => ?_)
      clear hK K hHeld; have hHeld := hHeld'; clear hHeld'
      try simp only [Act.put, List.getElem_toArray, List.getElem_cons_succ, List.getElem_cons_zero, List.setIfInBounds_toArray, List.set_cons_zero, List.set_cons_succ]
      refine wpAnyL_take0 (i := 4) (v := ?_) rfl (by kernel_rfl) (by kernel_rfl) (by kernel_rfl) (by rfl) (fun _ _ _ h => h) (Or.inl ⟨by rfl, ?_⟩) (by assumption) ?_
      rotate_left
      · (intro W _; go_simp; (with_reducible rfl))
      intro hHeld'
      clear hHeld; have hHeld := hHeld'; clear hHeld'
      try simp only [Act.put, List.getElem_toArray, List.getElem_cons_succ, List.getElem_cons_zero, List.setIfInBounds_toArray, List.set_cons_zero, List.set_cons_succ]
      refine wpAnyL_take0 (i := 5) (v := (.int .i64 (k : Nat))) rfl (by kernel_rfl) (by kernel_rfl) (by kernel_rfl) (by rfl) (fun _ _ _ h => h) (Or.inl ⟨by rfl, ?_⟩) (by assumption) ?_
      · (intro W _; go_simp)
      intro hHeld'
      clear hHeld; have hHeld := hHeld'; clear hHeld'
      try simp only [Act.put, List.getElem_toArray, List.getElem_cons_succ, List.getElem_cons_zero, List.setIfInBounds_toArray, List.set_cons_zero, List.set_cons_succ]
      refine wpAnyL_ready (rs := [6]) (by kernel_rfl) (by simp) ?_
      refine AllReadyL.cons rfl (fun K hK => ?_) AllReadyL.nil
      go_simp
      (with_reducible refine (hik.out _).mono ?_)
      rintro e w4 ⟨rfl, hb⟩
      replace rS := hid (rS.out.call hb)
      clear hb
      go_simp
      refine hK.out _ _ (HeldL.cons (fun _ => rS.out.k0) HeldL.nil) (fun hHeld' => ?_)
      clear hK K hHeld; have hHeld := hHeld'; clear hHeld'
      try simp only [Act.put, List.getElem_toArray, List.getElem_cons_succ, List.getElem_cons_zero, List.setIfInBounds_toArray, List.set_cons_zero, List.set_cons_succ]
      refine wpAnyL_ready (rs := [8]) (by kernel_rfl) (by simp) ?_
      refine AllReadyL.cons rfl (fun K hK => ?_) AllReadyL.nil
      go_simp
      refine hK.out _ _ (HeldL.cons (fun h => absurd h (by decide +kernel)) HeldL.nil) (fun hHeld' => ?_)
      clear hK K hHeld; have hHeld := hHeld'; clear hHeld'
      try simp only [Act.put, List.getElem_toArray, List.getElem_cons_succ, List.getElem_cons_zero, List.setIfInBounds_toArray, List.set_cons_zero, List.set_cons_succ]
      refine wpAnyL_done (by kernel_rfl) ?_ _
      go_wp2_with (first
        | (go_at_call 141; (with_reducible refine (hct.out _).mono ?_); rintro e w' ⟨rfl, rfl⟩))
      go_ret
      exact ⟨rfl, rS.out.bel⟩
end Go.Proofs.Ytbmkkaecfogmoaa

/- A machine drawn: a known one or any, seldom spoilt. -/
namespace Go.Proofs.Ytbmkkaecfogmoaa
open Go.RowKit
set_option linter.unusedVariables false
set_option linter.unusedSimpArgs false
-- @LONG

/-- The texts of the known machines. -/
def tx8 : List ByteArray := [{ data := #[50, 58, 48, 97, 49, 97, 44, 49, 97, 48, 98] }, { data := #[50, 58, 48, 97, 49, 97, 44, 49, 97, 48, 97, 44, 48, 98, 49, 100, 44, 48, 98, 49, 101, 44, 48, 97, 49, 99] }, { data := #[50, 58, 48, 97, 49, 97, 44, 48, 97, 49, 99, 44, 49, 97, 48, 98] }, { data := #[50, 58, 48, 97, 49, 98, 44, 49, 97, 48, 98] }, { data := #[51, 58, 48, 97, 49, 97, 50, 97, 44, 49, 97, 48, 97, 50, 98, 44, 50, 97, 49, 99, 48, 97, 44, 48, 100, 50, 97, 49, 97] }, { data := #[51, 58, 48, 97, 49, 97, 50, 97, 44, 49, 97, 50, 97, 48, 97, 44, 48, 98, 49, 99, 50, 100, 44, 50, 97, 48, 97, 49, 97] }, { data := #[50, 58, 49, 98, 48, 99, 44, 48, 99, 49, 99, 44, 49, 97, 48, 98] }, { data := #[50, 58, 48, 98, 49, 97, 44, 49, 98, 48, 97] }]
def tx7 : List ByteArray := [{ data := #[50, 58, 48, 97, 49, 97, 44, 49, 97, 48, 98] }, { data := #[50, 58, 48, 97, 49, 97, 44, 48, 97, 49, 99, 44, 49, 97, 48, 98] }, { data := #[50, 58, 48, 97, 49, 97, 44, 49, 97, 48, 97, 44, 48, 98, 49, 100, 44, 48, 98, 49, 101, 44, 48, 97, 49, 99] }, { data := #[50, 58, 48, 98, 49, 97, 44, 49, 98, 48, 97] }, { data := #[51, 58, 48, 97, 49, 97, 50, 97, 44, 49, 97, 48, 97, 50, 98] }, { data := #[50, 58, 48, 97, 49, 98, 44, 49, 97, 48, 98] }, { data := #[51, 58, 48, 97, 49, 97, 50, 97, 44, 49, 97, 50, 97, 48, 98] }]
theorem tx8_S : ∀ t ∈ tx8, (rdS t).length ≤ 8 ∧ t.size ≤ 1000 := by decide +kernel
theorem tx7_S : ∀ t ∈ tx7, (rdS t).length ≤ 8 ∧ t.size ≤ 1000 := by decide +kernel
theorem rdAns_S {t : ByteArray} (h : (rdS t).length ≤ 8) : 0 ≤ (rdAns t).1.S ∧ (rdAns t).1.S ≤ 8 := by
  unfold rdAns
  split
  · have e : (rdM (bt t 0 - 48) (rdS t)).S = (((rdS t).length : Nat) : Int) := rfl
    show 0 ≤ (rdM (bt t 0 - 48) (rdS t)).S ∧ (rdM (bt t 0 - 48) (rdS t)).S ≤ 8
    rw [e]; omega
  · exact ⟨by decide, by decide⟩
/-- A machine with few states. -/
def Few8 (m : Mach) : Prop := m.Ok ∧ 0 ≤ m.S ∧ m.S ≤ 8
/-- .. where it is one. -/
def Low8 (m : Mach) : Prop := m.Ok ∧ (IsM m → m.S ≤ 8)
theorem MLS.few {m : Mach} {L : Int} {S : Nat} (h : MLS m L S) (hS : S ≤ 8) : Few8 m := ⟨h.1, by rw [h.2.2]; omega⟩
theorem Few8.low {m : Mach} (h : Few8 m) : Low8 m := ⟨h.1, fun _ => h.2.2⟩
section
variable {w0 w : World} {S : Nat} {v : Value} {l : List Nat} {L : List Asn}
theorem pick_two {r : Int} (h : r ∈ [2, 2, (3 : Int)]) : ∃ d : Nat, r = d ∧ (d = 2 ∨ d = 3) := by
  simp only [List.mem_cons, List.not_mem_nil, or_false] at h
  rcases h with rfl | rfl | rfl
  · exact ⟨2, rfl, .inl rfl⟩
  · exact ⟨2, rfl, .inl rfl⟩
  · exact ⟨3, rfl, .inr rfl⟩
theorem pick_six {r : Int} {k : Nat} (hk : k < 8) (h : r ∈ [1, 2, 3, 4, 5, 1 + (k : Int)]) : ∃ n : Nat, r = n ∧ n ≤ 8 := by
  simp only [List.mem_cons, List.not_mem_nil, or_false] at h
  rcases h with rfl | rfl | rfl | rfl | rfl | rfl
  · exact ⟨1, rfl, by omega⟩
  · exact ⟨2, rfl, by omega⟩
  · exact ⟨3, rfl, by omega⟩
  · exact ⟨4, rfl, by omega⟩
  · exact ⟨5, rfl, by omega⟩
  · exact ⟨1 + k, by omega, by omega⟩
set_option maxHeartbeats 4000000 in
set_option maxRecDepth 100000 in
theorem Dg.draw (D : Dg w0 S v l) (hS : St w0.heap.size w0 (Asn.src S v l.length :: L) w) :
    Calls Try.prog 180 #[.pointer (some ⟨S, 0, none⟩)] w fun e w' => ∃ m : Mach, e = .returned (.agg (mcells m)) ∧ Hid (Few8 m) ∧ St w0.heap.size w0 (Asn.src S v l.length :: L) w' := by
  have hN := hid (fun W L n (h0 : n ≤ 1000000000) hW => D.next (w := W) (L := L) n h0 hW)
  have hP := hid (fun W L b2 v2 M hM hMl hW => D.pick (w := W) (L := L) (b2 := b2) (v2 := v2) M hM hMl hW)
  have hA := hid (fun W L d n hd hn hW => D.any (w := W) (L := L) d n hd hn hW)
  have hrd := hid (fun W t (ht : t.size ≤ 1000) => l01Read_any W t (by omega))
  have hro := hid (fun t (ht : (rdS t).length ≤ 8) => (show Few8 (rdAns t).1 from ⟨rdAns_ok t, rdAns_S ht⟩))
  have hz := zeroM_run
  have hz2 := hid (fun L W (h : St w0.heap.size w0 (Asn.src S v l.length :: L) W) => (h.newMB zeroM 27).f1)
  have hle := hid hS.le
  have hS := hid (((hz2.out _ _ hS).newOwn [.string { data := #[50, 58, 48, 97, 49, 97, 44, 49, 97, 48, 98] }, .string { data := #[50, 58, 48, 97, 49, 97, 44, 49, 97, 48, 97, 44, 48, 98, 49, 100, 44, 48, 98, 49, 101, 44, 48, 97, 49, 99] }, .string { data := #[50, 58, 48, 97, 49, 97, 44, 48, 97, 49, 99, 44, 49, 97, 48, 98] }, .string { data := #[50, 58, 48, 97, 49, 98, 44, 49, 97, 48, 98] }, .string { data := #[51, 58, 48, 97, 49, 97, 50, 97, 44, 49, 97, 48, 97, 50, 98, 44, 50, 97, 49, 99, 48, 97, 44, 48, 100, 50, 97, 49, 97] }, .string { data := #[51, 58, 48, 97, 49, 97, 50, 97, 44, 49, 97, 50, 97, 48, 97, 44, 48, 98, 49, 99, 50, 100, 44, 50, 97, 48, 97, 49, 97] }, .string { data := #[50, 58, 49, 98, 48, 99, 44, 48, 99, 49, 99, 44, 49, 97, 48, 98] }, .string { data := #[50, 58, 48, 98, 49, 97, 44, 49, 98, 48, 97] }] 9 (by simp)).f1)
  have htx := hid (fun W L r (hr : r < 8) (hW : St w0.heap.size w0 (Asn.src S v l.length :: Asn.own w0.heap.size 9 (.slice (some ⟨w.heap.size + 1, 0, none⟩) 8 8) [.string { data := #[50, 58, 48, 97, 49, 97, 44, 49, 97, 48, 98] }, .string { data := #[50, 58, 48, 97, 49, 97, 44, 49, 97, 48, 97, 44, 48, 98, 49, 100, 44, 48, 98, 49, 101, 44, 48, 97, 49, 99] }, .string { data := #[50, 58, 48, 97, 49, 97, 44, 48, 97, 49, 99, 44, 49, 97, 48, 98] }, .string { data := #[50, 58, 48, 97, 49, 98, 44, 49, 97, 48, 98] }, .string { data := #[51, 58, 48, 97, 49, 97, 50, 97, 44, 49, 97, 48, 97, 50, 98, 44, 50, 97, 49, 99, 48, 97, 44, 48, 100, 50, 97, 49, 97] }, .string { data := #[51, 58, 48, 97, 49, 97, 50, 97, 44, 49, 97, 50, 97, 48, 97, 44, 48, 98, 49, 99, 50, 100, 44, 50, 97, 48, 97, 49, 97] }, .string { data := #[50, 58, 49, 98, 48, 99, 44, 48, 99, 49, 99, 44, 49, 97, 48, 98] }, .string { data := #[50, 58, 48, 98, 49, 97, 44, 49, 98, 48, 97] }] :: L) W) => (show ∃ t, W.cell? ⟨w.heap.size + 1, r, none⟩ = some (.string t) ∧ Hid ((rdS t).length ≤ 8) ∧ t.size ≤ 1000 from by
    have hr' : r < tx8.length := hr
    have hm := tx8_S tx8[r] (List.getElem_mem hr')
    exact ⟨tx8[r], hW.o1.cellAt r _ (by rw [show ([.string { data := #[50, 58, 48, 97, 49, 97, 44, 49, 97, 48, 98] }, .string { data := #[50, 58, 48, 97, 49, 97, 44, 49, 97, 48, 97, 44, 48, 98, 49, 100, 44, 48, 98, 49, 101, 44, 48, 97, 49, 99] }, .string { data := #[50, 58, 48, 97, 49, 97, 44, 48, 97, 49, 99, 44, 49, 97, 48, 98] }, .string { data := #[50, 58, 48, 97, 49, 98, 44, 49, 97, 48, 98] }, .string { data := #[51, 58, 48, 97, 49, 97, 50, 97, 44, 49, 97, 48, 97, 50, 98, 44, 50, 97, 49, 99, 48, 97, 44, 48, 100, 50, 97, 49, 97] }, .string { data := #[51, 58, 48, 97, 49, 97, 50, 97, 44, 49, 97, 50, 97, 48, 97, 44, 48, 98, 49, 99, 50, 100, 44, 50, 97, 48, 97, 49, 97] }, .string { data := #[50, 58, 49, 98, 48, 99, 44, 48, 99, 49, 99, 44, 49, 97, 48, 98] }, .string { data := #[50, 58, 48, 98, 49, 97, 44, 49, 98, 48, 97] }] : List Value) = strs tx8 from rfl]; simp [strs, List.getElem?_eq_getElem hr']), hid hm.1, hm.2⟩))
  simp only [heap_alloc_size] at hS
  clear D
  go_enter Try.func180, Try.ntmps180
  go_upto_region 2 with (fail)
  generalize World.alloc (World.alloc w _) _ = wA at *
  simp only [List.length_cons, List.length_nil, Nat.reduceAdd] at hS
  generalize ([.string { data := #[50, 58, 48, 97, 49, 97, 44, 49, 97, 48, 98] }, .string { data := #[50, 58, 48, 97, 49, 97, 44, 49, 97, 48, 97, 44, 48, 98, 49, 100, 44, 48, 98, 49, 101, 44, 48, 97, 49, 99] }, .string { data := #[50, 58, 48, 97, 49, 97, 44, 48, 97, 49, 99, 44, 49, 97, 48, 98] }, .string { data := #[50, 58, 48, 97, 49, 98, 44, 49, 97, 48, 98] }, .string { data := #[51, 58, 48, 97, 49, 97, 50, 97, 44, 49, 97, 48, 97, 50, 98, 44, 50, 97, 49, 99, 48, 97, 44, 48, 100, 50, 97, 49, 97] }, .string { data := #[51, 58, 48, 97, 49, 97, 50, 97, 44, 49, 97, 50, 97, 48, 97, 44, 48, 98, 49, 99, 50, 100, 44, 50, 97, 48, 97, 49, 97] }, .string { data := #[50, 58, 49, 98, 48, 99, 44, 48, 99, 49, 99, 44, 49, 97, 48, 98] }, .string { data := #[50, 58, 48, 98, 49, 97, 44, 49, 98, 48, 97] }] : List Value) = cs at *
  generalize w.heap.size + 1 = gT at *
  have mk1 : True := trivial
  go_wp2_with (first
    | (go_at_call 132; clear mk1; (with_reducible refine (hN.out _ _ _ (by omega) hS.out).mono ?_); rintro e w1 ⟨r1, rfl, _, hS'⟩; replace hS := hid hS'; clear hS')
    | (go_at_call 132; (with_reducible refine (hN.out _ _ _ (by omega) hS.out).mono ?_); rintro e w2 ⟨r, rfl, hr, hS'⟩; (have hr8 : r < 8 := by omega); (have hr9 : (r : Int) < 8 := by omega); (have r0 : (0 : Int) ≤ (r : Int) := Int.natCast_nonneg _); (have e1 : wrap64 (1 + (r : Int)) = 1 + (r : Int) := w64 (by omega) (by omega)); (refine Exists.elim (htx.out w2 _ r hr8 hS') ?_); rintro t ⟨ct, ht, hts⟩; replace hS := hid hS'; clear hS' hr)
    | (go_at_call 132; (with_reducible refine (hN.out _ _ _ (by omega) hS.out).mono ?_); rintro e w2 ⟨r, rfl, hr, hS'⟩; (have hr8 : r < 8 := by omega); (have hr9 : (r : Int) < 8 := by omega); (have r0 : (0 : Int) ≤ (r : Int) := Int.natCast_nonneg _); (have e1 : wrap64 (1 + (r : Int)) = 1 + (r : Int) := w64 (by omega) (by omega)); replace hS := hid hS'; clear hS' hr)
    | (go_at_call 167; (with_reducible refine (hrd.out _ t hts).mono ?_); rintro e w3 ⟨rfl, hb⟩; (have hle3 := hid (hS.out.call hb).le); replace hS := hid (hz2.out _ _ (hS.out.call hb)); (have hF := hid (hro.out t ht.out)); clear ct hb; generalize (rdAns t).1 = M at *; generalize (rdAns t).2 = ok at *)
    | ((with_reducible refine gateOp (op := .store 27 (.tmp 4) (.tmp 19)) rfl ?_); refine store_mach rfl _ _ rfl w3.heap.size rfl M rfl 27 _ hS.out.f1.m0 ?_; intro w4 p3 ho hsz hbl; replace hS := hid (hS.out.f1.setM hle3.out p3 ho hbl); clear p3 ho hsz hbl)
    | ((with_reducible refine gate (N := 22) rfl ?_); refine load_mach rfl _ rfl w3.heap.size rfl M hS.out.m0 ?_)
    | ((with_reducible refine gateOp (op := .store 27 (.tmp 2) (.tmp 22)) rfl ?_); refine store_mach rfl _ _ rfl w.heap.size rfl M rfl 27 _ hS.out.f3.m0 ?_; intro w5 p3 ho hsz hbl; replace hS := hid (hS.out.f3.setM hle.out p3 ho hbl); clear p3 ho hsz hbl)
    | (go_at_call 133; (first | have hS2 := hS.out.list [.int .i64 2, .int .i64 2, .int .i64 3] (by simp) | have hS2 := hS.out.f1.list [.int .i64 2, .int .i64 2, .int .i64 3] (by simp)); (with_reducible refine (hP.out _ _ _ _ [2, 2, 3] (by simp) (by simp) hS2).mono ?_); rintro e w6 ⟨d', rfl, hd', hS'⟩; obtain ⟨d, rfl, hd⟩ := pick_two hd'; replace hS := hid hS'; clear hS' hS2 hd')
    | (go_at_call 133; (have hS2 := hS.out.list [.int .i64 1, .int .i64 2, .int .i64 3, .int .i64 4, .int .i64 5, .int .i64 (1 + (r : Int))] (by simp)); (with_reducible refine (hP.out _ _ _ _ [1, 2, 3, 4, 5, 1 + (r : Int)] (by simp) (by simp) hS2).mono ?_); rintro e w7 ⟨n', rfl, hn', hS'⟩; obtain ⟨n, rfl, hn⟩ := pick_six hr8 hn'; replace hS := hid hS'; clear hS' hS2 hn')
    | (go_at_call 161; (with_reducible refine (hA.out _ _ _ _ hd (by omega) hS.out).mono ?_); rintro e w8 ⟨M, rfl, hM, hS'⟩; (have hF := hid (hM.out.few hn)); replace hS := hid hS'; clear hS')
    | ((with_reducible refine gateOp (op := .store 27 (.tmp 2) (.tmp 33)) rfl ?_); refine store_mach rfl _ _ rfl w.heap.size rfl M rfl 27 _ hS.out.f2.m0 ?_; intro w9 p3 ho hsz hbl; replace hS := hid (hS.out.f2.setM hle.out p3 ho hbl); clear p3 ho hsz hbl)
    | ((with_reducible refine gateOp (op := .store 27 (.tmp 2) (.tmp 33)) rfl ?_); refine store_mach rfl _ _ rfl w.heap.size rfl M rfl 27 _ hS.out.f3.m0 ?_; intro w9 p3 ho hsz hbl; replace hS := hid (hS.out.f3.setM hle.out p3 ho hbl); clear p3 ho hsz hbl))
  all_goals first
    | exact ret_mach rfl rfl hS.out.m0 rfl ⟨M, rfl, hF, hS.out.drop.drop.f1.drop⟩
    | exact ret_mach rfl rfl hS.out.m0 rfl ⟨M, rfl, hF, hS.out.drop.f1.drop⟩
    | exact ret_mach rfl rfl hS.out.m0 rfl ⟨M, rfl, hF, hS.out.drop.f1.drop.f1.drop⟩
theorem MB.setL {w : World} {t b : Nat} {m : Mach} (h : MB w t b m) (x : Int) : MB (w.setCell ⟨b, 0, none⟩ (.int .i64 x)) t b { m with L := x } := by
  refine World.rowIs.congr (World.rowIs.set h 0 _) (fun i hi => ?_)
  unfold mf
  by_cases e : i = 0
  · rw [if_pos e, if_pos e]
  · rw [if_neg e, if_neg e, if_neg e]
theorem MB.setS {w : World} {t b : Nat} {m : Mach} (h : MB w t b m) (x : Int) : MB (w.setCell ⟨b, 1, none⟩ (.int .i64 x)) t b { m with S := x } := by
  refine World.rowIs.congr (World.rowIs.set h 1 _) (fun i hi => ?_)
  unfold mf
  by_cases e : i = 1
  · rw [if_pos e, if_neg (by omega), if_pos e]
  · rw [if_neg e]
    by_cases e0 : i = 0
    · rw [if_pos e0, if_pos e0]
    · rw [if_neg e0, if_neg e, if_neg e0, if_neg e]
theorem St.setL {base t bn : Nat} {w0 w : World} {L : List Asn} {m : Mach} (h : St base w0 (Asn.mb t bn m :: L) w) (hb : base ≤ bn) (x : Int) : St base w0 (Asn.mb t bn { m with L := x } :: L) (w.setCell ⟨bn, 0, none⟩ (.int .i64 x)) :=
  h.turn (a' := Asn.mb t bn _) (MB.setL h.star.1 x) (fun k hk => .inl hk) (fun k hk => (show k = bn from hk) ▸ hb) ((Below.refl _ _).setCell hb _) fun k _ hk => heap_setCell_other w ⟨bn, _, none⟩ k _ hk
theorem St.setS {base t bn : Nat} {w0 w : World} {L : List Asn} {m : Mach} (h : St base w0 (Asn.mb t bn m :: L) w) (hb : base ≤ bn) (x : Int) : St base w0 (Asn.mb t bn { m with S := x } :: L) (w.setCell ⟨bn, 1, none⟩ (.int .i64 x)) :=
  h.turn (a' := Asn.mb t bn _) (MB.setS h.star.1 x) (fun k hk => .inl hk) (fun k hk => (show k = bn from hk) ▸ hb) ((Below.refl _ _).setCell hb _) fun k _ hk => heap_setCell_other w ⟨bn, _, none⟩ k _ hk
theorem IsM.few {m : Mach} (h : IsM m) : 1 ≤ m.S ∧ m.S ≤ 16 := by
  obtain ⟨l, s, g⟩ := h.good
  have := g.S; have := g.s1; have := g.s16
  omega
theorem Few8.setL {m : Mach} (h : Few8 m) (x : Int) : Low8 { m with L := x } := ⟨h.1, fun _ => h.2.2⟩
theorem Few8.setS {m : Mach} (h : Few8 m) {x : Int} (hx : x ∈ [0, 17, -1, wrap64 (m.S - 1)]) : Low8 { m with S := x } := by
  refine ⟨h.1, fun hm => ?_⟩
  have h2 := hm.few
  have h3 : 1 ≤ x ∧ x ≤ 16 := h2
  show x ≤ 8
  have h4 := h.2.1; have h5 := h.2.2
  rw [w64 (by omega) (by omega)] at hx
  simp only [List.mem_cons, List.not_mem_nil, or_false] at hx
  rcases hx with rfl | rfl | rfl | rfl <;> omega
theorem Few8.setN {m : Mach} (h : Few8 m) (i v : Nat) (hv : v < 256) : Low8 { m with nx := upd m.nx i v } := ⟨(MLS.nx (L := m.L) (S := m.S) ⟨h.1, rfl, rfl⟩ i v hv).1, fun _ => h.2.2⟩
theorem Few8.setO {m : Mach} (h : Few8 m) (i v : Nat) (hv : v < 256) : Low8 { m with ot := upd m.ot i v } := ⟨(MLS.ot (L := m.L) (S := m.S) ⟨h.1, rfl, rfl⟩ i v hv).1, fun _ => h.2.2⟩
set_option maxHeartbeats 4000000 in
set_option maxRecDepth 100000 in
theorem Dg.bad (D : Dg w0 S v l) (m : Mach) (hm : Few8 m) (hS : St w0.heap.size w0 (Asn.src S v l.length :: L) w) :
    Calls Try.prog 162 #[.pointer (some ⟨S, 0, none⟩), .agg (mcells m)] w fun e w' => ∃ m : Mach, e = .returned (.agg (mcells m)) ∧ Hid (Low8 m) ∧ St w0.heap.size w0 (Asn.src S v l.length :: L) w' := by
  have hN := hid (fun W L n (h0 : n ≤ 1000000000) hW => D.next (w := W) (L := L) n h0 hW)
  have hP := hid (fun W L b2 v2 M hM hMl hW => D.pick (w := W) (L := L) (b2 := b2) (v2 := v2) M hM hMl hW)
  have hz := zeroM_run
  have hle := hid hS.le
  have hS := hid (((hS.newMB m 27).f1.newMB zeroM 27).f1)
  have hle2 := hid (show w0.heap.size ≤ w.heap.size + 1 from Nat.le_succ_of_le hle.out)
  simp only [heap_alloc_size] at hS
  replace hm := hid hm
  clear D
  go_enter Try.func162, Try.ntmps162
  go_upto_region 2 with (first
    | (go_at_call 132; (with_reducible refine (hN.out _ _ _ (by omega) hS.out).mono ?_); rintro e w1 ⟨k, rfl, _, hS'⟩; replace hS := hid hS'; clear hS'))
  generalize w.heap.size + 1 = b4 at *
  have cL := hS.out.m2.cL
  have cS := hS.out.m2.cS
  have fL : w1.frozen? ⟨w.heap.size, 0, none⟩ = false := World.rowIs.frozen hS.out.m2 _
  have fS : w1.frozen? ⟨w.heap.size, 1, none⟩ = false := World.rowIs.frozen hS.out.m2 _
  by_cases k0 : k = 0
  · subst k0
    go_upto_region 10 with (first
      | (go_at_call 133; (have hS2 := hS.out.list [.int .i64 0, .int .i64 1, .int .i64 4, .int .i64 (-1), .int .i64 (wrap64 (5 - m.L))] (by simp)); (with_reducible refine (hP.out _ _ _ _ [0, 1, 4, -1, wrap64 (5 - m.L)] (by simp) (by simp) hS2).mono ?_); rintro e w6 ⟨x, rfl, _, hS'⟩; replace hS := hid hS'; clear hS' hS2 cL cS fL fS; (obtain ⟨vl, cL⟩ : ∃ u, w6.cell? ⟨w.heap.size, 0, none⟩ = some u := ⟨_, hS.out.m2.cL⟩); (have fL : w6.frozen? ⟨w.heap.size, 0, none⟩ = false := World.rowIs.frozen hS.out.m2 _)))
    replace hS := hid (hS.out.f2.setL hle.out x)
    have hF := hid (hm.out.setL x)
    generalize World.setCell w6 _ _ = wz at *
    generalize hMM : Mach.mk _ _ _ _ = M at hS hF
    clear hMM
    go_wp2_with (first
      | ((with_reducible refine gate (N := 49) rfl ?_); refine load_mach rfl _ rfl w.heap.size rfl M hS.out.m0 ?_)
      | ((with_reducible refine gateOp (op := .store 27 (.tmp 4) (.tmp 49)) rfl ?_); refine store_mach rfl _ _ rfl b4 rfl M rfl 27 _ hS.out.f2.m0 ?_; intro w9 p3 ho hsz hbl; replace hS := hid (hS.out.f2.setM hle2.out p3 ho hbl); clear p3 ho hsz hbl))
    exact ret_mach rfl rfl hS.out.m0 rfl ⟨M, rfl, hF, hS.out.drop.drop⟩
  · have d0 : ((k : Int) == 0) = false := by simp; omega
    by_cases k1 : k = 1
    · subst k1
      go_upto_region 10 with (first
        | (go_at_call 133; (have hS2 := hS.out.list [.int .i64 0, .int .i64 17, .int .i64 (-1), .int .i64 (wrap64 (m.S - 1))] (by simp)); (with_reducible refine (hP.out _ _ _ _ [0, 17, -1, wrap64 (m.S - 1)] (by simp) (by simp) hS2).mono ?_); rintro e w6 ⟨x, rfl, hx, hS'⟩; replace hS := hid hS'; replace hx := hid hx; clear hS' hS2 cL cS fL fS; (obtain ⟨vl, cL⟩ : ∃ u, w6.cell? ⟨w.heap.size, 1, none⟩ = some u := ⟨_, hS.out.m2.cS⟩); (have fL : w6.frozen? ⟨w.heap.size, 1, none⟩ = false := World.rowIs.frozen hS.out.m2 _)))
      replace hS := hid (hS.out.f2.setS hle.out x)
      have hF := hid (hm.out.setS hx.out)
      generalize World.setCell w6 _ _ = wz at *
      generalize hMM : Mach.mk _ _ _ _ = M at hS hF
      clear hMM
      go_wp2_with (first
        | ((with_reducible refine gate (N := 49) rfl ?_); refine load_mach rfl _ rfl w.heap.size rfl M hS.out.m0 ?_)
        | ((with_reducible refine gateOp (op := .store 27 (.tmp 4) (.tmp 49)) rfl ?_); refine store_mach rfl _ _ rfl b4 rfl M rfl 27 _ hS.out.f2.m0 ?_; intro w9 p3 ho hsz hbl; replace hS := hid (hS.out.f2.setM hle2.out p3 ho hbl); clear p3 ho hsz hbl))
      exact ret_mach rfl rfl hS.out.m0 rfl ⟨M, rfl, hF, hS.out.drop.drop⟩
    · have d1 : ((k : Int) == 1) = false := by simp; omega
      by_cases k2 : k = 2
      · subst k2
        go_upto_region 7 with (fail)
        have mk1 : True := trivial
        have mk2 : True := trivial
        clear cL cS fL fS
        go_region_with (first
          | (go_at_call 132; clear mk1; (with_reducible refine (hN.out _ _ _ (by omega) hS.out.drew).mono ?_); rintro e w5 ⟨r, rfl, hr, hS'⟩; (have r0 : (0 : Int) ≤ (r : Int) := Int.natCast_nonneg _); (have r1 : (r : Int) < 16 := by omega); replace hS := hid hS'; clear hS')
          | (go_at_call 132; clear mk2; (with_reducible refine (hN.out _ _ _ (by omega) hS.out).mono ?_); rintro e w6 ⟨x, rfl, hx, hS'⟩; (have x0 : (0 : Int) ≤ (x : Int) := Int.natCast_nonneg _); (have x1 : (x : Int) < 3 := by omega); replace hS := hid hS'; clear hS')
          | (go_at_call 132; (with_reducible refine (hN.out _ _ _ (by omega) hS.out).mono ?_); rintro e w7 ⟨y, rfl, hy, hS'⟩; replace hS := hid hS'; clear hS'; (have y1 : y < 256 := by omega); (have e1 : IntKind.u8.wrap (y : Int) = y := u8_of y y1); (have hrx := hid (show r < 16 ∧ x < 3 by omega)); (obtain ⟨vn, cn⟩ : ∃ u, w7.cell? ⟨w.heap.size, 2 + r * 3 + x, none⟩ = some u := ⟨_, hS.out.m2.cnx r x hrx.out.1 hrx.out.2⟩); (have fn : w7.frozen? ⟨w.heap.size, 2 + r * 3 + x, none⟩ = false := World.rowIs.frozen hS.out.m2 _)))
        replace hS := hid (hS.out.f2.setNx hle.out r x y hrx.out.1 hrx.out.2)
        have hF := hid (hm.out.setN (r * 3 + x) y y1)
        generalize World.setCell w7 _ _ = wz at *
        generalize hMM : Mach.mk _ _ _ _ = M at hS hF
        clear hMM
        go_wp2_with (first
          | ((with_reducible refine gate (N := 49) rfl ?_); refine load_mach rfl _ rfl w.heap.size rfl M hS.out.m0 ?_)
          | ((with_reducible refine gateOp (op := .store 27 (.tmp 4) (.tmp 49)) rfl ?_); refine store_mach rfl _ _ rfl b4 rfl M rfl 27 _ hS.out.f2.m0 ?_; intro w9 p3 ho hsz hbl; replace hS := hid (hS.out.f2.setM hle2.out p3 ho hbl); clear p3 ho hsz hbl))
        exact ret_mach rfl rfl hS.out.m0 rfl ⟨M, rfl, hF, hS.out.drop.drop⟩
      · have d2 : ((k : Int) == 2) = false := by simp; omega
        by_cases k3 : k = 3
        · subst k3
          go_upto_region 9 with (fail)
          have mk1 : True := trivial
          have mk2 : True := trivial
          clear cL cS fL fS
          go_region_with (first
            | (go_at_call 132; clear mk1; (with_reducible refine (hN.out _ _ _ (by omega) hS.out.drew).mono ?_); rintro e w5 ⟨r, rfl, hr, hS'⟩; (have r0 : (0 : Int) ≤ (r : Int) := Int.natCast_nonneg _); (have r1 : (r : Int) < 16 := by omega); replace hS := hid hS'; clear hS')
            | (go_at_call 132; clear mk2; (with_reducible refine (hN.out _ _ _ (by omega) hS.out).mono ?_); rintro e w6 ⟨x, rfl, hx, hS'⟩; (have x0 : (0 : Int) ≤ (x : Int) := Int.natCast_nonneg _); (have x1 : (x : Int) < 3 := by omega); replace hS := hid hS'; clear hS')
            | (go_at_call 132; (with_reducible refine (hN.out _ _ _ (by omega) hS.out).mono ?_); rintro e w7 ⟨y, rfl, hy, hS'⟩; replace hS := hid hS'; clear hS'; (have y1 : y < 256 := by omega); (have e1 : IntKind.u8.wrap (y : Int) = y := u8_of y y1); (have hrx := hid (show r < 16 ∧ x < 3 by omega)); (obtain ⟨vn, cn⟩ : ∃ u, w7.cell? ⟨w.heap.size, 50 + r * 3 + x, none⟩ = some u := ⟨_, hS.out.m2.cot r x hrx.out.1 hrx.out.2⟩); (have fn : w7.frozen? ⟨w.heap.size, 50 + r * 3 + x, none⟩ = false := World.rowIs.frozen hS.out.m2 _)))
          replace hS := hid (hS.out.f2.setOt hle.out r x y hrx.out.1 hrx.out.2)
          have hF := hid (hm.out.setO (r * 3 + x) y y1)
          generalize World.setCell w7 _ _ = wz at *
          generalize hMM : Mach.mk _ _ _ _ = M at hS hF
          clear hMM
          go_wp2_with (first
            | ((with_reducible refine gate (N := 49) rfl ?_); refine load_mach rfl _ rfl w.heap.size rfl M hS.out.m0 ?_)
            | ((with_reducible refine gateOp (op := .store 27 (.tmp 4) (.tmp 49)) rfl ?_); refine store_mach rfl _ _ rfl b4 rfl M rfl 27 _ hS.out.f2.m0 ?_; intro w9 p3 ho hsz hbl; replace hS := hid (hS.out.f2.setM hle2.out p3 ho hbl); clear p3 ho hsz hbl))
          exact ret_mach rfl rfl hS.out.m0 rfl ⟨M, rfl, hF, hS.out.drop.drop⟩
        · have d3 : ((k : Int) == 3) = false := by simp; omega
          replace hS := hid hS.out.f2
          have hF := hid hm.out.low
          clear cL cS fL fS
          go_wp2_with (first
            | ((with_reducible refine gate (N := 49) rfl ?_); refine load_mach rfl _ rfl w.heap.size rfl m hS.out.m0 ?_)
            | ((with_reducible refine gateOp (op := .store 27 (.tmp 4) (.tmp 49)) rfl ?_); refine store_mach rfl _ _ rfl b4 rfl m rfl 27 _ hS.out.f2.m0 ?_; intro w9 p3 ho hsz hbl; replace hS := hid (hS.out.f2.setM hle2.out p3 ho hbl); clear p3 ho hsz hbl))
          exact ret_mach rfl rfl hS.out.m0 rfl ⟨m, rfl, hF, hS.out.drop.drop⟩
set_option maxHeartbeats 4000000 in
set_option maxRecDepth 100000 in
theorem Dg.spoil (D : Dg w0 S v l) (hS : St w0.heap.size w0 (Asn.src S v l.length :: L) w) :
    Calls Try.prog 77 #[.pointer (some ⟨S, 0, none⟩)] w fun e w' => ∃ m : Mach, e = .returned (.agg (mcells m)) ∧ Hid (Low8 m) ∧ St w0.heap.size w0 (Asn.src S v l.length :: L) w' := by
  have hR := hid (fun W L hW => D.draw (w := W) (L := L) hW)
  have hB := hid (fun W L m hm hW => D.bad (w := W) (L := L) m hm hW)
  have hz := zeroM_run
  have hle := hid hS.le
  have hS := hid ((hS.newMB zeroM 27).f1)
  clear D
  go_enter Try.func77, Try.ntmps77
  go_wp2_with (first
    | (go_at_call 180; (with_reducible refine (hR.out _ _ hS.out).mono ?_); rintro e w1 ⟨m0, rfl, hm, hS'⟩; replace hS := hid hS'; clear hS')
    | (go_at_call 162; (with_reducible refine (hB.out _ _ m0 hm.out hS.out).mono ?_); rintro e w2 ⟨M, rfl, hF, hS'⟩; replace hS := hid hS'; clear hS')
    | ((with_reducible refine gateOp (op := .store 27 (.tmp 2) (.tmp 6)) rfl ?_); refine store_mach rfl _ _ rfl w.heap.size rfl M rfl 27 _ hS.out.f1.m0 ?_; intro w9 p3 ho hsz hbl; replace hS := hid (hS.out.f1.setM hle.out p3 ho hbl); clear p3 ho hsz hbl))
  exact ret_mach rfl rfl hS.out.m0 rfl ⟨M, rfl, hF, hS.out.drop⟩
end
end Go.Proofs.Ytbmkkaecfogmoaa

/- Draws of machines and levels. -/
namespace Go.Proofs.Ytbmkkaecfogmoaa
open Go.RowKit
set_option linter.unusedVariables false
set_option linter.unusedSimpArgs false
-- @LONG

theorem Low8.ok {m : Mach} (h : Low8 m) : m.Ok := h.1
theorem ret_mvv {fn : Func} {R : Ending → World → Prop} {a : Act} {w : World} {p q r : Nat} (h : fn.results = #[.cell p 27, .tmp q, .tmp r]) {g t : Nat} {m : Mach} {v u : Value}
    (hp : a.tmps.getD p undef = .pointer (some ⟨g, 0, none⟩)) (hq : a.tmps.getD q undef = v) (hr : a.tmps.getD r undef = u) (hm : MB w t g m) (hdf : a.defers = []) (hR : R (.returned (.tuple #[.agg (mcells m), v, u])) w) : bodyPost Try.prog fn R .ret a w := by
  refine bodyPost_ret (v := .tuple #[.agg (mcells m), v, u]) ?_ hdf hR
  have hp' : a.tmps[p]?.getD undef = .pointer (some ⟨g, 0, none⟩) := by simpa using hp
  have hq' : a.tmps[q]?.getD undef = v := by simpa using hq
  have hr' : a.tmps[r]?.getD undef = u := by simpa using hr
  have := run_loadVar_row (P := Try.prog) w g t 27 (mcells m) (0, 0) _ hm.heap Try.underlying27 rfl (by rw [size_mcells]; exact sz_mach)
  simp [results, h, hp', hq', hr', asAddr, this]
theorem ret_mvvv {fn : Func} {R : Ending → World → Prop} {a : Act} {w : World} {p q r s : Nat} (h : fn.results = #[.cell p 27, .tmp q, .tmp r, .tmp s]) {g t : Nat} {m : Mach} {v u x : Value}
    (hp : a.tmps.getD p undef = .pointer (some ⟨g, 0, none⟩)) (hq : a.tmps.getD q undef = v) (hr : a.tmps.getD r undef = u) (hs : a.tmps.getD s undef = x) (hm : MB w t g m) (hdf : a.defers = []) (hR : R (.returned (.tuple #[.agg (mcells m), v, u, x])) w) : bodyPost Try.prog fn R .ret a w := by
  refine bodyPost_ret (v := .tuple #[.agg (mcells m), v, u, x]) ?_ hdf hR
  have hp' : a.tmps[p]?.getD undef = .pointer (some ⟨g, 0, none⟩) := by simpa using hp
  have hq' : a.tmps[q]?.getD undef = v := by simpa using hq
  have hr' : a.tmps[r]?.getD undef = u := by simpa using hr
  have hs' : a.tmps[s]?.getD undef = x := by simpa using hs
  have := run_loadVar_row (P := Try.prog) w g t 27 (mcells m) (0, 0) _ hm.heap Try.underlying27 rfl (by rw [size_mcells]; exact sz_mach)
  simp [results, h, hp', hq', hr', hs', asAddr, this]
theorem Dg.from5 {w W : World} {v : Value} {l : List Nat} {L : List Asn} (hv : ArgB w v l) (hl : l.length ≤ 5000) (hS : St w.heap.size w L W) :
    Calls Try.prog 78 #[v] W fun e w' => ∃ S, e = .returned (.pointer (some ⟨S, 0, none⟩)) ∧ Hid (Dg w S v l) ∧ St w.heap.size w (Asn.src S v l.length :: L) w' := by
  refine (l01From_any W v l (hv.below hS.bel) hl).mono ?_
  rintro e w' ⟨rfl, h⟩
  exact ⟨_, rfl, hid ⟨hv, hl, hS.le⟩, hS.callPush (a := Asn.src W.heap.size v l.length) h.bel h.star.1 fun k hk => Nat.le_of_eq (show k = W.heap.size from hk).symm⟩
theorem Dg.from {w W : World} {v : Value} {l : List Nat} {L : List Asn} (hv : ArgB w v l) (hl : l.length ≤ 4096) (hS : St w.heap.size w L W) :
    Calls Try.prog 78 #[v] W fun e w' => ∃ S, e = .returned (.pointer (some ⟨S, 0, none⟩)) ∧ Hid (Dg w S v l) ∧ St w.heap.size w (Asn.src S v l.length :: L) w' := Dg.from5 hv (by omega) hS
section
variable {w0 w : World} {S : Nat} {v : Value} {l : List Nat} {L : List Asn}
end
end Go.Proofs.Ytbmkkaecfogmoaa

/- The dice of the great laws. -/
namespace Go.Proofs.Ytbmkkaecfogmoaa
open Go.RowKit
set_option linter.unusedVariables false
set_option linter.unusedSimpArgs false
-- @LONG

/-- Dice: their code, how far it is read, their number. -/
def Asn.dic (S : Nat) (v : Value) (n : Nat) : Asn :=
  ⟨fun k => k = S, fun w => ∃ a h : Nat, w.heap[S]? = some (.cells #[v, .int .i64 a, .int .u64 h] 191 (0, 0)) ∧ a ≤ n ∧ h < 18446744073709551616,
   fun ⟨a, h, h1, h2⟩ hk => ⟨a, h, (hk S rfl).trans h1, h2⟩, fun ⟨a, h, h1, _⟩ k hk => hk ▸ (Array.getElem?_eq_some_iff.1 h1).1⟩
theorem St.dicBlk {base S n : Nat} {w0 w : World} {L : List Asn} {v : Value} (h : St base w0 (Asn.dic S v n :: L) w) : ∃ a x : Nat, a ≤ n ∧ x < 18446744073709551616 ∧ St base w0 (Asn.blk S #[v, .int .i64 a, .int .u64 x] 191 :: L) w := by
  obtain ⟨⟨a, x, h1, h2, h3⟩, hf, hL⟩ := h.star
  exact ⟨a, x, h2, h3, h.bel, h.le, h1, hf, hL⟩
theorem St.blkDic {base S n a x : Nat} {w0 w : World} {L : List Asn} {v : Value} (h : St base w0 (Asn.blk S #[v, .int .i64 a, .int .u64 x] 191 :: L) w) (ha : a ≤ n) (hx : x < 18446744073709551616) : St base w0 (Asn.dic S v n :: L) w :=
  ⟨h.bel, h.le, ⟨a, x, h.star.1, ha, hx⟩, h.star.2.1, h.star.2.2⟩
set_option maxHeartbeats 2000000 in
set_option maxRecDepth 100000 in
theorem below_any (w0 : World) (L : List Asn) (w : World) (S : Nat) (v : Value) (l : List Nat) (hv : ArgB w0 v l) (hl : l.length ≤ 4096) (hSb : w0.heap.size ≤ S) (n : Int) (hn : n < 9223372036854775808)
    (hS : St w0.heap.size w0 (Asn.dic S v l.length :: L) w) :
    Calls Try.prog 86 #[.pointer (some ⟨S, 0, none⟩), .int .i64 n] w fun e w' => ∃ r : Int, e = .returned (.int .i64 r) ∧ 0 ≤ r ∧ (r < n ∨ r = 0) ∧ St w0.heap.size w0 (Asn.dic S v l.length :: L) w' := by
  have hv' := hid hv
  obtain ⟨A, c, rfl, hA⟩ := hv
  obtain ⟨a, x, ha, hx, hB⟩ := hS.dicBlk
  by_cases h1 : n < 1
  · have d1 : decide (n < 1) = true := decide_eq_true h1
    replace hS := hid hS
    clear hB
    go_enter Try.func86, Try.ntmps86
    go_wp2
    go_ret
    exact ⟨0, rfl, by omega, .inr rfl, hS.out⟩
  · have d1 : decide (n < 1) = false := decide_eq_false h1
    have c2 := (show w.cell? ⟨S, 2, none⟩ = some (.int .u64 x) from cell_of_row _ _ 2 _ _ _ hB.k0)
    have f2 := frozen_of_row _ _ 2 _ _ hB.k0
    replace hB := hid hB
    clear hS
    go_enter Try.func86, Try.ntmps86
    go_upto_region 4 with (fail)
    obtain ⟨y, hy, hy2⟩ := u64_nat (IntKind.u64.wrap ((x : Int) * 6364136223846793005) + 1442695040888963407)
    rw [hy]
    clear hy
    replace hB := hid (show St w0.heap.size w0 (Asn.blk S #[.slice A l.length c, .int .i64 a, .int .u64 y] 191 :: L) _ from hB.out.setBlk hSb 2 (.int .u64 y))
    clear c2 f2
    generalize w.setCell _ _ = w1 at *
    have c2 := (show w1.cell? ⟨S, 2, none⟩ = some (.int .u64 y) from cell_of_row _ _ 2 _ _ _ hB.out.k0)
    have c1 := (show w1.cell? ⟨S, 1, none⟩ = some (.int .i64 a) from cell_of_row _ _ 1 _ _ _ hB.out.k0)
    have c0 := (show w1.cell? ⟨S, 0, none⟩ = some (.slice A l.length c) from cell_of_row _ _ 0 _ _ _ hB.out.k0)
    have f1 := frozen_of_row _ _ 1 _ _ hB.out.k0
    go_upto_region 5 with (fail)
    obtain ⟨z, hz, hz2⟩ := and24 y hy2
    rw [hz]
    clear hz
    rw [w64 (show -9223372036854775808 ≤ (z : Int) by omega) (show (z : Int) ≤ 9223372036854775807 by omega)]
    have dz : ¬ n = 0 := by omega
    by_cases hlt : a < l.length
    · have da : decide ((a : Int) < (l.length : Int)) = true := decide_eq_true (by omega)
      obtain ⟨g, rfl, hc⟩ : ∃ g : Addr, A = some g ∧ ∀ i x, l[i]? = some x → x < 256 ∧ w0.cell? (g.add i) = some (.int .u8 (x : Nat)) ∧ (g.add i).block < w0.heap.size := by
        rcases hA with ⟨_, h⟩ | ⟨g, h, hh⟩
        · rw [h] at hlt; simp at hlt
        · exact ⟨g, h, hh⟩
      obtain ⟨b, hb⟩ : ∃ b, l[a]? = some b := ⟨_, List.getElem?_eq_getElem hlt⟩
      obtain ⟨hb1, hb2, hb3⟩ := hc a b hb
      have cb := (hB.out.bel.cell hb3).trans hb2
      have a0 : (0 : Int) ≤ (a : Int) := Int.natCast_nonneg _
      have a1 : (a : Int) < (l.length : Int) := by omega
      have ew : wrap64 ((z : Int) + (b : Int)) = (z : Int) + b := w64 (by omega) (by omega)
      have ew1 : wrap64 ((a : Int) + 1) = (a : Int) + 1 := w64 (by omega) (by omega)
      have ewb : wrap64 (b : Int) = (b : Int) := w64 (by omega) (by omega)
      have hr1 := Int.emod_nonneg ((z : Int) + b) (show n ≠ 0 by omega)
      have hr2 := Int.emod_lt_of_pos ((z : Int) + b) (show 0 < n by omega)
      have m1 : Int.tmod ((z : Int) + (b : Int)) n = ((z : Int) + b) % n := Int.tmod_eq_emod_of_nonneg (Int.add_nonneg (Int.natCast_nonneg _) (Int.natCast_nonneg _))
      clear hA hc hb hb2 hb3
      replace hy2 := hid hy2; replace hx := hid hx; replace hn := hid hn; replace hz2 := hid hz2
      go_quiet (fail)
      go_upto_region 6 with (fail)
      go_quiet (fail)
      rw [ew]
      obtain ⟨w3, hw3, hB3⟩ : ∃ w3, (World.drewN (World.drewN w1 _) nq) = w3 ∧ St w0.heap.size w0 (Asn.blk S #[.slice (some g) l.length c, .int .i64 a, .int .u64 y] 191 :: L) w3 := ⟨_, rfl, (hB.out.drewN _).drewN _⟩
      rw [hw3]
      replace hB := hid hB3
      clear hw3 hB3 c0 c1 c2 f1 cb
      have c1 := (show w3.cell? ⟨S, 1, none⟩ = some (.int .i64 a) from cell_of_row _ _ 1 _ _ _ hB.out.k0)
      have f1 := frozen_of_row _ _ 1 _ _ hB.out.k0
      go_upto_region 8 with (fail)
      replace hB := hid (show St w0.heap.size w0 (Asn.blk S #[.slice (some g) l.length c, .int .i64 ((a : Int) + 1), .int .u64 y] 191 :: L) _ from hB.out.setBlk hSb 1 (.int .i64 ((a : Int) + 1)))
      generalize w3.setCell _ _ = w4 at *
      have ea : (a : Int) + 1 = ((a + 1 : Nat) : Int) := rfl
      rw [ea] at hB
      clear c1 f1 ew ew1 ewb
      go_wp2
      go_ret
      exact ⟨((z : Int) + b) % n, by first | rfl | (rw [m1]), hr1, .inl hr2, (hB.out.blkDic (by omega) hy2.out)⟩
    · have da : decide ((a : Int) < (l.length : Int)) = false := decide_eq_false (by omega)
      have hr1 := Int.emod_nonneg (z : Int) (show n ≠ 0 by omega)
      have hr2 := Int.emod_lt_of_pos (z : Int) (show 0 < n by omega)
      have m1 : Int.tmod (z : Int) n = (z : Int) % n := Int.tmod_eq_emod_of_nonneg (Int.natCast_nonneg _)
      go_quiet (fail)
      go_wp2
      go_ret
      exact ⟨(z : Int) % n, by first | rfl | (rw [m1]), hr1, .inl hr2, ((hB.out.drewN _).blkDic ha hy2)⟩
theorem built_dice (A : Option Addr) (n c : Nat) (x : Int) : Try.prog.built 191 [(0, .slice A n c), (2, .int .u64 x)] = some #[.slice A n c, .int .i64 0, .int .u64 x] := by kernel_rfl
set_option maxHeartbeats 2000000 in
set_option maxRecDepth 100000 in
theorem roll_any (w : World) (v : Value) (l : List Nat) (hv : ArgB w v l) (hl : l.length ≤ 4096) (sd : Int) :
    Calls Try.prog 85 #[v, .int .u64 sd] w fun e w' => e = .returned (.pointer (some ⟨w.heap.size, 0, none⟩)) ∧ St w.heap.size w [Asn.dic w.heap.size v l.length] w' := by
  have hv' := hid hv
  obtain ⟨A, c, rfl, hA⟩ := hv
  have hbs := fun (x : Int) => built_dice A l.length c x
  have hby := hid (fun i (hi : i < l.length) => (show ∃ (g : Addr) (b : Nat), A = some g ∧ b < 256 ∧ w.cell? (g.add i) = some (.int .u8 (b : Nat)) ∧ (g.add i).block < w.heap.size from by
    rcases hA with ⟨_, h⟩ | ⟨g, h, hh⟩
    · rw [h] at hi; simp at hi
    · obtain ⟨h1, h2, h3⟩ := hh i _ (List.getElem?_eq_getElem hi)
      exact ⟨g, _, h, h1, h2, h3⟩))
  clear hA
  have hux := hid u64_nat
  generalize hn : l.length = n at *
  go_enter Try.func85, Try.ntmps85
  go_upto_region 2 with (fail)
  obtain ⟨y0, hy0, hy02⟩ := hux.out (IntKind.u64.wrap (sd * 6257) + (n : Int))
  rw [hy0]
  have hS1 := hid ((show St w.heap.size w [Asn.blk w.heap.size #[.slice A n c, .int .i64 ((0 : Nat) : Int), .int .u64 ((y0 : Nat) : Int)] 191] _ from (St.start w).newBlk #[.slice A n c, .int .i64 0, .int .u64 (y0 : Nat)] 191).blkDic (n := n) (Nat.zero_le _) hy02)
  generalize World.alloc w _ = w1 at *
  clear hbs hy0
  replace hy02 := hid hy02
  go_wp2
  go_loopw [6] (fun i wr => ∃ k : Nat, k ≤ n ∧ i = .int .i64 k ∧ St w.heap.size w [Asn.dic w.heap.size (.slice A n c) n] wr) (fun i _ => n - (intOf i).toNat)
  case atStart => exact ⟨0, Nat.zero_le _, rfl, hS1.out⟩
  case round =>
    obtain ⟨k, hk, rfl, rS⟩ := hrel
    clear hS1
    by_cases hlt : k < n
    · have dk : decide ((k : Int) < (n : Int)) = true := decide_eq_true (by omega)
      obtain ⟨a, x, ha, hx, hB⟩ := rS.dicBlk
      obtain ⟨g, b, rfl, hb, hb2, hb3⟩ := hby.out k hlt
      have cb := (hB.bel.cell hb3).trans hb2
      have c2 := (show wr.cell? ⟨w.heap.size, 2, none⟩ = some (.int .u64 x) from cell_of_row _ _ 2 _ _ _ hB.k0)
      have f2 := frozen_of_row _ _ 2 _ _ hB.k0
      have k0 : (0 : Int) ≤ (k : Int) := Int.natCast_nonneg _
      have k1 : (k : Int) < (n : Int) := by omega
      replace hB := hid hB; replace hx := hid hx
      clear rS hb2 hb3
      go_upto_region 5 with (fail)
      go_region
      obtain ⟨y, hy, hy2⟩ := u64_nat (IntKind.u64.wrap (IntKind.u64.wrap ((x : Int) * 1099511628211) + (b : Int)) + 5)
      rw [hy]
      replace hB := hid ((show St w.heap.size w [Asn.blk w.heap.size #[.slice (some g) n c, .int .i64 a, .int .u64 y] 191] _ from hB.out.setBlk (Nat.le_refl _) 2 (.int .u64 y)).drew)
      generalize World.drew _ = w5 at *
      clear hy c2 f2 cb
      replace hy2 := hid hy2
      go_wp2
      go_roundw
      case rel => exact ⟨k + 1, by omega, by go_num, hB.out.blkDic ha hy2.out⟩
      case measure => simp [intOf]; omega
    · obtain rfl : k = n := by omega
      have dk : decide ((k : Int) < (k : Int)) = false := decide_eq_false (by omega)
      replace rS := hid rS
      go_wp2
      go_ret
      exact ⟨rfl, rS.out⟩
end Go.Proofs.Ytbmkkaecfogmoaa

/- Equal lists of numbers, sums, words of dice. -/
namespace Go.Proofs.Ytbmkkaecfogmoaa
open Go.RowKit
set_option linter.unusedVariables false
set_option linter.unusedSimpArgs false
-- @LONG

set_option maxHeartbeats 2000000 in
set_option maxRecDepth 100000 in
theorem likeInts_any (w : World) (b1 b2 : Nat) (v1 v2 : Value) (M : List Int) (h1 : Own w b1 2 v1 (ints M)) (h2 : Own w b2 2 v2 (ints M)) (hl : M.length ≤ 1000000) :
    Calls Try.prog 14 #[v1, v2] w fun e w' => e = .returned (.bool true) ∧ Below w.heap.size w w' := by
  obtain ⟨A1, c1, rfl, _, hA1⟩ := h1.form
  obtain ⟨A2, c2, rfl, _, hA2⟩ := h2.form
  rw [ints_length] at *
  have hg := hid (fun k (hk : k < M.length) => (show ∃ (x : Int) (g1 g2 : Nat), A1 = some ⟨g1, 0, none⟩ ∧ A2 = some ⟨g2, 0, none⟩ ∧ w.cell? ⟨g1, k, none⟩ = some (.int .i64 x) ∧ w.cell? ⟨g2, k, none⟩ = some (.int .i64 x) ∧ g1 < w.heap.size ∧ g2 < w.heap.size from by
    have hx : (ints M)[k]? = some (.int .i64 M[k]) := by simp [ints, hk]
    rcases hA1 with ⟨_, h, _⟩ | ⟨g1, e1, _, l1, q1⟩
    · rw [h] at hx; simp at hx
    · rcases hA2 with ⟨_, h, _⟩ | ⟨g2, e2, _, l2, q2⟩
      · rw [h] at hx; simp at hx
      · exact ⟨_, g1, g2, e1, e2, q1 k _ hx, q2 k _ hx, l1, l2⟩))
  clear hA1 hA2 h1 h2
  generalize M.length = n at *
  go_enter Try.func14, Try.ntmps14
  go_wp2
  go_loopw [5] (fun i wr => ∃ k : Nat, k ≤ n ∧ i = .int .i64 k ∧ Below w.heap.size w wr) (fun i _ => n - (intOf i).toNat)
  case atStart => exact ⟨0, Nat.zero_le _, rfl, Below.refl _ _⟩
  case round =>
    obtain ⟨k, hk, rfl, rB⟩ := hrel
    by_cases hlt : k < n
    · have dk : decide ((k : Int) < (n : Int)) = true := decide_eq_true (by omega)
      obtain ⟨x, g1, g2, rfl, rfl, q1, q2, l1, l2⟩ := hg.out k hlt
      have d1 := (rB.cell (p := ⟨g1, k, none⟩) l1).trans q1
      have d2 := (rB.cell (p := ⟨g2, k, none⟩) l2).trans q2
      have k0 : (0 : Int) ≤ (k : Int) := Int.natCast_nonneg _
      have k1 : (k : Int) < (n : Int) := by omega
      replace rB := hid rB
      go_upto_region 6 with (fail)
      go_quiet (fail)
      go_wp2
      go_roundw
      case rel => exact ⟨k + 1, by omega, by go_num, below_drewN rB.out _⟩
      case measure => simp [intOf]; omega
    · obtain rfl : k = n := by omega
      have dk : decide ((k : Int) < (k : Int)) = false := decide_eq_false (by omega)
      go_wp2
      go_ret
      exact ⟨rfl, rB⟩
set_option maxHeartbeats 1000000 in
set_option maxRecDepth 100000 in
theorem sum_any (w : World) (b1 : Nat) (v1 : Value) (M : List Int) (h1 : Own w b1 2 v1 (ints M)) (hl : M.length ≤ 100000) (hr : ∀ x ∈ M, 0 ≤ x ∧ x ≤ 1000000000) :
    Calls Try.prog 35 #[v1] w fun e w' => e = .returned (.int .i64 M.sum) ∧ w = w' := by
  obtain ⟨A1, c1, rfl, _, hA1⟩ := h1.form
  rw [ints_length] at *
  have hg := hid (fun k (hk : k < M.length) => (show ∃ (x : Int) (g1 : Nat), A1 = some ⟨g1, 0, none⟩ ∧ M[k]? = some x ∧ w.cell? ⟨g1, k, none⟩ = some (.int .i64 x) ∧ (M.take (k + 1)).sum = (M.take k).sum + x from by
    have hx : (ints M)[k]? = some (.int .i64 M[k]) := by simp [ints, hk]
    have hy : M[k]? = some M[k] := List.getElem?_eq_getElem hk
    rcases hA1 with ⟨_, h, _⟩ | ⟨g1, e1, _, l1, q1⟩
    · rw [h] at hx; simp at hx
    · exact ⟨_, g1, e1, hy, q1 k _ hx, by rw [List.take_add_one, hy, List.sum_append]; simp⟩))
  have hbd := hid (fun k (hk : k ≤ M.length) => (show 0 ≤ (M.take k).sum ∧ (M.take k).sum ≤ k * 1000000000 from by
    induction k with
    | zero => simp
    | succ k ih =>
      obtain ⟨x, _, _, hx, _, e⟩ := hg.out k (by omega)
      have h1 := hr x (List.mem_of_getElem? hx)
      have h2 := ih (by omega)
      rw [e]; omega))
  have hfu := hid (show M.sum = (M.take M.length).sum by rw [List.take_length])
  rw [hfu.out]
  obtain ⟨F, hF⟩ : ∃ F : Nat → Int, F = fun k => (M.take k).sum := ⟨_, rfl⟩
  have hF' := hid (fun k => (show (M.take k).sum = F k by rw [hF]))
  have hF0 := hid (show F 0 = 0 by rw [hF]; rfl)
  simp only [hF'.out] at hg hbd ⊢
  clear hA1 h1 hfu hF hr
  generalize M.length = n at *
  go_enter Try.func35, Try.ntmps35
  go_wp2
  go_loop [3, 4] (fun s i => ∃ k : Nat, k ≤ n ∧ i = .int .i64 k ∧ s = .int .i64 (F k)) (fun _ i => n - (intOf i).toNat)
  case atStart => exact ⟨0, Nat.zero_le _, rfl, by rw [hF0.out]⟩
  case round =>
    obtain ⟨k, hk, rfl, rfl⟩ := hrel
    by_cases hlt : k < n
    · have dk : decide ((k : Int) < (n : Int)) = true := decide_eq_true (by omega)
      obtain ⟨x, g1, rfl, _, q1, e⟩ := hg.out k hlt
      have k0 : (0 : Int) ≤ (k : Int) := Int.natCast_nonneg _
      have k1 : (k : Int) < (n : Int) := by omega
      have h2 := hbd.out (k + 1) hlt
      have ew : wrap64 (F k + x) = F k + x := by rw [← e]; exact w64 (by omega) (by omega)
      replace e := hid e; replace h2 := hid h2
      go_wp2
      go_round
      case rel => exact ⟨k + 1, by omega, by go_num, by rw [e.out]; first | rfl | (rw [ew]) | (rw [IntWalk.i64_in _ (by have := h2.out; rw [e.out] at this; omega)])⟩
      case measure => simp [intOf]; omega
    · obtain rfl : k = n := by omega
      have dk : decide ((k : Int) < (k : Int)) = false := decide_eq_false (by omega)
      go_wp2
      go_ret
      exact ⟨rfl, rfl⟩
set_option maxHeartbeats 2000000 in
set_option maxRecDepth 100000 in
theorem word5_any (w : World) (v : Value) (l : List Nat) (hv : ArgB w v l) (hl : l.length ≤ 4096) (d n : Nat) (hd1 : 1 ≤ d) (hd : d ≤ 3) (hn : n ≤ 40) :
    Calls Try.prog 15 #[v, .int .i64 d, .int .i64 n] w fun e w' => ∃ u : List Nat, e = .returned (.string (wstr u)) ∧ u.length = n ∧ (∀ x ∈ u, x < d) ∧ Below w.heap.size w w' := by
  have hro := hid (roll_any w v l hv hl 1701)
  have hN := hid (fun W L hW => below_any w L W w.heap.size v l hv hl (Nat.le_refl _) (d : Int) (by omega) hW)
  replace hv := hid hv
  obtain ⟨A, c, rfl, _⟩ := hv.out
  go_enter Try.func15, Try.ntmps15
  go_upto_region 2 with (first
    | (go_at_call 85; (with_reducible refine (hro.out).mono ?_); rintro e w1 ⟨rfl, hS⟩; replace hS := hid hS))
  have hS0 := hid ((hS.out.newOwn [] 5 (by simp)).f1)
  clear hS
  go_wp2
  go_loopw [2, 8] (fun i o wr => ∃ (u : List Nat) (k : Nat), i = .int .i64 k ∧ u.length + k = n ∧ Hid (∀ x ∈ u, x < d) ∧ St w.heap.size w [Asn.dic w.heap.size (.slice A l.length c) l.length, Asn.own w.heap.size 5 o (wb u)] wr) (fun i _ _ => (intOf i).toNat)
  case atStart => exact ⟨[], n, rfl, by simp, hid (fun x hx => by cases hx), hS0.out⟩
  case round =>
    obtain ⟨u, k, rfl, hk3, hu, rS⟩ := hrel
    clear hS0
    replace rS := hid rS
    by_cases hlt : 0 < k
    · have dk : decide (0 < (k : Int)) = true := decide_eq_true (by omega)
      have hul : u.length ≤ 40 := by omega
      go_wp2_with (first
        | (go_at_call 86; (with_reducible refine (hN.out _ _ rS.out).mono ?_); rintro e w1 ⟨x, rfl, hx0, hx, hS'⟩; obtain ⟨x, rfl⟩ := Int.eq_ofNat_of_zero_le hx0; (have hx3 : x < d := by omega); (have e1 : wrap64 (48 + (x : Int)) = 48 + (x : Int) := w64 (by omega) (by omega)); replace rS := hid hS'.f1; clear hS' hx hN hx0)
        | ((with_reducible refine gate (N := 23) rfl ?_); (refine St.app 22 5 (.int .u8 0) 1 Try.underlying22 info_u8 rfl (by omega) rfl _ _ rfl _ _ rfl rS.out (.int .u8 (48 + (x : Int))) rfl rfl u.length (wb_length u) (by omega) ?_; intro gn cap w2 hO2; replace rS := hid hO2.f1; clear hO2)))
      all_goals go_roundw
      all_goals first
        | (exact ⟨u ++ [x], k - 1, i64_eq (by omega), by simp; omega, hid (fun y hy => (List.mem_append.1 hy).elim (hu.out y) fun hy => by rw [List.mem_singleton.1 hy]; exact hx3), by rw [wb_snoc]; exact rS.out⟩)
        | (simp only [intOf]; omega)
    · obtain rfl : k = 0 := by omega
      have hconv := rS.out.o1.conv
      have hun : u.length = n := by omega
      go_wp2
      go_ret
      exact ⟨u, rfl, hun, hu.out, rS.out.bel⟩
end Go.Proofs.Ytbmkkaecfogmoaa
