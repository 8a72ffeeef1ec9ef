/- What the proof of FnPortraits leans on, part 23 of 26. -/
import Derived.Test.YtbmkkaecfogmoaaZFnPortraitsV
/- Products and inverses of portraits: the program. -/
namespace Go.Proofs.Ytbmkkaecfogmoaa
open Go.RowKit
set_option linter.unusedVariables false
set_option linter.unusedSimpArgs false
-- @LONG

theorem cell_ltM {W : World} {a : Addr} {v : Value} (h : W.cell? a = some v) : a.block < W.heap.size := by
  rcases Nat.lt_or_ge a.block W.heap.size with h1 | h1
  · exact h1
  · exfalso
    unfold World.cell? at h
    rw [Array.getElem?_eq_none h1] at h
    simp at h
theorem pcode_0 {d n : Nat} (hd : d = 2 ∨ d = 3) (hn1 : 1 ≤ n) (hn : n ≤ 4) {L : List (List Int)} (h : ∀ g ∈ L, IsP d n g) : pcode d n L = 0 := by
  have hD : IsD (d : Int) (n : Int) := ⟨by omega, by omega⟩
  unfold pcode
  rw [if_pos hD, if_pos]
  intro g hg
  exact h g hg
theorem mat2 {W : World} {b : Nat} {vv r1 r2 : Value} {g1 g2 : List Int} (h : Own W b 29 vv [r1, r2]) (h1 : Own W b 2 r1 (ints g1)) (h2 : Own W b 2 r2 (ints g2)) : Mat W b vv [g1, g2] :=
  ⟨_, h, rfl, fun i r' l e1 e2 => by
    match i, e1, e2 with
    | 0, e1, e2 => simp at e1 e2; subst e1; subst e2; exact h1
    | 1, e1, e2 => simp at e1 e2; subst e1; subst e2; exact h2
    | i + 2, e1, e2 => simp at e1⟩
set_option maxHeartbeats 1000000 in
set_option maxRecDepth 100000 in
theorem mul1_any (w : World) (b3 b2 b1 : Nat) (d n : Nat) (hd : d = 2 ∨ d = 3) (hn : n ≤ 4) (v1 v2 : Value) (A B : List Int) (hA : IsP d n A) (hB : IsP d n B)
    (c1 : w.cell? ⟨b1, 0, none⟩ = some (.int .i64 d)) (c2 : w.cell? ⟨b2, 0, none⟩ = some v2) (c3 : w.cell? ⟨b3, 0, none⟩ = some v1) (hO1 : Own w 0 2 v1 (ints A)) (hO2 : Own w 0 2 v2 (ints B))
    (u : List Nat) (hl : u.length = n) (hu : ∀ x ∈ u, x < d) :
    Calls Try.prog 116 #[.string (wstr u), .pointer (some ⟨b1, 0, none⟩), .pointer (some ⟨b2, 0, none⟩), .pointer (some ⟨b3, 0, none⟩)] w fun e w' => e = .returned (.string (wstr (actP d B (actP d A u)))) ∧ Below w.heap.size w w' := by
  have h1 := hid (fun W (hW : Below w.heap.size w W) => act_any W d n hd hn 0 v1 A (hO1.below hW) hA u hu (by omega))
  have h2 := hid (fun W (hW : Below w.heap.size w W) => act_any W d n hd hn 0 v2 B (hO2.below hW) hB (actP d A u) (actP_lt hd hA u hu (by omega)) (by rw [actP_length]; omega))
  have hT := hid (fun W (hW : Below w.heap.size w W) => (show W.cell? ⟨b1, 0, none⟩ = some (.int .i64 d) ∧ W.cell? ⟨b2, 0, none⟩ = some v2 ∧ W.cell? ⟨b3, 0, none⟩ = some v1 from
    ⟨(hW.cell (cell_ltM c1)).trans c1, (hW.cell (cell_ltM c2)).trans c2, (hW.cell (cell_ltM c3)).trans c3⟩))
  obtain ⟨A1, p1, rfl, _, _⟩ := hO1.form
  obtain ⟨A2, p2, rfl, _, _⟩ := hO2.form
  clear hO1 hO2 hu hl hA hB c1 c2 c3
  generalize wstr (actP d B (actP d A u)) = z at *
  generalize wstr (actP d A u) = y at *
  generalize wstr u = x at *
  generalize (ints A).length = n1 at *
  generalize (ints B).length = n2 at *
  have hB := hid (Below.refl w.heap.size w).drew
  go_enter Try.func116, Try.ntmps116
  go_upto_region 1 with (fail)
  have T0 := hT.out _ hB.out
  refine wp_region_heldL (L := [(6, (fun w' : World => w'.cell? ⟨b1, 0, none⟩ = some (.int .i64 d) ∧ w'.cell? ⟨b2, 0, none⟩ = some (.slice A2 n2 p2) ∧ w'.cell? ⟨b3, 0, none⟩ = some (.slice A1 n1 p1)))]) (by kernel_rfl) (HeldL.cons (fun _ => T0) HeldL.nil) (fun hHeld => ?_)
  generalize w.drew = wa at *
  refine wpAnyL_takeP (i := 0) 6 [] (v := (.int .i64 d)) (fun w' : World => w'.cell? ⟨b1, 0, none⟩ = some (.int .i64 d) ∧ w'.cell? ⟨b2, 0, none⟩ = some (.slice A2 n2 p2) ∧ w'.cell? ⟨b3, 0, none⟩ = some (.slice A1 n1 p1)) rfl (by kernel_rfl) (by kernel_rfl) (by kernel_rfl) (by rfl) (by kernel_rfl) (by simp) (fun _ _ _ h => h) (Or.inl ⟨by rfl, ?_⟩) (by assumption) ?_
  · (intro W hW; (replace hW := hW.1); go_simp)
  intro hHeld'
  clear hHeld; have hHeld := hHeld'; clear hHeld'
  try simp only [Act.put, List.getElem_toArray, List.getElem_cons_succ, List.getElem_cons_zero, List.setIfInBounds_toArray, List.set_cons_zero, List.set_cons_succ]
  refine wpAnyL_takeP (i := 1) 6 [] (v := (.slice A2 n2 p2)) (fun w' : World => w'.cell? ⟨b1, 0, none⟩ = some (.int .i64 d) ∧ w'.cell? ⟨b2, 0, none⟩ = some (.slice A2 n2 p2) ∧ w'.cell? ⟨b3, 0, none⟩ = some (.slice A1 n1 p1)) rfl (by kernel_rfl) (by kernel_rfl) (by kernel_rfl) (by rfl) (by kernel_rfl) (by simp) (fun _ _ _ h => h) (Or.inl ⟨by rfl, ?_⟩) (by assumption) ?_
  · (intro W hW; (replace hW := hW.2.1); go_simp)
  intro hHeld'
  clear hHeld; have hHeld := hHeld'; clear hHeld'
  try simp only [Act.put, List.getElem_toArray, List.getElem_cons_succ, List.getElem_cons_zero, List.setIfInBounds_toArray, List.set_cons_zero, List.set_cons_succ]
  refine wpAnyL_takeP (i := 2) 6 [5] (v := (.int .i64 d)) (fun w' : World => w'.cell? ⟨b1, 0, none⟩ = some (.int .i64 d) ∧ w'.cell? ⟨b2, 0, none⟩ = some (.slice A2 n2 p2) ∧ w'.cell? ⟨b3, 0, none⟩ = some (.slice A1 n1 p1)) rfl (by kernel_rfl) (by kernel_rfl) (by kernel_rfl) (by rfl) (by kernel_rfl) (by simp) (fun _ _ _ h => h) (Or.inl ⟨by rfl, ?_⟩) (by assumption) ?_
  · (intro W hW; (replace hW := hW.1); go_simp)
  intro hHeld'
  clear hHeld; have hHeld := hHeld'; clear hHeld'
  try simp only [Act.put, List.getElem_toArray, List.getElem_cons_succ, List.getElem_cons_zero, List.setIfInBounds_toArray, List.set_cons_zero, List.set_cons_succ]
  refine wpAnyL_takeP (i := 3) 6 [5] (v := (.slice A1 n1 p1)) (fun w' : World => w'.cell? ⟨b1, 0, none⟩ = some (.int .i64 d) ∧ w'.cell? ⟨b2, 0, none⟩ = some (.slice A2 n2 p2) ∧ w'.cell? ⟨b3, 0, none⟩ = some (.slice A1 n1 p1)) rfl (by kernel_rfl) (by kernel_rfl) (by kernel_rfl) (by rfl) (by kernel_rfl) (by simp) (fun _ _ _ h => h) (Or.inl ⟨by rfl, ?_⟩) (by assumption) ?_
  · (intro W hW; (replace hW := hW.2.2); go_simp)
  intro hHeld'
  clear hHeld; have hHeld := hHeld'; clear hHeld'
  try simp only [Act.put, List.getElem_toArray, List.getElem_cons_succ, List.getElem_cons_zero, List.setIfInBounds_toArray, List.set_cons_zero, List.set_cons_succ]
  refine wpAnyL_take0 (i := 4) (v := ?_) rfl (by kernel_rfl) (by kernel_rfl) (by kernel_rfl) (by rfl) (fun _ _ _ h => h) (Or.inl ⟨by rfl, ?_⟩) (by assumption) ?_
  rotate_left
  · (intro W _; go_simp; (with_reducible rfl))
  intro hHeld'
  clear hHeld; have hHeld := hHeld'; clear hHeld'
  try simp only [Act.put, List.getElem_toArray, List.getElem_cons_succ, List.getElem_cons_zero, List.setIfInBounds_toArray, List.set_cons_zero, List.set_cons_succ]
  refine wpAnyL_ready (rs := [5]) (by kernel_rfl) (by simp) ?_
  refine AllReadyL.cons rfl (fun K hK => ?_) AllReadyL.nil
  go_simp
  (with_reducible refine (h1.out _ hB.out).mono ?_)
  rintro e w5 ⟨rfl, hb⟩
  replace hB := hid (hB.out.trans (hb.mono hB.out.size))
  clear hb T0
  go_simp
  refine hK.out _ _ (HeldL.cons (fun _ => hT.out _ hB.out) HeldL.nil) (fun hHeld' => ?_)
  clear hK K hHeld; have hHeld := hHeld'; clear hHeld'
  try simp only [Act.put, List.getElem_toArray, List.getElem_cons_succ, List.getElem_cons_zero, List.setIfInBounds_toArray, List.set_cons_zero, List.set_cons_succ]
  refine wpAnyL_ready (rs := [6]) (by kernel_rfl) (by simp) ?_
  refine AllReadyL.cons rfl (fun K hK => ?_) AllReadyL.nil
  go_simp
  (with_reducible refine (h2.out _ hB.out).mono ?_)
  rintro e w6 ⟨rfl, hb⟩
  replace hB := hid (hB.out.trans (hb.mono hB.out.size))
  clear hb
  go_simp
  refine hK.out _ _ (HeldL.cons (fun h => absurd h (by decide +kernel)) HeldL.nil) (fun hHeld' => ?_)
  clear hK K hHeld; have hHeld := hHeld'; clear hHeld'
  try simp only [Act.put, List.getElem_toArray, List.getElem_cons_succ, List.getElem_cons_zero, List.setIfInBounds_toArray, List.set_cons_zero, List.set_cons_succ]
  refine wpAnyL_take0 (i := 7) (v := ?_) rfl (by kernel_rfl) (by kernel_rfl) (by kernel_rfl) (by rfl) (fun _ _ _ h => h) (Or.inl ⟨by rfl, ?_⟩) (by assumption) ?_
  rotate_left
  · (intro W _; go_simp; (with_reducible rfl))
  intro hHeld'
  clear hHeld; have hHeld := hHeld'; clear hHeld'
  try simp only [Act.put, List.getElem_toArray, List.getElem_cons_succ, List.getElem_cons_zero, List.setIfInBounds_toArray, List.set_cons_zero, List.set_cons_succ]
  refine wpAnyL_done (by kernel_rfl) ?_ _
  go_wp2
  go_ret
  exact ⟨rfl, hB.out⟩
set_option maxHeartbeats 2000000 in
set_option maxRecDepth 100000 in
theorem permutation_mul (b3 b2 b1 : Nat) (d n : Nat) (hd : 0 < d) (h3 : d ≤ 3) (hn : n ≤ 40) (hb : pw d n ≤ 100000) (w : World) (F : List Nat → List Nat)
    (hF : ∀ u, u.length = n → (∀ x ∈ u, x < d) → (F u).length = n ∧ ∀ x ∈ F u, x < d)
    (hf : ∀ W, Below w.heap.size w W → ∀ u, u.length = n → (∀ x ∈ u, x < d) → Calls Try.prog 116 #[.string (wstr u), .pointer (some ⟨b1, 0, none⟩), .pointer (some ⟨b2, 0, none⟩), .pointer (some ⟨b3, 0, none⟩)] W fun e W' => e = .returned (.string (wstr (F u))) ∧ Below W.heap.size W W') :
    Calls Try.prog 115 #[.int .i64 d, .int .i64 n, .func (.func 116) #[] #[.pointer (some ⟨b1, 0, none⟩), .pointer (some ⟨b2, 0, none⟩), .pointer (some ⟨b3, 0, none⟩)]] w fun e w' => ∃ v, e = .returned v ∧ Own w' w.heap.size 2 v (rng (fun k => num d (F (wrd d n k))) (pw d n)) ∧ Below w.heap.size w w' := by
  have hl := hid (level_any d n hd h3 hn hb w)
  have hpos := pw_pos d hd n
  have hwl := hid (fun k => wrd_length d n k)
  have hwm := hid (fun k => wrd_lt d hd n k)
  have hFo := hid (fun k => hF (wrd d n k) (wrd_length d n k) (wrd_lt d hd n k))
  have hnum := hid (fun k W => numberOf_any d hd h3 (F (wrd d n k)) (hFo.out k).2 (by rw [(hFo.out k).1]; omega) (by rw [(hFo.out k).1]; omega) W)
  replace hf := hid hf
  clear hF
  generalize hM : pw d n = M at *
  go_enter Try.func115, Try.ntmps115
  go_wp2_with (first
    | (go_at_call 213; (with_reducible refine (hl.out).mono ?_); rintro e w1 ⟨v, rfl, hO, hB⟩; obtain ⟨g, cap, rfl, hg1, hg2⟩ := hO.blk (fun e => by have := lvl_length d n M; rw [e] at this; simp at this; omega); have hll := lvl_length d n M; rw [hll] at hO; rw [hll]; clear hll; replace hO := hid hO; replace hB := hid hB; clear hl))
  go_loopw [7, 14] (fun v i wr => ∃ k : Nat, k ≤ M ∧ i = .int .i64 k ∧ Own wr w1.heap.size 2 v (rng (fun k => num d (F (wrd d n k))) k) ∧ Below w1.heap.size w1 wr) (fun _ i _ => M - (intOf i).toNat)
  case atStart => exact ⟨0, Nat.zero_le _, rfl, Own.nil _ _ _, Below.refl _ _⟩
  case round =>
    obtain ⟨k, hk, rfl, r1, rB⟩ := hrel
    have hll := hid (rng_length (fun k => num d (F (wrd d n k))) k)
    replace r1 := hid r1; replace rB := hid rB
    by_cases hlt : k < M
    · have dk : decide ((k : Int) < (M : Int)) = true := decide_eq_true (by omega)
      have hsn := hid (rng_snoc (fun k => num d (F (wrd d n k))) k)
      have ck := (hO.out.below rB.out).cellAt k _ (lvl_get d n M k hlt)
      have hBw := hid (hB.out.trans (rB.out.mono hB.out.size))
      go_wp2_with (first
        | (go_at_call 116; (with_reducible refine (hf.out _ hBw.out _ (hwl.out k) (hwm.out k)).mono ?_); rintro e w2 ⟨rfl, hb1⟩; replace r1 := hid (r1.out.below hb1); replace rB := hid (rB.out.trans (hb1.mono rB.out.size)); clear hb1 ck hBw)
        | (go_at_call 211; (with_reducible refine (hnum.out k _).mono ?_); rintro e w3 ⟨rfl, rfl⟩)
        | ((with_reducible refine gate (N := 25) rfl ?_); refine app1 29 2 (.int .i64 0) 8 Try.underlying29 info_i64 rfl (by omega) rfl _ _ rfl w1.heap.size _ _ rfl r1.out rB.out.size _ rfl rfl (by have := hll.out; omega) ?_; intro gn cap w2 hO2 hb2 hold hsz2 _; replace hO2 := hid hO2; have tB := hid (rB.out.trans hb2); clear hb2 hold hsz2 r1 rB))
      go_roundw
      case rel => exact ⟨k + 1, by omega, by go_num, by rw [hsn.out]; exact hO2.out, tB.out⟩
      case measure => simp [intOf]; omega
    · obtain rfl : k = M := by omega
      go_wp2
      go_ret
      exact ⟨_, rfl, r1.out.mono hB.out.size, hB.out.trans (rB.out.mono hB.out.size)⟩
open Classical in
/-- What MultiplyPortraits answers. -/
noncomputable def mulAns (d n : Int) (A B : List Int) : List Int × Int := if pcode d n [A, B] = 0 then (prtF d.toNat (fun u => actP d.toNat B (actP d.toNat A u)) n.toNat, 0) else ([], pcode d n [A, B])
theorem pcode2_cases (d n : Int) (A B : List Int) : pcode d n [A, B] ≠ 0 ∨ (pcode d n [A, B] = 0 ∧ ∃ (a b : Nat), d = a ∧ n = b ∧ (a = 2 ∨ a = 3) ∧ 1 ≤ b ∧ b ≤ 4 ∧ IsP a b A ∧ IsP a b B) := by
  by_cases h : pcode d n [A, B] = 0
  · refine .inr ⟨h, ?_⟩
    unfold pcode at h
    by_cases hD : IsD d n
    · rw [if_pos hD] at h
      by_cases hh : ∀ g ∈ [A, B], IsP d.toNat n.toNat g
      · obtain ⟨a, b, rfl, rfl, h1, h2, h3⟩ := hD.nat
        exact ⟨a, b, rfl, rfl, h1, h2, h3, hh A (by simp), hh B (by simp)⟩
      · rw [if_neg hh] at h; cases h
    · rw [if_neg hD] at h; cases h
  · exact .inl h
set_option maxHeartbeats 4000000 in
set_option maxRecDepth 100000 in
theorem implMul_any (w : World) (d n : Int) (v1 v2 : Value) (A B : List Int) (hO1 : Own w 0 2 v1 (ints A)) (hO2 : Own w 0 2 v2 (ints B)) (hlA : A.length < 2000000) (hlB : B.length < 2000000) :
    Calls Try.prog 27 #[.int .i64 d, .int .i64 n, v1, v2] w fun e w' => ∃ v, e = .returned (.tuple #[v, .int .i64 (mulAns d n A B).2]) ∧ Own w' w.heap.size 2 v (ints (mulAns d n A B).1) ∧ Below w.heap.size w w' := by
  have hS := (((St.start w).newBlk #[.int .i64 d] 2).newBlk #[v1] 29).newBlk #[v2] 29
  simp only [heap_alloc_size] at hS
  have hmf : ∀ (fn : Fn) (first cap : Array Value) (w : World), (Instr.makeFunc fn first cap).run Try.prog w = .ok (.func fn first cap) w := fun _ _ _ _ => rfl
  have hpc := hid (fun W b vv (hO : Own W b 29 vv [v1, v2]) (h1 : Own W b 2 v1 (ints A)) (h2 : Own W b 2 v2 (ints B)) => portraitCode_any W d n b vv [A, B] (mat2 hO h1 h2) (by simp) (by intro r hr; simp at hr; rcases hr with rfl | rfl <;> assumption))
  have hw1 := hid (fun W (hW : Below w.heap.size w W) => hO1.below hW)
  have hw2 := hid (fun W (hW : Below w.heap.size w W) => hO2.below hW)
  have hown := hid (hS.newOwn [v1, v2] 29 (by simp))
  replace hS := hid hS
  obtain ⟨A1, p1, rfl, _, _⟩ := hO1.form
  obtain ⟨A2, p2, rfl, _, _⟩ := hO2.form
  simp only [heap_alloc_size, List.length_cons, List.length_nil, Nat.zero_add, Nat.reduceAdd] at hown
  replace hO1 := hid hO1
  replace hO2 := hid hO2
  have c1 := blkc hS.out.k2
  have c2 := blkc hS.out.k1
  have c3 := blkc hS.out.k0
  simp only [ints_length] at *
  rcases pcode2_cases d n A B with h | ⟨h, d, n, rfl, rfl, hd, hn1, hn4, hA, hB⟩
  · have hAn : mulAns d n A B = ([], pcode d n [A, B]) := by unfold mulAns; rw [if_neg h]
    rw [hAn]
    have d0 : ((pcode d n [A, B] : Int) != 0) = true := by simpa using h
    clear h hAn
    generalize pcode d n [A, B] = c at *
    go_enter Try.func27, Try.ntmps27
    go_wp2_with (
      (go_at_call 113; (with_reducible refine (hpc.out _ _ _ (hown.out.o0.mono (Nat.zero_le _)) (hw1.out _ hown.out.bel) (hw2.out _ hown.out.bel)).mono ?_); rintro e w1 ⟨rfl, hb⟩; replace hS := hid (hown.out.call hb).drop; clear hb hown))
    go_ret2
    exact ⟨_, rfl, Own.nil _ _ _, hS.out.bel⟩
  · have hAn : mulAns d n A B = (prtF d (fun u => actP d B (actP d A u)) n, 0) := by unfold mulAns; rw [if_pos h]; rfl
    rw [hAn]
    rw [h] at hpc
    have hF : Aut d (fun u => actP d B (actP d A u)) n := (aut_act hd hB).comp (aut_act hd hA)
    have hpm := hid (fun W (hS : St w.heap.size w [Asn.blk (w.heap.size + 1 + 1) #[.slice A2 B.length p2] 29, Asn.blk (w.heap.size + 1) #[.slice A1 A.length p1] 29, Asn.blk w.heap.size #[.int .i64 d] 2] W) =>
      (by have h := permutation_mul (w.heap.size + 1) (w.heap.size + 1 + 1) w.heap.size d n (by omega) (by omega) (by omega) (by have := pw5 (n := n) hd (by omega); omega) W (fun u => actP d B (actP d A u)) (fun u hl hu => ⟨by rw [hF.len u hu (by omega), hl], hF.lt u hu (by omega)⟩) (fun W' hW' u hl hu => mul1_any W' _ _ _ d n hd hn4 _ _ A B hA hB (blkc (hS.call hW').k2) (blkc (hS.call hW').k0) (blkc (hS.call hW').k1) (hw1.out _ (hS.call hW').bel) (hw2.out _ (hS.call hW').bel) u hl hu)
          exact h : Calls Try.prog 115 #[.int .i64 d, .int .i64 n, .func (.func 116) #[] #[.pointer (some ⟨w.heap.size, 0, none⟩), .pointer (some ⟨w.heap.size + 1 + 1, 0, none⟩), .pointer (some ⟨w.heap.size + 1, 0, none⟩)]] W fun e w' => ∃ v, e = .returned v ∧ Own w' W.heap.size 2 v (nats (pmF d (fun u => actP d B (actP d A u)) n)) ∧ Below W.heap.size W w'))
    have hpf := hid (fun W b v hO => portraitFrom_any W d n hd hn1 hn4 (fun u => actP d B (actP d A u)) hF b v hO)
    replace hA := hid hA; replace hB := hid hB
    clear h hAn hF
    generalize pmF d (fun u => actP d B (actP d A u)) n = P at *
    generalize prtF d (fun u => actP d B (actP d A u)) n = G at *
    go_enter Try.func27, Try.ntmps27
    go_upto_region 4 with (
      (go_at_call 113; (with_reducible refine (hpc.out _ _ _ (hown.out.o0.mono (Nat.zero_le _)) (hw1.out _ hown.out.bel) (hw2.out _ hown.out.bel)).mono ?_); rintro e w1 ⟨rfl, hb⟩; replace hS := hid (hown.out.call hb).drop; clear hb hown c1 c2 c3))
    replace hS := hid hS.out.drew
    refine wp_region_heldL (L := [(6, (fun w' : World => w'.cell? ⟨w.heap.size, 0, none⟩ = some (.int .i64 d)))]) (by kernel_rfl) (HeldL.cons (fun _ => blkc hS.out.k2) HeldL.nil) (fun hHeld => ?_)
    generalize w1.drew = wa at *
    refine wpAnyL_takeP (i := 0) 6 [] (v := (.int .i64 d)) (fun w' : World => w'.cell? ⟨w.heap.size, 0, none⟩ = some (.int .i64 d)) rfl (by kernel_rfl) (by kernel_rfl) (by kernel_rfl) (by rfl) (by kernel_rfl) (by simp) (fun _ _ _ h => h) (Or.inl ⟨by rfl, ?_⟩) (by assumption) ?_
    · (intro W hW; go_simp)
    intro hHeld'
    clear hHeld; have hHeld := hHeld'; clear hHeld'
    try simp only [Act.put, List.getElem_toArray, List.getElem_cons_succ, List.getElem_cons_zero, List.setIfInBounds_toArray, List.set_cons_zero, List.set_cons_succ]
    refine wpAnyL_take0 (i := 1) (v := ?_) rfl (by kernel_rfl) (by kernel_rfl) (by kernel_rfl) (by rfl) (fun _ _ _ h => h) (Or.inl ⟨by rfl, ?_⟩) (by assumption) ?_
    rotate_left
    · (intro W _; go_simp; (with_reducible rfl))
    intro hHeld'
    clear hHeld; have hHeld := hHeld'; clear hHeld'
    try simp only [Act.put, List.getElem_toArray, List.getElem_cons_succ, List.getElem_cons_zero, List.setIfInBounds_toArray, List.set_cons_zero, List.set_cons_succ]
    refine wpAnyL_takeP (i := 2) 6 [5] (v := (.int .i64 d)) (fun w' : World => w'.cell? ⟨w.heap.size, 0, none⟩ = some (.int .i64 d)) rfl (by kernel_rfl) (by kernel_rfl) (by kernel_rfl) (by rfl) (by kernel_rfl) (by simp) (fun _ _ _ h => h) (Or.inl ⟨by rfl, ?_⟩) (by assumption) ?_
    · (intro W hW; go_simp)
    intro hHeld'
    clear hHeld; have hHeld := hHeld'; clear hHeld'
    try simp only [Act.put, List.getElem_toArray, List.getElem_cons_succ, List.getElem_cons_zero, List.setIfInBounds_toArray, List.set_cons_zero, List.set_cons_succ]
    refine wpAnyL_take0 (i := 3) (v := ?_) rfl (by kernel_rfl) (by kernel_rfl) (by kernel_rfl) (by rfl) (fun _ _ _ h => h) (Or.inl ⟨by rfl, ?_⟩) (by assumption) ?_
    rotate_left
    · (intro W _; go_simp; (with_reducible rfl))
    intro hHeld'
    clear hHeld; have hHeld := hHeld'; clear hHeld'
    try simp only [Act.put, List.getElem_toArray, List.getElem_cons_succ, List.getElem_cons_zero, List.setIfInBounds_toArray, List.set_cons_zero, List.set_cons_succ]
    refine wpAnyL_take0 (i := 4) (v := ?_) rfl (by kernel_rfl) (by kernel_rfl) (by kernel_rfl) (by rfl) (fun _ _ _ h => h) (Or.inl ⟨by rfl, ?_⟩) (by assumption) ?_
    rotate_left
    · (intro W _; go_simp; (with_reducible rfl))
    intro hHeld'
    clear hHeld; have hHeld := hHeld'; clear hHeld'
    try simp only [Act.put, List.getElem_toArray, List.getElem_cons_succ, List.getElem_cons_zero, List.setIfInBounds_toArray, List.set_cons_zero, List.set_cons_succ]
    refine wpAnyL_ready (rs := [5]) (by kernel_rfl) (by simp) ?_
    refine AllReadyL.cons rfl (fun K hK => ?_) AllReadyL.nil
    go_simp
    (with_reducible refine (hpm.out _ hS.out).mono ?_)
    rintro e w5 ⟨v5, rfl, hO5, hb⟩
    replace hS := hid (hS.out.callOwn hb hO5)
    clear hb hO5
    go_simp
    refine hK.out _ _ (HeldL.cons (fun _ => blkc hS.out.k3) HeldL.nil) (fun hHeld' => ?_)
    clear hK K hHeld; have hHeld := hHeld'; clear hHeld'
    try simp only [Act.put, List.getElem_toArray, List.getElem_cons_succ, List.getElem_cons_zero, List.setIfInBounds_toArray, List.set_cons_zero, List.set_cons_succ]
    refine wpAnyL_ready (rs := [6]) (by kernel_rfl) (by simp) ?_
    refine AllReadyL.cons rfl (fun K hK => ?_) AllReadyL.nil
    go_simp
    (with_reducible refine (hpf.out _ _ _ hS.out.o0).mono ?_)
    rintro e w6 ⟨v6, rfl, hO6, hb⟩
    replace hS := hid (hS.out.callOwn hb hO6)
    clear hb hO6
    go_simp
    refine hK.out _ _ (HeldL.cons (fun h => absurd h (by decide +kernel)) HeldL.nil) (fun hHeld' => ?_)
    clear hK K hHeld; have hHeld := hHeld'; clear hHeld'
    try simp only [Act.put, List.getElem_toArray, List.getElem_cons_succ, List.getElem_cons_zero, List.setIfInBounds_toArray, List.set_cons_zero, List.set_cons_succ]
    refine wpAnyL_take0 (i := 7) (v := ?_) rfl (by kernel_rfl) (by kernel_rfl) (by kernel_rfl) (by rfl) (fun _ _ _ h => h) (Or.inl ⟨by rfl, ?_⟩) (by assumption) ?_
    rotate_left
    · (intro W _; go_simp; (with_reducible rfl))
    intro hHeld'
    clear hHeld; have hHeld := hHeld'; clear hHeld'
    try simp only [Act.put, List.getElem_toArray, List.getElem_cons_succ, List.getElem_cons_zero, List.setIfInBounds_toArray, List.set_cons_zero, List.set_cons_succ]
    refine wpAnyL_take0 (i := 8) (v := ?_) rfl (by kernel_rfl) (by kernel_rfl) (by kernel_rfl) (by rfl) (fun _ _ _ h => h) (Or.inl ⟨by rfl, ?_⟩) (by assumption) ?_
    rotate_left
    · (intro W _; go_simp; (with_reducible rfl))
    intro hHeld'
    clear hHeld; have hHeld := hHeld'; clear hHeld'
    try simp only [Act.put, List.getElem_toArray, List.getElem_cons_succ, List.getElem_cons_zero, List.setIfInBounds_toArray, List.set_cons_zero, List.set_cons_succ]
    refine wpAnyL_take0 (i := 9) (v := ?_) rfl (by kernel_rfl) (by kernel_rfl) (by kernel_rfl) (by rfl) (fun _ _ _ h => h) (Or.inl ⟨by rfl, ?_⟩) (by assumption) ?_
    rotate_left
    · (intro W _; go_simp; (with_reducible rfl))
    intro hHeld'
    clear hHeld; have hHeld := hHeld'; clear hHeld'
    try simp only [Act.put, List.getElem_toArray, List.getElem_cons_succ, List.getElem_cons_zero, List.setIfInBounds_toArray, List.set_cons_zero, List.set_cons_succ]
    refine wpAnyL_take0 (i := 10) (v := ?_) rfl (by kernel_rfl) (by kernel_rfl) (by kernel_rfl) (by rfl) (fun _ _ _ h => h) (Or.inl ⟨by rfl, ?_⟩) (by assumption) ?_
    rotate_left
    · (intro W _; go_simp; (with_reducible rfl))
    intro hHeld'
    clear hHeld; have hHeld := hHeld'; clear hHeld'
    try simp only [Act.put, List.getElem_toArray, List.getElem_cons_succ, List.getElem_cons_zero, List.setIfInBounds_toArray, List.set_cons_zero, List.set_cons_succ]
    refine wpAnyL_take0 (i := 11) (v := ?_) rfl (by kernel_rfl) (by kernel_rfl) (by kernel_rfl) (by rfl) (fun _ _ _ h => h) (Or.inl ⟨by rfl, ?_⟩) (by assumption) ?_
    rotate_left
    · (intro W _; go_simp; (with_reducible rfl))
    intro hHeld'
    clear hHeld; have hHeld := hHeld'; clear hHeld'
    try simp only [Act.put, List.getElem_toArray, List.getElem_cons_succ, List.getElem_cons_zero, List.setIfInBounds_toArray, List.set_cons_zero, List.set_cons_succ]
    refine wpAnyL_done (by kernel_rfl) ?_ _
    go_wp2
    go_ret2
    exact ⟨_, rfl, hS.out.o0, hS.out.bel⟩
/-- The inverse of a permutation as it is written. -/
def bkL (p : List Nat) : Nat → List Nat
  | 0 => List.replicate p.length 0
  | k + 1 => (bkL p k).set (p.getD k 0) k
theorem bkL_length (p : List Nat) : ∀ k, (bkL p k).length = p.length
  | 0 => List.length_replicate
  | k + 1 => by rw [bkL, List.length_set, bkL_length p k]
theorem bkL_at {p : List Nat} (h : IsPm p) : ∀ k, k ≤ p.length → ∀ j, j < k → (bkL p k).getD (p.getD j 0) 0 = j
  | 0, _, j, hj => absurd hj (Nat.not_lt_zero _)
  | k + 1, hk, j, hj => by
    rw [bkL, List.getD_eq_getElem?_getD, List.getElem?_set]
    by_cases e : p.getD k 0 = p.getD j 0
    · have := h.inj k j (by omega) (by omega) e
      subst this
      rw [if_pos rfl, if_pos (by rw [bkL_length]; exact h.lt k (by omega))]; rfl
    · rw [if_neg e, ← List.getD_eq_getElem?_getD]
      refine bkL_at h k (by omega) j ?_
      have : j ≠ k := fun e2 => e (by rw [e2])
      omega
theorem bkL_pm {d n : Nat} {F G : List Nat → List Nat} (hd : 0 < d) (hF : Aut d F n) (hG : Aut d G n) (h1 : ∀ u, u.length = n → (∀ x ∈ u, x < d) → G (F u) = u) (h2 : ∀ u, u.length = n → (∀ x ∈ u, x < d) → F (G u) = u) : bkL (pmF d F n) (pw d n) = pmF d G n := by
  have hp := pmF_pm hd hF
  have hl := pmF_length d F n
  apply List.ext_getElem (by rw [bkL_length, hl, pmF_length])
  intro i hi1 hi2
  have hi : i < pw d n := by rw [pmF_length] at hi2; exact hi2
  have hw := wrd_lt d hd n i
  have hwl := wrd_length d n i
  have hg := hG.lt _ hw (by omega)
  have hgl := hG.len _ hw (by omega)
  have hj := num_lt d n _ (by rw [hgl, hwl]) hg
  have e1 : (pmF d F n).getD (num d (G (wrd d n i))) 0 = i := by
    rw [pmF_get hj, wrd_num d hd n _ (by rw [hgl, hwl]) hg, h2 _ hwl hw, num_wrd d hd n i hi]
  have e2 := bkL_at hp (pw d n) (by rw [hl]; exact Nat.le_refl _) _ hj
  rw [e1] at e2
  rw [List.getD_eq_getElem?_getD, List.getElem?_eq_getElem hi1] at e2
  have e3 : (pmF d G n)[i] = num d (G (wrd d n i)) := by
    have := pmF_get (F := G) hi
    rw [List.getD_eq_getElem?_getD, List.getElem?_eq_getElem hi2] at this
    exact this
  rw [e3]
  exact e2
set_option maxHeartbeats 4000000 in
set_option maxRecDepth 100000 in
theorem implIvp_any (w : World) (d n : Nat) (hd : d = 2 ∨ d = 3) (hn1 : 1 ≤ n) (hn : n ≤ 4) (b0 : Nat) (v : Value) (g : List Int) (hO : Own w b0 2 v (ints g)) (hg : IsP d n g) (G : List Nat → List Nat) (hG : Aut d G n)
    (h1 : ∀ u, u.length = n → (∀ x ∈ u, x < d) → G (actP d g u) = u) (h2 : ∀ u, u.length = n → (∀ x ∈ u, x < d) → actP d g (G u) = u) :
    Calls Try.prog 32 #[.int .i64 d, .int .i64 n, v] w fun e w' => ∃ v', e = .returned (.tuple #[v', .int .i64 0]) ∧ Own w' w.heap.size 2 v' (ints (prtF d G n)) ∧ Below w.heap.size w w' := by
  have hgl : g.length ≤ 40 := by rw [hg.1]; exact (start_le hd hn).1
  obtain ⟨A0, cp0, rfl, _, _⟩ := hO.form
  rw [ints_length] at hO ⊢
  have hS := (St.arg w hO).newOwn [(Value.slice A0 g.length cp0)] 29 (by simp)
  simp only [List.length_cons, List.length_nil, Nat.zero_add] at hS
  replace hS := hid hS
  have hpc := hid (fun W b vv (hO : Own W b 29 vv [(Value.slice A0 g.length cp0)]) (hr : Own W b 2 (Value.slice A0 g.length cp0) (ints g)) => portraitCode_any W d n b vv [g] (mat1 hO hr) (by simp) (by simp; omega))
  rw [pcode_0 hd hn1 hn (by intro x hx; rw [List.mem_singleton.1 hx]; exact hg)] at hpc
  have hof := hid (fun W (hO : Own W 0 2 (Value.slice A0 g.length cp0) (ints g)) => ofPortrait_any W d n hd hn 0 _ g hO hg)
  have hpf := hid (fun W b v hO => portraitFrom_any W d n hd hn1 hn G hG b v hO)
  have hN := pw5 (n := n) hd (by omega)
  have hpos := pw_pos d (by omega) n
  have hF := aut_act hd hg
  have hpm := pmF_pm (show 0 < d by omega) hF
  have hpl : (prtP d g n).length = pw d n := pmF_length d _ n
  have hbk := hid (show bkL (prtP d g n) (pw d n) = pmF d G n from bkL_pm (by omega) hF hG h1 h2)
  have hlt := hid (fun k (hk : k < pw d n) => (show (prtP d g n).getD k 0 < pw d n from by have := hpm.lt k (by rw [pmF_length]; exact hk); rw [pmF_length] at this; exact this))
  have hb0 := hid (show List.replicate (pw d n) (Value.int .i64 0) = nats (bkL (prtP d g n) 0) from by simp [bkL, nats, hpl])
  have hbs := hid (fun k => (show (nats (bkL (prtP d g n) k)).set ((prtP d g n).getD k 0) (.int .i64 (k : Nat)) = nats (bkL (prtP d g n) (k + 1)) from by simp [bkL, nats, List.map_set]))
  have hbl := hid (fun k => (show (nats (bkL (prtP d g n) k)).length = pw d n from by rw [nats_length, bkL_length, hpl]))
  have hcl := hid (fun k (hk : k < pw d n) => (show (nats (prtP d g n))[k]? = some (.int .i64 ((prtP d g n).getD k 0 : Nat)) from by
    rw [nats, List.getElem?_map, List.getD_eq_getElem?_getD]
    have hk' : k < (prtP d g n).length := by rw [hpl]; exact hk
    rw [List.getElem?_eq_getElem hk']; rfl))
  have hnl := hid (show (nats (prtP d g n)).length = pw d n from by rw [nats_length, hpl])
  rw [← hbk.out] at hpf
  replace hO := hid hO; replace hg := hid hg
  clear h1 h2 hG hF hpm hpl hbk
  generalize prtF d G n = R at *
  generalize prtP d g n = p at *
  generalize pw d n = N at *
  have hmk := fun W : World => run_make_row' (P := Try.prog) 29 2 (.int .i64 0) 8 Try.underlying29 info_i64 rfl .i64 .i64 N (by omega) (by omega) W
  have hmc := hid (toList_madeCells_one (.int .i64 0) N)
  generalize madeCells #[.int .i64 0] N = mc at *
  have hmcs := hid (show mc.size = N by rw [← Array.length_toList, hmc.out, List.length_replicate])
  go_enter Try.func32, Try.ntmps32
  go_upto_region 5 with (first
    | (go_at_call 113; (with_reducible refine (hpc.out _ _ _ (hS.out.o0.mono (Nat.zero_le _)) hS.out.o1).mono ?_); rintro e w1 ⟨rfl, hb⟩; replace hS := hid (hS.out.call hb).drop; clear hb)
    | (go_at_call 129; (with_reducible refine (hof.out _ hS.out.o0).mono ?_); rintro e w2 ⟨v2, rfl, hO2, hb⟩; obtain ⟨g2, c2, rfl, _, _⟩ := hO2.blk (fun e => by have h := hnl.out; rw [e] at h; simp at h; omega); rw [hnl.out] at hO2; rw [hnl.out]; replace hS := hid (hS.out.callOwn hb hO2); clear hO2 hb))
  replace hS := hid (hS.out.newArr mc N hmcs.out 2 (by omega))
  rw [hmc.out, hb0.out] at hS
  go_upto_region 6 with (fail)
  generalize w2.alloc (.cells mc 2) = w3 at *
  generalize w2.heap.size = gb at *
  go_wp2
  go_loopw [32] (fun i wr => ∃ k : Nat, k ≤ N ∧ i = .int .i64 k ∧ St w.heap.size w [Asn.own w.heap.size 2 (.slice (some ⟨gb, 0, none⟩) N N) (nats (bkL p k)), Asn.own w.heap.size 2 (.slice (some ⟨g2, 0, none⟩) N c2) (nats p)] wr) (fun i _ => N - (intOf i).toNat)
  case atStart => exact ⟨0, Nat.zero_le _, rfl, hS.out.f2.drop⟩
  case round =>
    obtain ⟨k, hk, rfl, rS⟩ := hrel
    clear hS
    by_cases hkN : k < N
    · have dk : decide ((k : Int) < (N : Int)) = true := decide_eq_true (by omega)
      have k0 : (0 : Int) ≤ (k : Int) := Int.natCast_nonneg _
      have k1 : (k : Int) < (N : Int) := by omega
      have ck := rS.o1.cellAt k _ (hcl.out k hkN)
      have hl := hlt.out k hkN
      have hset := hid (hbs.out k)
      have hl1 := hid (hbl.out k)
      generalize p.getD k 0 = y at *
      have y0 : (0 : Int) ≤ (y : Int) := Int.natCast_nonneg _
      have y1 : (y : Int) < (N : Int) := by omega
      obtain ⟨c0, hc0⟩ : ∃ z, (nats (bkL p k))[y]? = some z := ⟨_, List.getElem?_eq_getElem (by rw [hl1.out]; exact hl)⟩
      have co := Own.cellAt rS.o0 y c0 hc0
      have fo := Own.frozenAt rS.o0 hl1.out y
      replace rS := hid (rS.setOwn hl1.out y (.int .i64 (k : Nat)) hl)
      rw [hset.out] at rS
      go_wp2
      go_roundw
      case rel => exact ⟨k + 1, by omega, by go_num, rS.out⟩
      case measure => simp [intOf]; omega
    · obtain rfl : k = N := by omega
      have dk : decide ((k : Int) < (k : Int)) = false := decide_eq_false (by omega)
      replace rS := hid rS
      go_wp2_with (
        (go_at_call 114; (with_reducible refine (hpf.out _ _ _ rS.out.o0).mono ?_); rintro e w4 ⟨v4, rfl, hO4, hb⟩; replace rS := hid (rS.out.callOwn hb hO4); clear hb hO4))
      go_ret2
      exact ⟨_, rfl, rS.out.o0, rS.out.bel⟩
end Go.Proofs.Ytbmkkaecfogmoaa

/- IsOneCycle, both; ActPortrait, the program at portraits. -/
namespace Go.Proofs.Ytbmkkaecfogmoaa
open Go.RowKit
set_option linter.unusedVariables false
set_option linter.unusedSimpArgs false
-- @LONG

open Classical in
/-- What IsOneCycle answers. -/
noncomputable def oneAns (d n : Int) (g : List Int) : Bool × Int := if pcode d n [g] = 0 then (decide ((cyc (prtP d.toNat g n.toNat)).length = 1), 0) else (false, pcode d n [g])
set_option maxHeartbeats 2000000 in
set_option maxRecDepth 4000 in
theorem implActp_any (w : World) (d n : Nat) (hd : d = 2 ∨ d = 3) (hn1 : 1 ≤ n) (hn : n ≤ 4) (b0 : Nat) (v : Value) (g : List Int) (hO : Own w b0 2 v (ints g)) (hg : IsP d n g) (u : List Nat) (hu : ∀ x ∈ u, x < d) (hl : u.length ≤ n) :
    Calls Try.prog 31 #[.int .i64 d, .int .i64 n, v, .string (wstr u)] w fun e w' => e = .returned (.tuple #[.string (wstr (actP d g u)), .int .i64 0]) ∧ Below w.heap.size w w' := by
  have hgl : g.length ≤ 40 := by rw [hg.1]; exact (start_le hd hn).1
  obtain ⟨A0, cp0, rfl, _, _⟩ := hO.form
  rw [ints_length] at hO ⊢
  have hS := (St.arg w hO).newOwn [(Value.slice A0 g.length cp0)] 29 (by simp)
  simp only [List.length_cons, List.length_nil, Nat.zero_add] at hS
  replace hS := hid hS
  have hpc := hid (fun W b vv (hO : Own W b 29 vv [(Value.slice A0 g.length cp0)]) (hr : Own W b 2 (Value.slice A0 g.length cp0) (ints g)) => portraitCode_any W d n b vv [g] (mat1 hO hr) (by simp) (by simp; omega))
  rw [pcode_0 hd hn1 hn (by intro x hx; rw [List.mem_singleton.1 hx]; exact hg)] at hpc
  have hw : IsWd d (wstr u) := isWd_wstr (fun x hx => by have := hu x hx; omega) (by omega) (by omega)
  have hwd := hid (fun W => isWord_any (d : Int) (by omega) (by omega) (wstr u) (by rw [wstr_size]; omega) true (iff_of_true rfl hw) W)
  have hac := hid (fun W (hO : Own W 0 2 (Value.slice A0 g.length cp0) (ints g)) => act_any W d n hd hn 0 _ g hO hg u hu hl)
  have hsz := wstr_size u
  have dn : decide ((n : Int) < ((wstr u).size : Int)) = false := decide_eq_false (by omega)
  have dn2 : ¬ n < (wstr u).size := by omega
  replace hO := hid hO; replace hg := hid hg
  clear hu hl hw hsz
  generalize wstr (actP d g u) = y at *
  generalize wstr u = x at *
  go_enter Try.func31, Try.ntmps31
  go_wp2_with (first
    | (go_at_call 113; (with_reducible refine (hpc.out _ _ _ (hS.out.o0.mono (Nat.zero_le _)) hS.out.o1).mono ?_); rintro e w1 ⟨rfl, hb⟩; replace hS := hid (hS.out.call hb).drop; clear hb)
    | (go_at_call 128; (with_reducible refine (hwd.out _).mono ?_); rintro e w' ⟨rfl, rfl⟩)
    | (go_at_call 117; (with_reducible refine (hac.out _ hS.out.o0).mono ?_); rintro e w2 ⟨rfl, hb⟩; replace hS := hid (hS.out.call hb); clear hb))
  go_ret2
  exact ⟨rfl, hS.out.bel⟩
end Go.Proofs.Ytbmkkaecfogmoaa

/- ActPortrait, both, exact; the reference's IsPortrait; the program's PermutationOfPortrait at portraits, PermutationNumber. -/
namespace Go.Proofs.Ytbmkkaecfogmoaa
open Go.RowKit
set_option linter.unusedVariables false
set_option linter.unusedSimpArgs false
-- @LONG

open Classical in
/-- What ActPortrait answers. -/
noncomputable def acpAns (d n : Int) (g : List Int) (ws : ByteArray) : ByteArray × Int :=
  if pcode d n [g] = 0 then (if IsWd d ws then (if (ws.size : Int) ≤ n then (wstr (actP d.toNat g (lets ws)), 0) else (⟨#[]⟩, 2)) else (⟨#[]⟩, 1)) else (⟨#[]⟩, pcode d n [g])
open Classical in
theorem acpAns_0 {d n : Nat} {g : List Int} {ws : ByteArray} (h : pcode d n [g] = 0) : acpAns d n g ws = if IsWd d ws then (if (ws.size : Int) ≤ n then (wstr (actP d g (lets ws)), 0) else (⟨#[]⟩, 2)) else (⟨#[]⟩, 1) := by unfold acpAns; rw [h, if_pos rfl]; rfl
theorem acpAns_c {d n : Int} {g : List Int} {ws : ByteArray} (h : pcode d n [g] ≠ 0) : acpAns d n g ws = (⟨#[]⟩, pcode d n [g]) := by unfold acpAns; rw [if_neg h]
theorem wcode_acp (d n : Int) (g : List Int) (ws : ByteArray) : wcode d n g ws n = (acpAns d n g ws).2 := by
  unfold wcode acpAns
  by_cases hp : pcode d n [g] = 0
  · rw [if_pos hp, if_pos hp]
    by_cases hw : IsWd d ws
    · rw [if_pos hw, if_pos hw]
      by_cases hn : (ws.size : Int) ≤ n
      · rw [if_pos hn, if_pos hn]
      · rw [if_neg hn, if_neg hn]
    · rw [if_neg hw, if_neg hw]
  · rw [if_neg hp, if_neg hp]
theorem acpAns_z {d n : Int} {g : List Int} {ws : ByteArray} (h : (acpAns d n g ws).2 ≠ 0) : (acpAns d n g ws).1 = ⟨#[]⟩ := by
  unfold acpAns at h ⊢
  by_cases hp : pcode d n [g] = 0
  · rw [if_pos hp] at h ⊢
    by_cases hw : IsWd d ws
    · rw [if_pos hw] at h ⊢
      by_cases hn : (ws.size : Int) ≤ n
      · rw [if_pos hn] at h; exact absurd rfl h
      · rw [if_neg hn]
    · rw [if_neg hw]
  · rw [if_neg hp]
set_option maxHeartbeats 4000000 in
set_option maxRecDepth 100000 in
theorem implAcp_any (w : World) (d n : Int) (b0 : Nat) (v : Value) (g : List Int) (hO : Own w b0 2 v (ints g)) (hl : g.length < 2000000) (ws : ByteArray) (hws : ws.size < 1000000000000) :
    Calls Try.prog 31 #[.int .i64 d, .int .i64 n, v, .string ws] w fun e w' => e = .returned (.tuple #[.string (acpAns d n g ws).1, .int .i64 (acpAns d n g ws).2]) ∧ Below w.heap.size w w' := by
  obtain ⟨A0, cp0, rfl, _, _⟩ := hO.form
  rw [ints_length] at hO ⊢
  have hS := (St.arg w hO).newOwn [(Value.slice A0 g.length cp0)] 29 (by simp)
  simp only [List.length_cons, List.length_nil, Nat.zero_add] at hS
  replace hS := hid hS
  have hpc := hid (fun W b vv (hO : Own W b 29 vv [(Value.slice A0 g.length cp0)]) (hr : Own W b 2 (Value.slice A0 g.length cp0) (ints g)) => portraitCode_any W d n b vv [g] (mat1 hO hr) (by simp) (by simp; omega))
  rcases pcode_cases d n g with hp | hp | ⟨hp, d, n, rfl, rfl, hd, hn1, hn4, hgp⟩
  case inr.inr =>
    rw [acpAns_0 hp]
    rw [hp] at hpc
    replace hO := hid hO
    by_cases hw : IsWd d ws
    · rw [if_pos hw]
      obtain ⟨hwe, hwl, hw40⟩ := lets_wstr ws hw
      have hwsz : (lets ws).length = ws.size := by have h := wstr_size (lets ws); rw [← hwe] at h; omega
      have hwd := hid (fun W => isWord_any (d : Int) (by omega) (by omega) ws hws true ⟨fun _ => hw, fun _ => rfl⟩ W)
      by_cases hn : (ws.size : Int) ≤ n
      · rw [if_pos hn]
        have dn : decide ((n : Int) < (ws.size : Int)) = false := decide_eq_false (by omega)
        have dn2 : ¬ n < ws.size := by omega
        have hac := hid (fun W (hO : Own W 0 2 (Value.slice A0 g.length cp0) (ints g)) => (by have h := act_any W d n hd hn4 0 _ g hO hgp (lets ws) hwl (by omega); rw [← hwe] at h; exact h : Calls Try.prog 117 #[.int .i64 d, .slice A0 g.length cp0, .string ws] W fun e w' => e = .returned (.string (wstr (actP d g (lets ws)))) ∧ Below W.heap.size W w'))
        clear hw hwe hwl hwsz hn
        replace hgp := hid hgp
        generalize wstr (actP d g (lets ws)) = y at *
        go_enter Try.func31, Try.ntmps31
        go_wp2_with (first
          | (go_at_call 113; (with_reducible refine (hpc.out _ _ _ (hS.out.o0.mono (Nat.zero_le _)) hS.out.o1).mono ?_); rintro e w1 ⟨rfl, hb⟩; replace hS := hid (hS.out.call hb).drop; clear hb)
          | (go_at_call 128; (with_reducible refine (hwd.out _).mono ?_); rintro e w' ⟨rfl, rfl⟩)
          | (go_at_call 117; (with_reducible refine (hac.out _ hS.out.o0).mono ?_); rintro e w2 ⟨rfl, hb⟩; replace hS := hid (hS.out.call hb); clear hb))
        go_ret2
        exact ⟨rfl, hS.out.bel⟩
      · rw [if_neg hn]
        have dn : decide ((n : Int) < (ws.size : Int)) = true := decide_eq_true (by omega)
        have dn2 : n < ws.size := by omega
        clear hw hwe hwl hwsz hn
        replace hgp := hid hgp
        go_enter Try.func31, Try.ntmps31
        go_wp2_with (first
          | (go_at_call 113; (with_reducible refine (hpc.out _ _ _ (hS.out.o0.mono (Nat.zero_le _)) hS.out.o1).mono ?_); rintro e w1 ⟨rfl, hb⟩; replace hS := hid (hS.out.call hb).drop; clear hb)
          | (go_at_call 128; (with_reducible refine (hwd.out _).mono ?_); rintro e w' ⟨rfl, rfl⟩))
        go_ret2
        exact ⟨rfl, hS.out.bel⟩
    · rw [if_neg hw]
      have hwd := hid (fun W => isWord_any (d : Int) (by omega) (by omega) ws hws false ⟨fun h => (by cases h), fun h => absurd h hw⟩ W)
      clear hw
      replace hgp := hid hgp
      go_enter Try.func31, Try.ntmps31
      go_wp2_with (first
        | (go_at_call 113; (with_reducible refine (hpc.out _ _ _ (hS.out.o0.mono (Nat.zero_le _)) hS.out.o1).mono ?_); rintro e w1 ⟨rfl, hb⟩; replace hS := hid (hS.out.call hb).drop; clear hb)
        | (go_at_call 128; (with_reducible refine (hwd.out _).mono ?_); rintro e w' ⟨rfl, rfl⟩))
      go_ret2
      exact ⟨rfl, hS.out.bel⟩
  all_goals
    have h : pcode d n [g] ≠ 0 := by rw [hp]; decide
    rw [acpAns_c h]
    have d0 : ((pcode d n [g] : Int) != 0) = true := by simpa using h
    replace hO := hid hO
    clear h hp
    generalize pcode d n [g] = c at *
    go_enter Try.func31, Try.ntmps31
    go_wp2_with (
      (go_at_call 113; (with_reducible refine (hpc.out _ _ _ (hS.out.o0.mono (Nat.zero_le _)) hS.out.o1).mono ?_); rintro e w1 ⟨rfl, hb⟩; replace hS := hid (hS.out.call hb).drop; clear hb))
    go_ret2
    exact ⟨rfl, hS.out.bel⟩
set_option maxHeartbeats 4000000 in
set_option maxRecDepth 100000 in
theorem specAcp_any (w : World) (d n : Int) (v : Value) (g : List Int) (hO : Own w 0 2 v (ints g)) (hl : g.length < 2000000) (ws : ByteArray) (hws : ws.size < 1000000000000) :
    Calls Try.prog 41 #[.int .i64 d, .int .i64 n, v, .string ws] w fun e w' => e = .returned (.tuple #[.string (acpAns d n g ws).1, .int .i64 (acpAns d n g ws).2]) ∧ Below w.heap.size w w' := by
  have hS := hid (St.arg w hO)
  have hwo := hid (fun W (hO : Own W 0 2 v (ints g)) => (by have h := l03Wordy_any W d n 0 v g hO hl ws hws n; rw [wcode_acp] at h; exact h : Calls Try.prog 138 #[.int .i64 d, .int .i64 n, v, .string ws, .int .i64 n] W fun e w' => e = .returned (.int .i64 (acpAns d n g ws).2) ∧ Below W.heap.size W w'))
  by_cases hz : (acpAns d n g ws).2 = 0
  · rw [hz] at hwo
    have hz2 := hz
    unfold acpAns at hz2
    by_cases hp : pcode d n [g] = 0
    · rw [if_pos hp] at hz2
      by_cases hw : IsWd d ws
      · rw [if_pos hw] at hz2
        by_cases hn : (ws.size : Int) ≤ n
        · rcases pcode_cases d n g with hp' | hp' | ⟨_, d, n, rfl, rfl, hd, hn1, hn4, hgp⟩
          · rw [hp'] at hp; exact absurd hp (by decide)
          · rw [hp'] at hp; exact absurd hp (by decide)
          · obtain ⟨hwe, hwl, hw40⟩ := lets_wstr ws hw
            have hwsz : (lets ws).length = ws.size := by have h := wstr_size (lets ws); rw [← hwe] at h; omega
            have hac := hid (fun W (hO : Own W 0 2 v (ints g)) => (by have h := l03Act_any W d n hd hn4 0 _ g hO hgp (lets ws) hwl (by omega); rw [← hwe] at h; exact h : Calls Try.prog 139 #[.int .i64 d, v, .string ws] W fun e w' => e = .returned (.string (wstr (actP d g (lets ws)))) ∧ Below W.heap.size W w'))
            rw [acpAns_0 hp, if_pos hw, if_pos hn]
            replace hO := hid hO; replace hgp := hid hgp
            clear hz hz2 hp hw hn hwe hwl hwsz
            generalize wstr (actP d g (lets ws)) = y at *
            go_enter Try.func41, Try.ntmps41
            go_wp2_with (first
              | (go_at_call 138; (with_reducible refine (hwo.out _ hS.out.o0).mono ?_); rintro e w1 ⟨rfl, hb⟩; replace hS := hid (hS.out.call hb); clear hb)
              | (go_at_call 139; (with_reducible refine (hac.out _ hS.out.o0).mono ?_); rintro e w2 ⟨rfl, hb⟩; replace hS := hid (hS.out.call hb); clear hb))
            go_ret2
            exact ⟨rfl, hS.out.bel⟩
        · rw [if_neg hn] at hz2; exact absurd hz2 (by decide)
      · rw [if_neg hw] at hz2; exact absurd hz2 (by decide)
    · rw [if_neg hp] at hz2; exact absurd hz2 hp
  · rw [acpAns_z hz]
    have d0 : (((acpAns d n g ws).2 : Int) != 0) = true := by simpa using hz
    replace hO := hid hO
    clear hz
    generalize (acpAns d n g ws).2 = c at *
    go_enter Try.func41, Try.ntmps41
    go_wp2_with (
      (go_at_call 138; (with_reducible refine (hwo.out _ hS.out.o0).mono ?_); rintro e w1 ⟨rfl, hb⟩; replace hS := hid (hS.out.call hb); clear hb))
    go_ret2
    exact ⟨rfl, hS.out.bel⟩
set_option maxHeartbeats 1000000 in
theorem specIsP_any (w : World) (d n : Int) (b0 : Nat) (v : Value) (g : List Int) (hO : Own w b0 2 v (ints g)) (hl : g.length < 2000000) :
    Calls Try.prog 30 #[.int .i64 d, .int .i64 n, v] w fun e w' => e = .returned (.bool (decide (IsD d n ∧ IsP d.toNat n.toNat g))) ∧ Below w.heap.size w w' := by
  have hz := hid (fun W => l03Sizes_any d n (decide (IsD d n)) rfl W)
  have hS := hid (Below.refl w.heap.size w)
  by_cases hD : IsD d n
  · rw [decide_eq_true hD] at hz
    obtain ⟨d, n, rfl, rfl, hd, hn1, hn4⟩ := hD.nat
    simp only [Int.toNat_natCast]
    have hi := hid (l03Is_any w d n hd hn4 b0 v g hO hl _ rfl)
    have hr : decide (IsD d n ∧ IsP d n g) = decide (IsP d n g) := by rw [decide_eq_decide]; exact ⟨fun h => h.2, fun h => ⟨hD, h⟩⟩
    rw [hr]
    clear hr hD
    generalize decide (IsP d n g) = r at *
    go_enter Try.func30, Try.ntmps30
    go_wp2_with (first
      | (go_at_call 126; (with_reducible refine (hz.out _).mono ?_); rintro e w' ⟨rfl, rfl⟩)
      | (go_at_call 127; (with_reducible refine (hi.out).mono ?_); rintro e w1 ⟨rfl, hb⟩; replace hS := hid hb; clear hb))
    go_ret
    exact ⟨rfl, hS.out⟩
  · rw [decide_eq_false hD] at hz
    have hr : decide (IsD d n ∧ IsP d.toNat n.toNat g) = false := decide_eq_false fun h => hD h.1
    rw [hr]
    clear hr hD
    go_enter Try.func30, Try.ntmps30
    go_wp2_with (
      (go_at_call 126; (with_reducible refine (hz.out _).mono ?_); rintro e w' ⟨rfl, rfl⟩))
    go_ret
    exact ⟨rfl, hS.out⟩
set_option maxHeartbeats 1000000 in
theorem implPop_any (w : World) (d n : Nat) (hd : d = 2 ∨ d = 3) (hn1 : 1 ≤ n) (hn : n ≤ 4) (b0 : Nat) (v : Value) (g : List Int) (hO : Own w b0 2 v (ints g)) (hg : IsP d n g) :
    Calls Try.prog 33 #[.int .i64 d, .int .i64 n, v] w fun e w' => ∃ v', e = .returned (.tuple #[v', .int .i64 0]) ∧ Own w' w.heap.size 2 v' (nats (prtP d g n)) ∧ Below w.heap.size w w' := by
  have hgl : g.length ≤ 40 := by rw [hg.1]; exact (start_le hd hn).1
  obtain ⟨A0, cp0, rfl, _, _⟩ := hO.form
  rw [ints_length] at hO ⊢
  have hS := (St.arg w hO).newOwn [(Value.slice A0 g.length cp0)] 29 (by simp)
  simp only [List.length_cons, List.length_nil, Nat.zero_add] at hS
  replace hS := hid hS
  have hpc := hid (fun W b vv (hO : Own W b 29 vv [(Value.slice A0 g.length cp0)]) (hr : Own W b 2 (Value.slice A0 g.length cp0) (ints g)) => portraitCode_any W d n b vv [g] (mat1 hO hr) (by simp) (by simp; omega))
  rw [pcode_0 hd hn1 hn (by intro x hx; rw [List.mem_singleton.1 hx]; exact hg)] at hpc
  have hof := hid (fun W (hO : Own W 0 2 (Value.slice A0 g.length cp0) (ints g)) => ofPortrait_any W d n hd hn 0 _ g hO hg)
  replace hO := hid hO; replace hg := hid hg
  generalize prtP d g n = p at *
  go_enter Try.func33, Try.ntmps33
  go_wp2_with (first
    | (go_at_call 113; (with_reducible refine (hpc.out _ _ _ (hS.out.o0.mono (Nat.zero_le _)) hS.out.o1).mono ?_); rintro e w1 ⟨rfl, hb⟩; replace hS := hid (hS.out.call hb).drop; clear hb)
    | (go_at_call 129; (with_reducible refine (hof.out _ hS.out.o0).mono ?_); rintro e w2 ⟨v2, rfl, hO2, hb⟩; replace hS := hid (hS.out.callOwn hb hO2); clear hO2 hb))
  go_ret2
  exact ⟨_, rfl, hS.out.o0, hS.out.bel⟩
/-- What PermutationNumber answers. -/
def pnuAns (row : List Int) : Int × Int := if pnI row < 0 then (0, 2) else (pnI row, 0)
set_option maxHeartbeats 1000000 in
theorem implPnu_any (w : World) (b0 : Nat) (v : Value) (row : List Int) (h : Own w b0 2 v (ints row)) (hl : row.length < 1000000) :
    Calls Try.prog 43 #[v] w fun e w' => e = .returned (.tuple #[.int .i64 (pnuAns row).1, .int .i64 (pnuAns row).2]) ∧ Below w.heap.size w w' := by
  have hpn := hid (permutationNumber_any w b0 v row h hl)
  have hS := hid (Below.refl w.heap.size w)
  clear h
  by_cases hz : pnI row < 0
  · have hA : pnuAns row = (0, 2) := by unfold pnuAns; rw [if_pos hz]
    rw [hA]
    have dz : decide (pnI row < 0) = true := decide_eq_true hz
    clear hA
    generalize pnI row = R at *
    go_enter Try.func43, Try.ntmps43
    go_wp2_with (
      (go_at_call 143; (with_reducible refine (hpn.out).mono ?_); rintro e w1 ⟨rfl, hb⟩; replace hS := hid hb; clear hb))
    go_ret2
    exact ⟨rfl, hS.out⟩
  · have hA : pnuAns row = (pnI row, 0) := by unfold pnuAns; rw [if_neg hz]
    rw [hA]
    have dz : decide (pnI row < 0) = false := decide_eq_false hz
    clear hA
    generalize pnI row = R at *
    go_enter Try.func43, Try.ntmps43
    go_wp2_with (
      (go_at_call 143; (with_reducible refine (hpn.out).mono ?_); rintro e w1 ⟨rfl, hb⟩; replace hS := hid hb; clear hb))
    go_ret2
    exact ⟨rfl, hS.out⟩
end Go.Proofs.Ytbmkkaecfogmoaa

/- The reference's products and inverses of permutations of letters. -/
namespace Go.Proofs.Ytbmkkaecfogmoaa
open Go.RowKit
set_option linter.unusedVariables false
set_option linter.unusedSimpArgs false
-- @LONG

theorem pim_22 (k : Nat) (hk : k < cnt 2) : pim 2 k 2 = 0 := by
  have : k = 0 ∨ k = 1 := by have : cnt 2 = 2 := rfl; omega
  rcases this with rfl | rfl <;> decide
/-- Letters that have been put down in order. -/
def up3 (F : Nat → Nat) (k : Nat) : Array Value := #[.int .u8 ((if 0 < k then F 0 else 0 : Nat) : Int), .int .u8 ((if 1 < k then F 1 else 0 : Nat) : Int), .int .u8 ((if 2 < k then F 2 else 0 : Nat) : Int)]
theorem up3_set (F : Nat → Nat) (k : Nat) (hk : k < 3) : (up3 F k).setIfInBounds k (.int .u8 (F k : Nat)) = up3 F (k + 1) := by
  have : k = 0 ∨ k = 1 ∨ k = 2 := by omega
  rcases this with rfl | rfl | rfl <;> rfl
theorem up3_at (F : Nat → Nat) (k : Nat) (hk : k < 3) : (up3 F k)[k]? = some (.int .u8 0) := by
  have : k = 0 ∨ k = 1 ∨ k = 2 := by omega
  rcases this with rfl | rfl | rfl <;> rfl
/-- Places that have been put down at their images. -/
def bk3 (d : Nat) (F : Nat → Nat) (k y : Nat) : Nat := if y < d ∧ F y < k then F y else 0
def dn3 (d : Nat) (F : Nat → Nat) (k : Nat) : Array Value := #[.int .u8 (bk3 d F k 0 : Nat), .int .u8 (bk3 d F k 1 : Nat), .int .u8 (bk3 d F k 2 : Nat)]
theorem dn3_set (d : Nat) (F : Nat → Nat) (k y : Nat) (hd : d ≤ 3) (hy : y < d) (hF : F y = k) (hi : ∀ z, z < d → F z = k → z = y) : (dn3 d F k).setIfInBounds y (.int .u8 (k : Nat)) = dn3 d F (k + 1) := by
  have h : ∀ z, bk3 d F (k + 1) z = if z = y then k else bk3 d F k z := fun z => by
    unfold bk3
    by_cases e : z = y
    · subst e
      rw [if_pos rfl, if_pos ⟨hy, by omega⟩, hF]
    · rw [if_neg e]
      by_cases h1 : z < d ∧ F z < k
      · rw [if_pos h1, if_pos ⟨h1.1, by omega⟩]
      · rw [if_neg h1, if_neg]
        intro h2
        have : F z ≠ k := fun h3 => e (hi z h2.1 h3)
        exact h1 ⟨h2.1, by omega⟩
  unfold dn3
  rw [h, h, h]
  have : y = 0 ∨ y = 1 ∨ y = 2 := by omega
  rcases this with rfl | rfl | rfl <;> rfl
theorem dn3_at (d : Nat) (F : Nat → Nat) (k y : Nat) (hy : y < 3) : (dn3 d F k)[y]? = some (.int .u8 (bk3 d F k y : Nat)) := by
  have : y = 0 ∨ y = 1 ∨ y = 2 := by omega
  rcases this with rfl | rfl | rfl <;> rfl
set_option maxHeartbeats 4000000 in
set_option maxRecDepth 100000 in
theorem l03Then_any (d a b c : Nat) (hd : d = 2 ∨ d = 3) (ha : a < cnt d) (hb : b < cnt d) (hc : c < cnt d) (h : ∀ x, x < d → pim d c x = pim d b (pim d a x)) (w : World) :
    Calls Try.prog 216 #[.int .i64 d, .int .i64 a, .int .i64 b] w fun e w' => e = .returned (.int .i64 (c : Nat)) ∧ Below w.heap.size w w' := by
  have hd3 : d ≤ 3 ∧ 2 ≤ d := by rcases hd with h | h <;> rw [h] <;> decide
  have him := hid (fun k (hk : k < cnt d) W => (by have h := l03Images_any d k hd hk W; rw [row3] at h; exact h : Calls Try.prog 140 #[.int .i64 d, .int .i64 k] W fun e w' => e = .returned (.agg #[.int .u8 (pim d k 0 : Nat), .int .u8 (pim d k 1 : Nat), .int .u8 (pim d k 2 : Nat)]) ∧ Below W.heap.size W w'))
  have hrow := hid (fun k x (hx : x < 3) => (show #[Value.int .u8 (pim d k 0 : Nat), .int .u8 (pim d k 1 : Nat), .int .u8 (pim d k 2 : Nat)][x]? = some (.int .u8 (pim d k x : Nat)) from by
    have : x = 0 ∨ x = 1 ∨ x = 2 := by omega
    rcases this with rfl | rfl | rfl <;> rfl))
  have hlt := hid (fun k x (hk : k < cnt d) (hx : x < d) => pim_lt d k x hd hk hx)
  have hnu := hid (fun W => (by
    have h2 := l03Number_lit d c hd hc _ _ _ rfl rfl rfl W
    have e : #[Value.int .u8 (pim d c 0 : Nat), .int .u8 (pim d c 1 : Nat), .int .u8 (pim d c 2 : Nat)] = up3 (pim d c) d := by
      rcases hd with rfl | rfl
      · unfold up3; rw [pim_22 c hc]; rfl
      · rfl
    rw [e] at h2
    exact h2 : Calls Try.prog 144 #[.int .i64 d, .agg (up3 (pim d c) d).toList.toArray] W fun e w' => e = .returned (.int .i64 (c : Nat)) ∧ Below W.heap.size W w'))
  have hS := hid (St.start w)
  have h00 := hid (show #[Value.int .u8 0, .int .u8 0, .int .u8 0] = up3 (pim d c) 0 from rfl)
  replace h := hid h
  have hia := hid (him.out a ha)
  have hib := hid (him.out b hb)
  replace hd := hid hd
  go_enter Try.func216, Try.ntmps216
  go_upto_region 2 with (first
    | (go_at_call 140; (with_reducible refine (hia.out _).mono ?_); rintro e w1 ⟨rfl, hb⟩; replace hS := hid (hS.out.call hb); clear hia; clear hb)
    | (go_at_call 140; (with_reducible refine (hib.out _).mono ?_); rintro e w2 ⟨rfl, hb⟩; replace hS := hid (hS.out.call hb); clear hib; clear hb))
  have hge := hS.out.bel.size
  replace hS := (((hS.out.newBlk #[.int .u8 (pim d a 0 : Nat), .int .u8 (pim d a 1 : Nat), .int .u8 (pim d a 2 : Nat)] 24).newBlk #[.int .u8 (pim d b 0 : Nat), .int .u8 (pim d b 1 : Nat), .int .u8 (pim d b 2 : Nat)] 24).newBlk #[.int .u8 0, .int .u8 0, .int .u8 0] 24)
  simp only [heap_alloc_size] at hS
  have hra := hid (hrow.out a)
  have hrb := hid (hrow.out b)
  generalize #[Value.int .u8 (pim d a 0 : Nat), .int .u8 (pim d a 1 : Nat), .int .u8 (pim d a 2 : Nat)] = RA at *
  generalize #[Value.int .u8 (pim d b 0 : Nat), .int .u8 (pim d b 1 : Nat), .int .u8 (pim d b 2 : Nat)] = RB at *
  generalize w2.heap.size = g at *
  generalize World.alloc (World.alloc (World.alloc w2 _) _) _ = w3 at *
  rw [h00.out] at hS
  replace hS := hid hS
  clear hrow him
  go_wp2
  go_loopw [10] (fun i wr => ∃ k : Nat, k ≤ d ∧ i = .int .i64 k ∧ St w.heap.size w [Asn.blk (g + 1 + 1) (up3 (pim d c) k) 24, Asn.blk (g + 1) RB 24, Asn.blk g RA 24] wr) (fun i _ => d - (intOf i).toNat)
  case atStart => exact ⟨0, Nat.zero_le _, rfl, hS.out⟩
  case round =>
    obtain ⟨k, hk, rfl, rS⟩ := hrel
    clear hS
    by_cases hkd : k < d
    · have dk : decide ((k : Int) < (d : Int)) = true := decide_eq_true (by omega)
      have k0 : (0 : Int) ≤ (k : Int) := Int.natCast_nonneg _
      have k1 : (k : Int) < 3 := by omega
      have hk3 : k < 3 := by omega
      have hy := hlt.out a k ha hkd
      have hck := hid (h.out k hkd)
      have c0 := (cell_of_row _ _ k _ _ _ rS.k2).trans (hra.out k hk3)
      generalize pim d a k = y at *
      have y0 : (0 : Int) ≤ (y : Int) := Int.natCast_nonneg _
      have y1 : (y : Int) < 3 := by omega
      have c1 := (cell_of_row _ _ y _ _ _ rS.k1).trans (hrb.out y (by omega))
      have hz := hlt.out b y hb hy
      have hst := hid (up3_set (pim d c) k hk3)
      rw [hck.out] at hst
      generalize pim d b y = z at *
      have co := (cell_of_row _ _ k _ _ _ rS.k0).trans (up3_at (pim d c) k hk3)
      have fo := frozen_of_row _ _ k _ _ rS.k0
      replace rS := rS.setBlk (show w.heap.size ≤ g + 1 + 1 by omega) k (.int .u8 (z : Nat))
      rw [hst.out] at rS
      replace rS := hid rS
      go_wp2
      go_roundw
      case rel => exact ⟨k + 1, by omega, by go_num, rS.out⟩
      case measure => simp [intOf]; omega
    · obtain rfl : k = d := by omega
      have dk : decide ((k : Int) < (k : Int)) = false := decide_eq_false (by omega)
      have hrg := hid (show wr.rangeAt (g + 1 + 1) 0 (up3 (pim k c) k).toList from fun j v hv => (cell_of_row _ _ (0 + j) _ _ _ rS.k0).trans (by rw [Nat.zero_add]; simpa using hv))
      have hrl := hid (show (up3 (pim k c) k).toList.length = 3 from rfl)
      replace rS := hid rS
      generalize (up3 (pim k c) k).toList = RL at *
      go_wp2_with (first
        | ((with_reducible refine gate (N := 31) rfl ?_); refine wpList_load_mid rfl 24 _ rfl (g + 1 + 1) 0 rfl _ _ hrg.out Try.underlying24 rfl (by rw [hrl.out]; exact sz_b3) ?_)
        | (go_at_call 144; (with_reducible refine (hnu.out _).mono ?_); rintro e w4 ⟨rfl, hb⟩; replace rS := hid (rS.out.call hb); clear hb))
      go_ret
      exact ⟨rfl, rS.out.bel⟩
set_option maxHeartbeats 4000000 in
set_option maxRecDepth 100000 in
theorem l03Back_any (d a c : Nat) (hd : d = 2 ∨ d = 3) (ha : a < cnt d) (hc : c < cnt d) (h : ∀ x, x < d → pim d c (pim d a x) = x) (h2 : ∀ x, x < d → pim d a (pim d c x) = x) (w : World) :
    Calls Try.prog 221 #[.int .i64 d, .int .i64 a] w fun e w' => e = .returned (.int .i64 (c : Nat)) ∧ Below w.heap.size w w' := by
  have hd3 : d ≤ 3 ∧ 2 ≤ d := by rcases hd with h | h <;> rw [h] <;> decide
  have him := hid (fun k (hk : k < cnt d) W => (by have h := l03Images_any d k hd hk W; rw [row3] at h; exact h : Calls Try.prog 140 #[.int .i64 d, .int .i64 k] W fun e w' => e = .returned (.agg #[.int .u8 (pim d k 0 : Nat), .int .u8 (pim d k 1 : Nat), .int .u8 (pim d k 2 : Nat)]) ∧ Below W.heap.size W w'))
  have hrow := hid (fun k x (hx : x < 3) => (show #[Value.int .u8 (pim d k 0 : Nat), .int .u8 (pim d k 1 : Nat), .int .u8 (pim d k 2 : Nat)][x]? = some (.int .u8 (pim d k x : Nat)) from by
    have : x = 0 ∨ x = 1 ∨ x = 2 := by omega
    rcases this with rfl | rfl | rfl <;> rfl))
  have hlt := hid (fun k x (hk : k < cnt d) (hx : x < d) => pim_lt d k x hd hk hx)
  have hnu := hid (fun W => (by
    have h2 := l03Number_lit d c hd hc _ _ _ rfl rfl rfl W
    have e : #[Value.int .u8 (pim d c 0 : Nat), .int .u8 (pim d c 1 : Nat), .int .u8 (pim d c 2 : Nat)] = dn3 d (pim d c) d := by
      have hp := hlt.out c
      rcases hd with rfl | rfl
      · unfold dn3 bk3
        rw [if_pos ⟨by omega, hp 0 hc (by omega)⟩, if_pos ⟨by omega, hp 1 hc (by omega)⟩, if_neg (by omega), pim_22 c hc]
      · unfold dn3 bk3
        rw [if_pos ⟨by omega, hp 0 hc (by omega)⟩, if_pos ⟨by omega, hp 1 hc (by omega)⟩, if_pos ⟨by omega, hp 2 hc (by omega)⟩]
    rw [e] at h2
    exact h2 : Calls Try.prog 144 #[.int .i64 d, .agg (dn3 d (pim d c) d).toList.toArray] W fun e w' => e = .returned (.int .i64 (c : Nat)) ∧ Below W.heap.size W w'))
  have hS := hid (St.start w)
  have h00 := hid (show #[Value.int .u8 0, .int .u8 0, .int .u8 0] = dn3 d (pim d c) 0 from by simp [dn3, bk3])
  replace h := hid h
  replace h2 := hid h2
  have hia := hid (him.out a ha)
  replace hd := hid hd
  go_enter Try.func221, Try.ntmps221
  go_upto_region 2 with (
    (go_at_call 140; (with_reducible refine (hia.out _).mono ?_); rintro e w2 ⟨rfl, hb⟩; replace hS := hid (hS.out.call hb); clear hia; clear hb))
  have hge := hS.out.bel.size
  replace hS := ((hS.out.newBlk #[.int .u8 (pim d a 0 : Nat), .int .u8 (pim d a 1 : Nat), .int .u8 (pim d a 2 : Nat)] 24).newBlk #[.int .u8 0, .int .u8 0, .int .u8 0] 24)
  simp only [heap_alloc_size] at hS
  have hra := hid (hrow.out a)
  generalize #[Value.int .u8 (pim d a 0 : Nat), .int .u8 (pim d a 1 : Nat), .int .u8 (pim d a 2 : Nat)] = RA at *
  generalize w2.heap.size = g at *
  generalize World.alloc (World.alloc w2 _) _ = w3 at *
  rw [h00.out] at hS
  replace hS := hid hS
  clear hrow him
  go_wp2
  go_loopw [7] (fun i wr => ∃ k : Nat, k ≤ d ∧ i = .int .i64 k ∧ St w.heap.size w [Asn.blk (g + 1) (dn3 d (pim d c) k) 24, Asn.blk g RA 24] wr) (fun i _ => d - (intOf i).toNat)
  case atStart => exact ⟨0, Nat.zero_le _, rfl, hS.out⟩
  case round =>
    obtain ⟨k, hk, rfl, rS⟩ := hrel
    clear hS
    by_cases hkd : k < d
    · have dk : decide ((k : Int) < (d : Int)) = true := decide_eq_true (by omega)
      have k0 : (0 : Int) ≤ (k : Int) := Int.natCast_nonneg _
      have k1 : (k : Int) < 3 := by omega
      have hk3 : k < 3 := by omega
      have hy := hlt.out a k ha hkd
      have c0 := (cell_of_row _ _ k _ _ _ rS.k1).trans (hra.out k hk3)
      have hst := hid (dn3_set d (pim d c) k (pim d a k) hd3.1 hy (h.out k hkd) (fun z hz e => by rw [← e]; exact (h2.out z hz).symm))
      generalize pim d a k = y at *
      have y0 : (0 : Int) ≤ (y : Int) := Int.natCast_nonneg _
      have y1 : (y : Int) < 3 := by omega
      have co := (cell_of_row _ _ y _ _ _ rS.k0).trans (dn3_at d (pim d c) k y (by omega))
      have fo := frozen_of_row _ _ y _ _ rS.k0
      have ew : IntKind.u8.wrap (k : Int) = (k : Int) := IntWalk.u8_in _ (by omega)
      have em : ((k : Nat) : Int) % 256 = (k : Nat) := by omega
      generalize bk3 d (pim d c) k y = old at *
      replace rS := rS.setBlk (show w.heap.size ≤ g + 1 by omega) y (.int .u8 (k : Nat))
      rw [hst.out] at rS
      replace rS := hid rS
      go_wp2
      go_roundw
      case rel => exact ⟨k + 1, by omega, by go_num, rS.out⟩
      case measure => simp [intOf]; omega
    · obtain rfl : k = d := by omega
      have dk : decide ((k : Int) < (k : Int)) = false := decide_eq_false (by omega)
      have hrg := hid (show wr.rangeAt (g + 1) 0 (dn3 k (pim k c) k).toList from fun j v hv => (cell_of_row _ _ (0 + j) _ _ _ rS.k0).trans (by rw [Nat.zero_add]; simpa using hv))
      have hrl := hid (show (dn3 k (pim k c) k).toList.length = 3 from rfl)
      replace rS := hid rS
      generalize (dn3 k (pim k c) k).toList = RL at *
      go_wp2_with (first
        | ((with_reducible refine gate (N := 24) rfl ?_); refine wpList_load_mid rfl 24 _ rfl (g + 1) 0 rfl _ _ hrg.out Try.underlying24 rfl (by rw [hrl.out]; exact sz_b3) ?_)
        | (go_at_call 144; (with_reducible refine (hnu.out _).mono ?_); rintro e w4 ⟨rfl, hb⟩; replace rS := hid (rS.out.call hb); clear hb))
      go_ret
      exact ⟨rfl, rS.out.bel⟩
end Go.Proofs.Ytbmkkaecfogmoaa

/- InvertPortrait: what the program and the reference answer. -/
namespace Go.Proofs.Ytbmkkaecfogmoaa
open Go.RowKit
set_option linter.unusedVariables false
set_option linter.unusedSimpArgs false
-- @LONG

/-- What undoes a portrait. -/
def ivF (d : Nat) (g : List Int) (n : Nat) : List Nat → List Nat := itF (actP d g) (bk d ^ n - 1)
theorem bk_pos (d n : Nat) : 1 ≤ bk d ^ n := Nat.pow_pos (by unfold bk; split <;> omega)
theorem itF_fix {F : List Nat → List Nat} {u : List Nat} (h : F u = u) : ∀ j, itF F j u = u
  | 0 => rfl
  | j + 1 => by show F (itF F j u) = u; rw [itF_fix h j, h]
theorem aut_full {d n : Nat} {F : List Nat → List Nat} (hd : d = 2 ∨ d = 3) (h : Aut d F n) {u : List Nat} (hl : u.length ≤ n) (hu : ∀ y ∈ u, y < d) : itF F (bk d ^ n) u = u := by
  obtain ⟨j, hj⟩ : ∃ j, n = j + u.length := ⟨n - u.length, by omega⟩
  have e : bk d ^ n = bk d ^ j * bk d ^ u.length := by rw [← Nat.pow_add, ← hj]
  rw [e, itF_mul]
  exact itF_fix (aut_back hd h u.length u rfl hl hu) _
theorem itF_comm (F : List Nat → List Nat) (u : List Nat) : ∀ j, itF F j (F u) = F (itF F j u)
  | 0 => rfl
  | j + 1 => by show F (itF F j (F u)) = _; rw [itF_comm F u j]; rfl
section
variable {d n : Nat} {g : List Int}
theorem ivF_aut (hd : d = 2 ∨ d = 3) (hg : IsP d n g) : Aut d (ivF d g n) n := (aut_act hd hg).it _
theorem ivF_r (hd : d = 2 ∨ d = 3) (hg : IsP d n g) {u : List Nat} (hl : u.length ≤ n) (hu : ∀ y ∈ u, y < d) : actP d g (ivF d g n u) = u := by
  have h := aut_full hd (aut_act hd hg) hl hu
  have hb := bk_pos d n
  rw [show bk d ^ n = (bk d ^ n - 1) + 1 by omega] at h
  exact h
theorem ivF_l (hd : d = 2 ∨ d = 3) (hg : IsP d n g) {u : List Nat} (hl : u.length ≤ n) (hu : ∀ y ∈ u, y < d) : ivF d g n (actP d g u) = u := by
  unfold ivF
  rw [itF_comm]
  exact ivF_r hd hg hl hu
end
open Classical in
/-- What InvertPortrait answers. -/
noncomputable def ivpAns (d n : Int) (g : List Int) : List Int × Int := if pcode d n [g] = 0 then (prtF d.toNat (ivF d.toNat g n.toNat) n.toNat, 0) else ([], pcode d n [g])
theorem ivpAns_0 {d n : Nat} {g : List Int} (h : pcode d n [g] = 0) : ivpAns d n g = (prtF d (ivF d g n) n, 0) := by unfold ivpAns; rw [if_pos h]; rfl
theorem ivpAns_c {d n : Int} {g : List Int} (h : pcode d n [g] ≠ 0) : ivpAns d n g = ([], pcode d n [g]) := by unfold ivpAns; rw [if_neg h]
set_option maxHeartbeats 4000000 in
set_option maxRecDepth 100000 in
theorem implInv_any (w : World) (d n : Int) (b0 : Nat) (v : Value) (g : List Int) (hO : Own w b0 2 v (ints g)) (hl : g.length < 2000000) :
    Calls Try.prog 32 #[.int .i64 d, .int .i64 n, v] w fun e w' => ∃ v', e = .returned (.tuple #[v', .int .i64 (ivpAns d n g).2]) ∧ Own w' w.heap.size 2 v' (ints (ivpAns d n g).1) ∧ Below w.heap.size w w' := by
  by_cases h : pcode d n [g] = 0
  · rcases pcode_cases d n g with hp | hp | ⟨hp, d, n, rfl, rfl, hd, hn1, hn4, hgp⟩
    · rw [hp] at h; exact absurd h (by decide)
    · rw [hp] at h; exact absurd h (by decide)
    · rw [ivpAns_0 h]
      exact implIvp_any w d n hd hn1 hn4 b0 v g hO hgp (ivF d g n) (ivF_aut hd hgp) (fun u hu hx => ivF_l hd hgp (by omega) hx) (fun u hu hx => ivF_r hd hgp (by omega) hx)
  · obtain ⟨A0, cp0, rfl, _, _⟩ := hO.form
    rw [ints_length] at hO ⊢
    have hS := (St.arg w hO).newOwn [(Value.slice A0 g.length cp0)] 29 (by simp)
    simp only [List.length_cons, List.length_nil, Nat.zero_add] at hS
    replace hS := hid hS
    have hpc := hid (fun W b vv (hO : Own W b 29 vv [(Value.slice A0 g.length cp0)]) (hr : Own W b 2 (Value.slice A0 g.length cp0) (ints g)) => portraitCode_any W d n b vv [g] (mat1 hO hr) (by simp) (by simp; omega))
    rw [ivpAns_c h]
    have d0 : ((pcode d n [g] : Int) != 0) = true := by simpa using h
    replace hO := hid hO
    clear h
    generalize pcode d n [g] = c at *
    go_enter Try.func32, Try.ntmps32
    go_wp2_with (
      (go_at_call 113; (with_reducible refine (hpc.out _ _ _ (hS.out.o0.mono (Nat.zero_le _)) hS.out.o1).mono ?_); rintro e w1 ⟨rfl, hb⟩; replace hS := hid (hS.out.call hb).drop; clear hb))
    go_ret2
    exact ⟨_, rfl, Own.nil _ _ _, hS.out.bel⟩
theorem start_split (d : Nat) : ∀ n i, i < start d n → ∃ k j, k < n ∧ j < pw d k ∧ i = start d k + j
  | 0, i, h => by simp [start] at h
  | n + 1, i, h => by
    by_cases e : i < start d n
    · obtain ⟨k, j, h1, h2, h3⟩ := start_split d n i e
      exact ⟨k, j, by omega, h2, h3⟩
    · have h : i < start d n + pw d n := h
      exact ⟨n, i - start d n, by omega, by omega, by omega⟩
theorem start_le2 (d : Nat) {k n : Nat} (h : k < n) : start d k + pw d k ≤ start d n := by
  have := start_mono d (k + 1) (n - (k + 1))
  rw [show k + 1 + (n - (k + 1)) = n by omega] at this
  exact this
/-- What stands in a list when the levels less than k and j words of the level k have been turned back. -/
def IvL (d n : Nat) (F : List Nat → List Nat) (H : List Nat → Int) (k j : Nat) (L : List Int) : Prop := L.length = start d n ∧ ∀ k' j', (k' < k ∨ k' = k ∧ j' < j) → j' < pw d k' → L[start d k' + num d (F (wrd d k' j'))]? = some (H (wrd d k' j'))
theorem ivL_set {d n : Nat} {F : List Nat → List Nat} {H : List Nat → Int} (hd : 0 < d) (hF : Aut d F n) {k j : Nat} {L : List Int} (h : IvL d n F H k j L) (hk : k < n) (hj : j < pw d k) : IvL d n F H k (j + 1) (L.set (start d k + num d (F (wrd d k j))) (H (wrd d k j))) := by
  have hnl : ∀ k j, k ≤ n → num d (F (wrd d k j)) < pw d k := fun k j hk => num_lt d k _ (by rw [hF.len _ (wrd_lt d hd k j) (by rw [wrd_length]; exact hk), wrd_length]) (hF.lt _ (wrd_lt d hd k j) (by rw [wrd_length]; exact hk))
  refine ⟨by rw [List.length_set]; exact h.1, fun k' j' hb hj' => ?_⟩
  rw [List.getElem?_set]
  by_cases e : start d k + num d (F (wrd d k j)) = start d k' + num d (F (wrd d k' j'))
  · have hk' : k' = k := by
      rcases hb with hb | hb
      · have h1 := start_le2 d hb
        have h2 := hnl k' j' (by omega)
        omega
      · exact hb.1
    subst hk'
    have hjj : j' = j := by
      have e2 : num d (F (wrd d k' j)) = num d (F (wrd d k' j')) := by omega
      have hfl : ∀ j, (F (wrd d k' j)).length = k' := fun j => by rw [hF.len _ (wrd_lt d hd k' j) (by rw [wrd_length]; omega), wrd_length]
      have hfx : ∀ j, ∀ x ∈ F (wrd d k' j), x < d := fun j => hF.lt _ (wrd_lt d hd k' j) (by rw [wrd_length]; omega)
      have e3 : F (wrd d k' j) = F (wrd d k' j') := by rw [← wrd_num d hd k' _ (hfl j) (hfx j), ← wrd_num d hd k' _ (hfl j') (hfx j'), e2]
      have e4 := hF.inj _ _ (wrd_lt d hd k' j) (wrd_lt d hd k' j') (by rw [wrd_length]; omega) (by rw [wrd_length, wrd_length]) e3
      rw [← num_wrd d hd k' j hj, ← num_wrd d hd k' j' hj', e4]
    subst hjj
    rw [if_pos rfl, if_pos]
    rw [h.1]
    have h1 := start_le2 d hk
    have h2 := hnl k' j' (by omega)
    omega
  · rw [if_neg e]
    refine h.2 k' j' ?_ hj'
    rcases hb with hb | ⟨rfl, hb⟩
    · exact .inl hb
    · by_cases ej : j' = j
      · subst ej; exact absurd rfl e
      · exact .inr ⟨rfl, by omega⟩
theorem ivL_next {d n : Nat} {F : List Nat → List Nat} {H : List Nat → Int} {k : Nat} {L : List Int} (h : IvL d n F H k (pw d k) L) : IvL d n F H (k + 1) 0 L :=
  ⟨h.1, fun k' j' hb hj' => by
    refine h.2 k' j' ?_ hj'
    rcases hb with hb | hb
    · by_cases e : k' = k
      · subst e; exact .inr ⟨rfl, hj'⟩
      · exact .inl (by omega)
    · omega⟩
/-- The row that stands at the image of a word: the row of the word, turned back. -/
theorem iv_num {d n : Nat} {g : List Int} (hd : d = 2 ∨ d = 3) (hg : IsP d n g) {u : List Nat} (hl : u.length < n) (hu : ∀ y ∈ u, y < d) : ∃ c, c < cnt d ∧ pnm (lrow d (ivF d g n) (actP d g u)) = (c : Nat) ∧ (∀ x, x < d → pim d c (pim d (gAt d g u).toNat x) = x) ∧ ∀ x, x < d → pim d (gAt d g u).toNat (pim d c x) = x := by
  have hau := actP_lt hd hg u hu (by omega)
  have hal := actP_length d g u
  have hG := ivF_aut (g := g) hd hg
  obtain ⟨c, hc, hcp, hci⟩ := lrow_num hd hG (u := actP d g u) hau (by omega)
  have hk := (gAt_nat hd hg u hu hl).2
  have h1 : ∀ x, x < d → pim d c (pim d (gAt d g u).toNat x) = x := fun x hx => by
    rw [hci _ (pim_lt d _ x hd hk hx), ← actP_snoc, ivF_l hd hg (by simp; omega) (snoc_lt hu hx), hal]
    simp
  refine ⟨c, hc, hcp, h1, fun x hx => ?_⟩
  have hp := pim_lt d c x hd hc hx
  have h2 : actP d g (ivF d g n (actP d g u ++ [x])) = actP d g u ++ [x] := ivF_r hd hg (by simp; omega) (snoc_lt hau hx)
  obtain ⟨e1, e2⟩ := hG.last hau hx (by omega)
  rw [← hci x hx, ivF_l hd hg (by omega) hu] at e1
  rw [e1, actP_snoc] at h2
  have h3 := congrArg (fun l => l.getD u.length 0) h2
  simp only [List.getD_eq_getElem?_getD] at h3
  rw [List.getElem?_append_right (by omega), List.getElem?_append_right (by omega), hal, Nat.sub_self] at h3
  simpa using h3
theorem ivL_end {d n : Nat} {g : List Int} (hd : d = 2 ∨ d = 3) (hg : IsP d n g) {L : List Int} (h : IvL d n (actP d g) (fun u => pnm (lrow d (ivF d g n) (actP d g u))) n 0 L) : L = prtF d (ivF d g n) n := by
  have hd0 : 0 < d := by omega
  apply List.ext_getElem? 
  intro i
  by_cases hi : i < start d n
  · obtain ⟨k, j, hk, hj, rfl⟩ := start_split d n i hi
    have hG := ivF_aut (g := g) hd hg
    have hwl := wrd_length d k j
    have hwx := wrd_lt d hd0 k j
    have hgl := hG.len _ hwx (by omega)
    have hgx := hG.lt _ hwx (by omega)
    have hjn := num_lt d k _ (by rw [hgl, hwl]) hgx
    have h2 := h.2 k (num d (ivF d g n (wrd d k j))) (.inl hk) hjn
    rw [wrd_num d hd0 k _ (by rw [hgl, hwl]) hgx] at h2
    dsimp only at h2
    rw [ivF_r hd hg (by omega) hwx, num_wrd d hd0 k j hj] at h2
    rw [h2]
    exact (byL_get d (fun u => pnm (lrow d (ivF d g n) u)) k j hj n hk).symm
  · rw [List.getElem?_eq_none (by rw [h.1]; omega), List.getElem?_eq_none (by unfold prtF; rw [byL_length]; omega)]
set_option maxHeartbeats 8000000 in
set_option maxRecDepth 100000 in
theorem l03Inverse_any (w : World) (d n : Nat) (hd : d = 2 ∨ d = 3) (hn : n ≤ 4) (b0 : Nat) (v : Value) (g : List Int) (hO : Own w b0 2 v (ints g)) (hg : IsP d n g) :
    Calls Try.prog 135 #[.int .i64 d, .int .i64 n, v] w fun e w' => ∃ v', e = .returned v' ∧ Own w' w.heap.size 2 v' (ints (prtF d (ivF d g n) n)) ∧ Below w.heap.size w w' := by
  have hgl : g.length = start d n := hg.1
  have hs40 := (start_le hd hn).1
  obtain ⟨A0, cp0, rfl, _, _⟩ := hO.form
  rw [ints_length, hgl] at hO ⊢
  have hS := hid (St.arg w hO)
  have hw1 := hid (fun W (hW : Below w.heap.size w W) => (hO.mono (Nat.zero_le _)).below hW)
  have hpo := hid (fun k (hk : k < n) W => l01Power_any d k (by omega) (by have := pw5 (n := k) hd (by omega); omega) (by omega) W)
  have hwo := hid (fun k j (hk : k < n) (hj : j < pw d k) W => l01WordOf_any d (by omega) (by omega) k j (by omega) (by have := pw5 (n := k) hd (by omega); omega) W)
  have hsta := hid (fun k (hk : k < n) W => l03Start_any d k hd (by omega) W)
  have hFA := aut_act hd hg
  have hd0 : 0 < d := by omega
  have hd3 : d ≤ 3 := by omega
  have hpt := hid (fun k j (hk : k < n) (hj : j < pw d k) => (show ∃ (y a c : Nat), (∀ W, Own W 0 2 (.slice A0 (start d n) cp0) (ints g) → Calls Try.prog 217 #[.int .i64 d, .slice A0 (start d n) cp0, .string (wstr (wrd d k j))] W fun e w' => e = .returned (.int .i64 (a : Nat)) ∧ W = w')
      ∧ (∀ W, Own W 0 2 (.slice A0 (start d n) cp0) (ints g) → Calls Try.prog 139 #[.int .i64 d, .slice A0 (start d n) cp0, .string (wstr (wrd d k j))] W fun e w' => e = .returned (.string (wstr (actP d g (wrd d k j)))) ∧ Below W.heap.size W w')
      ∧ (∀ W, Calls Try.prog 220 #[.int .i64 d, .string (wstr (actP d g (wrd d k j)))] W fun e w' => e = .returned (.int .i64 (y : Nat)) ∧ W = w')
      ∧ (∀ W, Calls Try.prog 221 #[.int .i64 d, .int .i64 a] W fun e w' => e = .returned (.int .i64 (c : Nat)) ∧ Below W.heap.size W w')
      ∧ start d k + y < start d n ∧ start d k ≤ 40 ∧ ∀ L, IvL d n (actP d g) (fun u => pnm (lrow d (ivF d g n) (actP d g u))) k j L → IvL d n (actP d g) (fun u => pnm (lrow d (ivF d g n) (actP d g u))) k (j + 1) (L.set (start d k + y) (c : Nat)) from by
    have hul := wrd_length d k j
    have hu := wrd_lt d (by omega) k j
    have hiv := fun L (h : IvL d n (actP d g) (fun u => pnm (lrow d (ivF d g n) (actP d g u))) k j L) => ivL_set (by omega) hFA h hk hj
    generalize wrd d k j = u at *
    have ha := gAt_nat hd hg u hu (by omega)
    have hau := actP_lt hd hg u hu (by omega)
    have hal := actP_length d g u
    obtain ⟨c, hc, hcp, h1, h2⟩ := iv_num hd hg (by omega) hu
    have hy := num_lt d k (actP d g u) (by omega) hau
    have hle := start_le2 d hk
    refine ⟨num d (actP d g u), (gAt d g u).toNat, c, fun W hW => ?_, fun W hW => ?_, fun W => ?_, fun W => ?_, by omega, by omega, fun L hL => ?_⟩
    · have h := l03At_any W d n hd hn 0 _ g hW hg u hu (by omega)
      rw [ha.1]; exact h
    · exact l03Act_any W d n hd hn 0 _ g hW hg u hu (by omega)
    · exact l01NumberOf_any d hd0 hd3 _ hau (by have := pw5 (n := (actP d g u).length) hd (by omega); omega) (by omega) W
    · exact l03Back_any d _ c hd ha.2 hc h1 h2 W
    · have := hiv L hL
      rw [hcp] at this
      exact this))
  have hend := hid (fun L => ivL_end (L := L) hd hg)
  have hp5 := hid (fun k (hk : k < n) => pw5 (n := k) hd (by omega))
  have hnx := hid (fun k L => ivL_next (d := d) (n := n) (F := actP d g) (H := fun u => pnm (lrow d (ivF d g n) (actP d g u))) (k := k) (L := L))
  have hst0 := hid (show IvL d n (actP d g) (fun u => pnm (lrow d (ivF d g n) (actP d g u))) 0 0 (List.replicate (start d n) 0) from ⟨List.length_replicate, fun k' j' h _ => by omega⟩)
  have hIl := hid (fun k j L (h : IvL d n (actP d g) (fun u => pnm (lrow d (ivF d g n) (actP d g u))) k j L) => h.1)
  generalize IvL d n (actP d g) (fun u => pnm (lrow d (ivF d g n) (actP d g u))) = IV at *
  generalize prtF d (ivF d g n) n = R at *
  generalize hN : start d n = N at *
  replace hN := hid hN
  replace hO := hid hO; replace hg := hid hg; replace hd := hid hd
  have hr0 := hid (show List.replicate N (Value.int .i64 0) = ints (List.replicate N 0) from by simp [ints])
  clear hFA hgl
  have hmk := fun W : World => run_make_row' (P := Try.prog) 29 2 (.int .i64 0) 8 Try.underlying29 info_i64 rfl .i64 .i64 N (by omega) (by omega) W
  have hmc := hid (toList_madeCells_one (.int .i64 0) N)
  generalize madeCells #[.int .i64 0] N = mc at *
  have hmcs := hid (show mc.size = N by rw [← Array.length_toList, hmc.out, List.length_replicate])
  go_enter Try.func135, Try.ntmps135
  go_upto_region 2 with (fail)
  replace hS := (hS.out.newArr mc N hmcs.out 2 (by omega))
  rw [hmc.out, hr0.out] at hS
  replace hS := hid hS
  generalize w.alloc (.cells mc 2) = w1 at *
  go_wp2
  go_loopw [8] (fun i wr => ∃ k : Nat, ∃ L : List Int, k ≤ n ∧ i = .int .i64 k ∧ Hid (IV k 0 L) ∧ St w.heap.size w [Asn.own w.heap.size 2 (.slice (some ⟨w.heap.size, 0, none⟩) N N) (ints L)] wr) (fun i _ => n - (intOf i).toNat)
  case atStart => exact ⟨0, _, Nat.zero_le _, rfl, hid hst0.out, hS.out.f1.drop⟩
  case round =>
    obtain ⟨k, L, hk, rfl, hI, rS⟩ := hrel
    clear hS
    replace rS := hid rS
    by_cases hlk : k < n
    · have dk : decide ((k : Int) < (n : Int)) = true := decide_eq_true (by omega)
      have hpk := hid (hpo.out k hlk)
      have hwk := hid (fun j => hwo.out k j hlk)
      have hsk := hid (hsta.out k hlk)
      have hM5 := hp5.out k hlk
      have hnk := hid (hnx.out k)
      have hptk := hid (hpt.out k)
      generalize pw d k = M at *
      go_wp2
      go_loopw [9] (fun i wr => ∃ j : Nat, ∃ L : List Int, j ≤ M ∧ i = .int .i64 j ∧ Hid (IV k j L) ∧ St w.heap.size w [Asn.own w.heap.size 2 (.slice (some ⟨w.heap.size, 0, none⟩) N N) (ints L)] wr) (fun i _ => M - (intOf i).toNat)
      case atStart => exact ⟨0, L, Nat.zero_le _, rfl, hI, rS.out⟩
      case round =>
        obtain ⟨j, L, hj, rfl, hI, rS⟩ := hrel
        replace rS := hid rS
        by_cases hlj : j < M
        · have dj : decide ((j : Int) < (M : Int)) = true := decide_eq_true (by omega)
          have hwj := hid (hwk.out j hlj)
          obtain ⟨y, a, c, h1, h2, h3, h4, h5, h6, h7⟩ := hptk.out j hlk hlj
          replace h1 := hid h1; replace h2 := hid h2; replace h3 := hid h3; replace h4 := hid h4
          have hI2 := hid (h7 L hI.out)
          have hll := hid ((ints_length L).trans (hIl.out _ _ _ hI.out))
          clear h7
          generalize wstr (actP d g (wrd d k j)) = sv at *
          generalize wstr (wrd d k j) = su at *
          generalize start d k = sk at *
          have ew : IntKind.i64.wrap ((sk : Int) + (y : Int)) = ((sk + y : Nat) : Int) := by rw [← Int.natCast_add]; exact IntWalk.i64_in _ (by omega)
          generalize sk + y = ix at *
          have i0 : (0 : Int) ≤ (ix : Int) := Int.natCast_nonneg _
          have i1 : (ix : Int) < (N : Int) := by omega
          obtain ⟨c0, hc0⟩ : ∃ z, (ints L)[ix]? = some z := ⟨_, List.getElem?_eq_getElem (by rw [hll.out]; omega)⟩
          have hs5 : ∀ z : Int, (ints L).set ix (.int .i64 z) = ints (L.set ix z) := fun z => by simp [ints, List.map_set]
          go_wp2_with (first
            | (go_at_call 196; (with_reducible refine (hpk.out _).mono ?_); rintro e w' ⟨rfl, rfl⟩)
            | (go_at_call 215; (with_reducible refine (hwj.out _).mono ?_); rintro e w2 ⟨rfl, hb⟩; replace rS := hid (rS.out.call hb); clear hb)
            | (go_at_call 139; (with_reducible refine (h2.out _ (hw1.out _ rS.out.bel)).mono ?_); rintro e w3 ⟨rfl, hb⟩; replace rS := hid (rS.out.call hb); clear hb)
            | (go_at_call 205; (with_reducible refine (hsk.out _).mono ?_); rintro e w' ⟨rfl, rfl⟩)
            | (go_at_call 220; (with_reducible refine (h3.out _).mono ?_); rintro e w' ⟨rfl, rfl⟩)
            | (go_at_call 217; (with_reducible refine (h1.out _ (hw1.out _ rS.out.bel)).mono ?_); rintro e w' ⟨rfl, rfl⟩)
            | (go_at_call 221; (with_reducible refine (h4.out _).mono ?_); rintro e w4 ⟨rfl, hb⟩; replace rS := rS.out.call hb; have co := Own.cellAt rS.o0 ix c0 hc0; have fo := Own.frozenAt rS.o0 hll.out ix; replace rS := hid (rS.setOwn hll.out ix (.int .i64 (c : Nat)) (by omega)); clear hb))
          rw [hs5] at rS
          go_roundw
          case rel => exact ⟨j + 1, _, by omega, by go_num, hI2, rS.out⟩
          case measure => simp [intOf]; omega
        · obtain rfl : j = M := by omega
          have dj : decide ((j : Int) < (j : Int)) = false := decide_eq_false (by omega)
          go_wp2_with (
            (go_at_call 196; (with_reducible refine (hpk.out _).mono ?_); rintro e w' ⟨rfl, rfl⟩))
          go_roundw
          case rel => exact ⟨k + 1, L, by omega, by go_num, hid (hnk.out L hI.out), rS.out⟩
          case measure => simp [intOf]; omega
    · obtain rfl : k = n := by omega
      have dk : decide ((k : Int) < (k : Int)) = false := decide_eq_false (by omega)
      have hLR := hend.out L hI.out
      subst hLR
      go_wp2
      go_ret
      exact ⟨_, rfl, rS.out.o0, rS.out.bel⟩
set_option maxHeartbeats 4000000 in
set_option maxRecDepth 100000 in
theorem specInv_any (w : World) (d n : Int) (v : Value) (g : List Int) (hO : Own w 0 2 v (ints g)) (hl : g.length < 2000000) :
    Calls Try.prog 39 #[.int .i64 d, .int .i64 n, v] w fun e w' => ∃ v', e = .returned (.tuple #[v', .int .i64 (ivpAns d n g).2]) ∧ Own w' w.heap.size 2 v' (ints (ivpAns d n g).1) ∧ Below w.heap.size w w' := by
  obtain ⟨A0, cp0, rfl, _, _⟩ := hO.form
  rw [ints_length] at hO ⊢
  have hS := (St.arg w hO).newOwn [(Value.slice A0 g.length cp0)] 29 (by simp)
  simp only [List.length_cons, List.length_nil, Nat.zero_add] at hS
  replace hS := hid hS
  have hpc := hid (fun W b vv (hO : Own W b 29 vv [(Value.slice A0 g.length cp0)]) (hr : Own W b 2 (Value.slice A0 g.length cp0) (ints g)) => l03Code_any W d n b vv [g] (mat1 hO hr) (by simp) (by simp; omega))
  rcases pcode_cases d n g with hp | hp | ⟨hp, d, n, rfl, rfl, hd, hn1, hn4, hgp⟩
  case inr.inr =>
    rw [ivpAns_0 hp]
    rw [hp] at hpc
    have hin := hid (fun W (hO : Own W 0 2 (.slice A0 g.length cp0) (ints g)) => l03Inverse_any W d n hd hn4 0 _ g hO hgp)
    generalize prtF d (ivF d g n) n = R at *
    replace hgp := hid hgp; replace hO := hid hO
    go_enter Try.func39, Try.ntmps39
    go_wp2_with (first
      | (go_at_call 118; (with_reducible refine (hpc.out _ _ _ (hS.out.o0.mono (Nat.zero_le _)) hS.out.o1).mono ?_); rintro e w1 ⟨rfl, hb⟩; replace hS := hid (hS.out.call hb).drop; clear hb)
      | (go_at_call 135; (with_reducible refine (hin.out _ hS.out.o0).mono ?_); rintro e w2 ⟨v3, rfl, hO3, hb⟩; replace hS := hid (hS.out.callOwn hb hO3); clear hb hO3))
    go_ret2
    exact ⟨_, rfl, hS.out.o0, hS.out.bel⟩
  all_goals
    have h : pcode d n [g] ≠ 0 := by rw [hp]; decide
    rw [ivpAns_c h]
    have d0 : ((pcode d n [g] : Int) != 0) = true := by simpa using h
    replace hO := hid hO
    clear h hp
    generalize pcode d n [g] = c at *
    go_enter Try.func39, Try.ntmps39
    go_wp2_with (
      (go_at_call 118; (with_reducible refine (hpc.out _ _ _ (hS.out.o0.mono (Nat.zero_le _)) hS.out.o1).mono ?_); rintro e w1 ⟨rfl, hb⟩; replace hS := hid (hS.out.call hb).drop; clear hb))
    go_ret2
    exact ⟨_, rfl, Own.nil _ _ _, hS.out.bel⟩
end Go.Proofs.Ytbmkkaecfogmoaa

/- What portraitFrom makes of any list: the plain part. -/
namespace Go.Proofs.Ytbmkkaecfogmoaa
open Go.RowKit
set_option linter.unusedVariables false
set_option linter.unusedSimpArgs false
-- @LONG

section
variable {d n : Nat} {g : List Int}
/-- The letter that a list tells for a letter behind a word. -/
def lC (d n : Nat) (P : List Nat) (u : List Nat) (x : Nat) : Nat := P.getD (num d u * pw d (n - u.length) + x * pw d (n - u.length - 1)) 0 / pw d (n - u.length - 1) % d
def rC (d n : Nat) (P : List Nat) (u : List Nat) : List Int := (List.range d).map fun x => ((lC d n P u x : Nat) : Int)
def pfC (d n : Nat) (P : List Nat) : List Int := byL d (fun u => pnm (rC d n P u)) n
theorem rC_length (P : List Nat) (u : List Nat) : (rC d n P u).length = d := by simp [rC]
theorem lC_of (hd : d = 2 ∨ d = 3) (hg : IsP d n g) {u : List Nat} (hu : ∀ y ∈ u, y < d) (hl : u.length < n) {x : Nat} (hx : x < d) : lC d n (prtP d g n) u x = (actP d g (u ++ [x])).getD u.length 0 :=
  (pmF_read hd (aut_act hd hg) hu hl hx).2
theorem rC_of (hd : d = 2 ∨ d = 3) (hg : IsP d n g) {u : List Nat} (hu : ∀ y ∈ u, y < d) (hl : u.length < n) : rC d n (prtP d g n) u = lrow d (actP d g) u :=
  List.map_congr_left fun x hx => by rw [lC_of hd hg hu hl (List.mem_range.1 hx)]
theorem act_last (u : List Nat) (x : Nat) : (actP d g (u ++ [x])).getD u.length 0 = pim d (gAt d g u).toNat x := by
  rw [actP_snoc, List.getD_eq_getElem?_getD, List.getElem?_append_right (by rw [actP_length]; exact Nat.le_refl _), actP_length, Nat.sub_self]; rfl
/-- The row of a portrait at a word has the number that stands there. -/
theorem lrow_act (hd : d = 2 ∨ d = 3) (hg : IsP d n g) {u : List Nat} (hu : ∀ y ∈ u, y < d) (hl : u.length < n) : pnm (lrow d (actP d g) u) = gAt d g u := by
  obtain ⟨i, hi, hp, hx⟩ := lrow_num hd (aut_act hd hg) hu hl
  have hn := gAt_nat hd hg u hu hl
  have e : ∀ x, x < d → pim d i x = pim d (gAt d g u).toNat x := fun x h => by rw [hx x h, act_last]
  have h2 : pim d i 2 = pim d (gAt d g u).toNat 2 := by
    rcases hd with rfl | rfl
    · rw [pim_22 _ hi, pim_22 _ hn.2]
    · exact e 2 (by omega)
  have := pim_inj d i _ hd hi hn.2 ⟨e 0 (by omega), e 1 (by omega), h2⟩
  rw [hp, this, hn.1]
/-- Portraits come back from what they do. -/
theorem prtF_act (hd : d = 2 ∨ d = 3) (hg : IsP d n g) : prtF d (actP d g) n = g := by
  have hd0 : 0 < d := by omega
  apply List.ext_getElem?
  intro i
  by_cases hi : i < start d n
  · obtain ⟨k, j, hk, hj, rfl⟩ := start_split d n i hi
    have hwl := wrd_length d k j
    have hwx := wrd_lt d hd0 k j
    rw [show prtF d (actP d g) n = byL d (fun u => pnm (lrow d (actP d g) u)) n from rfl, byL_get d _ k j hj n hk]
    rw [lrow_act hd hg hwx (by omega)]
    have h := (gAt_in hd hg (wrd d k j) hwx (by omega)).2
    rw [hwl, num_wrd d hd0 k j hj] at h
    exact h.symm
  · rw [List.getElem?_eq_none (by unfold prtF; rw [byL_length]; omega), List.getElem?_eq_none (by rw [hg.1]; omega)]
theorem pfC_of (hd : d = 2 ∨ d = 3) (hg : IsP d n g) : pfC d n (prtP d g n) = g := by
  have h : pfC d n (prtP d g n) = prtF d (actP d g) n := byL_congr d _ _ n fun k hk j hj => by
    rw [rC_of hd hg (wrd_lt d (by omega) k j) (by rw [wrd_length]; exact hk)]
  rw [h, prtF_act hd hg]
theorem pfC_range (P : List Nat) : ∀ x ∈ pfC d n P, -1 ≤ x ∧ x < (cnt d : Int) := byL_all n fun k hk j hj => by
  have hl := rC_length (d := d) (n := n) P (wrd d k j)
  have h1 := prms_length d
  have hc : 0 < cnt d := by unfold cnt; split <;> decide
  show -1 ≤ pnm _ ∧ pnm _ < _
  unfold pnm
  rw [hl]
  rcases idxP_lt (fun p => decide (p = rC d n P (wrd d k j))) (prms d) 0 (by omega) with h2 | h2 <;> omega
theorem pfC_isP {P : List Nat} (h : (-1 : Int) ∉ pfC d n P) : IsP d n (pfC d n P) := by
  refine ⟨by unfold pfC; rw [byL_length], fun k hk => ?_⟩
  have h1 := pfC_range P k hk
  have h2 : k ≠ -1 := fun e => h (e ▸ hk)
  omega
end
/-- Is a list the level permutation of a portrait? -/
def Lvl (d n : Nat) (L : List Int) : Prop := ∃ g, IsP d n g ∧ L = (prtP d g n).map Int.ofNat
open Classical in
/-- What portraitFrom makes of a list. -/
noncomputable def rfm (d n : Nat) (L : List Int) : List Int × Bool := if Lvl d n L then (pfC d n (L.map Int.toNat), true) else ([], false)
theorem toNat_back (P : List Nat) : (P.map Int.ofNat).map Int.toNat = P := by rw [List.map_map]; exact (List.map_congr_left fun x _ => rfl).trans (List.map_id _)
theorem rfm_1 {d n : Nat} (hd : d = 2 ∨ d = 3) {g : List Int} (hg : IsP d n g) : rfm d n ((prtP d g n).map Int.ofNat) = (g, true) := by
  unfold rfm
  rw [if_pos ⟨g, hg, rfl⟩, toNat_back, pfC_of hd hg]
theorem rfm_0 {d n : Nat} {L : List Int} (h : ¬ Lvl d n L) : rfm d n L = ([], false) := by unfold rfm; rw [if_neg h]
/-- What PortraitOfPermutation answers. -/
noncomputable def porAns (d n : Int) (L : List Int) : List Int × Int := if IsD d n then (if (rfm d.toNat n.toNat L).2 = true then ((rfm d.toNat n.toNat L).1, 0) else ([], 5)) else ([], 2)
theorem porAns_1 {d n : Nat} {L : List Int} (h : IsD d n) (h2 : (rfm d n L).2 = true) : porAns d n L = ((rfm d n L).1, 0) := by
  unfold porAns; rw [if_pos h, Int.toNat_natCast, Int.toNat_natCast, if_pos h2]
theorem porAns_0 {d n : Nat} {L : List Int} (h : IsD d n) (h2 : (rfm d n L).2 = false) : porAns d n L = ([], 5) := by
  unfold porAns; rw [if_pos h, Int.toNat_natCast, Int.toNat_natCast, if_neg (by rw [h2]; decide)]
theorem porAns_d {d n : Int} {L : List Int} (h : ¬ IsD d n) : porAns d n L = ([], 2) := by unfold porAns; rw [if_neg h]
end Go.Proofs.Ytbmkkaecfogmoaa
