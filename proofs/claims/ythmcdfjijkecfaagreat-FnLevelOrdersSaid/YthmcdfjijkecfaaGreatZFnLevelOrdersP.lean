/- What the proof of FnLevelOrders leans on, part 16 of 21. -/
import Derived.Test.YthmcdfjijkecfaaGreatZFnLevelOrdersO
/- What a group word makes of a level: the reference's l02Level. -/
namespace Go.Proofs.YthmcdfjijkecfaaGreat
open Go.RowKit
set_option linter.unusedVariables false
set_option linter.unusedSimpArgs false
-- @LONG

set_option maxHeartbeats 4000000 in
set_option maxRecDepth 100000 in
theorem l02Level_any (w : World) (m : Mach) (hkm : m.Ok) (l s : Nat) (gd : Good m l s) (base : Nat) (v : Value) (g : List Int) (hg : Own w base 2 v (ints g)) (hgn : ∀ k ∈ g, isNum s k) (hgl : g.length ≤ 1000) (n : Nat) (hn : n ≤ 40) (hb : pw l n ≤ 100000) :
    Calls Tryz.prog 125 #[.agg (mcells m), v, .int .i64 n] w fun e w' => ∃ v', e = .returned v' ∧ Own w' w.heap.size 2 v' (nats (permW m l s g n)) ∧ Below w.heap.size w w' := by
  have hz := zero_mach
  have hS := hid ((St.arg w hg).newMB m 27)
  have hres := hid (show rng (fun k => num l (imgW m l s g (wrd l n k))) (pw l n) = nats (permW m l s g n) from rfl)
  have l2 := gd.l2; have l3 := gd.l3
  have gL := hid gd.L
  have hiv := hid (fun W => l01Inverse_any W m l s gd hkm)
  have hpw := hid (fun W => l01Power_any l n (by omega) (by omega) (by omega) W)
  have hwo := hid (fun k (hk : k < pw l n) W => l01WordOf_any l (by omega) l3 n k hn (by omega) W)
  have hact := hid (fun k W (hO : Own W 0 2 v (ints g)) => l02Act_any W m l s gd 0 v g hO hgn hgl (wrd l n k) (wrd_lt l (by omega) n k) (by rw [wrd_length]; omega))
  have him := hid (fun k => imgW_lt gd (wrd l n k) g hgn (wrd_lt l (by omega) n k))
  have hil := hid (fun k => (imgW_length (m := m) (l := l) (s := s) (wrd l n k) g).trans (wrd_length l n k))
  have hnum := hid (fun k W => l01NumberOf_any l (by omega) l3 (imgW m l s g (wrd l n k)) (him.out k) (by rw [hil.out k]; omega) (by rw [hil.out k]; omega) W)
  have hz2 := hid (fun L W (h : St w.heap.size w L W) => (h.newOwn [] 2 (by simp)).newMB ⟨0, 0, fun _ => 0, fun _ => 0⟩ 27)
  simp only [heap_alloc_size, List.length_nil] at hz2
  clear him hil
  replace gd := hid gd; replace hg := hid hg; replace hkm := hid hkm; replace hgn := hid hgn
  generalize inv m l s = I at *
  generalize hMn : pw l n = M at *
  generalize mcells ⟨0, 0, fun _ => 0, fun _ => 0⟩ = zs at *
  go_enter Tryz.func125, Tryz.ntmps125
  go_upto_region 2 with (first
    | ((with_reducible refine gate (N := 12) rfl ?_); refine load_mach rfl _ rfl w.heap.size rfl m hS.out.m0 ?_)
    | (go_at_call 137; (with_reducible refine (hiv.out _).mono ?_); rintro e w2 ⟨rfl, hb⟩; have hle2 := hid (hS.out.call hb).le; replace hS := hid (hz2.out _ _ (hS.out.call hb)); clear hiv; clear hb)
    | ((with_reducible refine gateOp (op := .store 27 (.tmp 7) (.tmp 13)) rfl ?_); refine store_mach rfl _ _ rfl (w2.heap.size + 1) rfl I rfl 27 _ hS.out.m0 ?_; intro W2 p3 ho hsz hbl; replace hS := hid (hS.out.setM (Nat.le_succ_of_le hle2.out) p3 ho hbl); clear p3 ho hsz hbl))
  generalize w2.heap.size + 1 = b7 at *
  generalize w2.heap.size = b8 at *
  go_wp2
  replace hS := hid hS.out.f1
  go_loopw [8, 9] (fun o i wr => ∃ k : Nat, k ≤ M ∧ i = .int .i64 k ∧ St w.heap.size w [Asn.own w.heap.size 2 o (rng (fun k => num l (imgW m l s g (wrd l n k))) k), Asn.mb 27 b7 I, Asn.mb 27 w.heap.size m, Asn.own 0 2 v (ints g)] wr) (fun _ i _ => M - (intOf i).toNat)
  case atStart => exact ⟨0, Nat.zero_le _, rfl, hS.out⟩
  case round =>
    obtain ⟨k, hk, rfl, rS⟩ := hrel
    clear hS
    have hll := hid (rng_length (fun k => num l (imgW m l s g (wrd l n k))) k)
    have cL := rS.m2.cL
    rw [gL.out] at cL
    replace rS := hid rS
    by_cases hlt : k < M
    · have dk : decide ((k : Int) < (M : Int)) = true := decide_eq_true (by omega)
      have hsn := hid (rng_snoc (fun k => num l (imgW m l s g (wrd l n k))) k)
      have hac := hid (hact.out k)
      have hwk := hid (hwo.out k hlt)
      have hnk := hid (hnum.out k)
      generalize num l (imgW m l s g (wrd l n k)) = nk at *
      generalize secW m l s g (wrd l n k) = se at *
      generalize wstr (imgW m l s g (wrd l n k)) = iw at *
      generalize wstr (wrd l n k) = wk at *
      go_upto_region 5 with (first
        | (go_at_call 120; (with_reducible refine (hpw.out _).mono ?_); rintro e w' ⟨rfl, rfl⟩))
      replace rS := hid rS.out.drew
      refine wp_region_heldL (L := [(8, (fun w' : World => MB w' 27 w.heap.size m ∧ MB w' 27 b7 I ∧ w'.cell? ⟨w.heap.size, 0, none⟩ = some (.int .i64 (l : Int))))]) (by kernel_rfl) (HeldL.cons (fun _ => ⟨rS.out.m2, rS.out.m1, cL⟩) HeldL.nil) (fun hHeld => ?_)
      clear cL
      generalize wr.drew = wa at *
      refine wpAnyL_takeP (i := 0) 8 [] (v := (.agg (mcells m))) (fun w' : World => MB w' 27 w.heap.size m ∧ MB w' 27 b7 I ∧ w'.cell? ⟨w.heap.size, 0, none⟩ = some (.int .i64 (l : Int))) rfl (by kernel_rfl) (by kernel_rfl) (by kernel_rfl) (by rfl) (by kernel_rfl) (by simp) (fun _ _ _ h => h) (Or.inl ⟨by rfl, ?_⟩) (by assumption) ?_
      · (intro W hW; exact exec_load _ rfl rfl (load_run hW.1))
      intro hHeld'
      clear hHeld; have hHeld := hHeld'; clear hHeld'
      try simp only [Act.put, List.getElem_toArray, List.getElem_cons_succ, List.getElem_cons_zero, List.setIfInBounds_toArray, List.set_cons_zero, List.set_cons_succ]
      refine wpAnyL_takeP (i := 1) 8 [] (v := (.agg (mcells I))) (fun w' : World => MB w' 27 w.heap.size m ∧ MB w' 27 b7 I ∧ w'.cell? ⟨w.heap.size, 0, none⟩ = some (.int .i64 (l : Int))) rfl (by kernel_rfl) (by kernel_rfl) (by kernel_rfl) (by rfl) (by kernel_rfl) (by simp) (fun _ _ _ h => h) (Or.inl ⟨by rfl, ?_⟩) (by assumption) ?_
      · (intro W hW; exact exec_load _ rfl rfl (load_run hW.2.1))
      intro hHeld'
      clear hHeld; have hHeld := hHeld'; clear hHeld'
      try simp only [Act.put, List.getElem_toArray, List.getElem_cons_succ, List.getElem_cons_zero, List.setIfInBounds_toArray, List.set_cons_zero, List.set_cons_succ]
      refine wpAnyL_take0 (i := 2) (v := ?_) rfl (by kernel_rfl) (by kernel_rfl) (by kernel_rfl) (by rfl) (fun _ _ _ h => h) (Or.inl ⟨by rfl, ?_⟩) (by assumption) ?_
      rotate_left
      · (intro W _; go_simp; (with_reducible rfl))
      intro hHeld'
      clear hHeld; have hHeld := hHeld'; clear hHeld'
      try simp only [Act.put, List.getElem_toArray, List.getElem_cons_succ, List.getElem_cons_zero, List.setIfInBounds_toArray, List.set_cons_zero, List.set_cons_succ]
      refine wpAnyL_take0 (i := 3) (v := ?_) rfl (by kernel_rfl) (by kernel_rfl) (by kernel_rfl) (by rfl) (fun _ _ _ h => h) (Or.inl ⟨by rfl, ?_⟩) (by assumption) ?_
      rotate_left
      · (intro W _; go_simp; (with_reducible rfl))
      intro hHeld'
      clear hHeld; have hHeld := hHeld'; clear hHeld'
      try simp only [Act.put, List.getElem_toArray, List.getElem_cons_succ, List.getElem_cons_zero, List.setIfInBounds_toArray, List.set_cons_zero, List.set_cons_succ]
      refine wpAnyL_takeP (i := 4) 8 [7] (v := ?_) (fun w' : World => MB w' 27 w.heap.size m ∧ MB w' 27 b7 I ∧ w'.cell? ⟨w.heap.size, 0, none⟩ = some (.int .i64 (l : Int))) rfl (by kernel_rfl) (by kernel_rfl) (by kernel_rfl) (by rfl) (by kernel_rfl) (by simp) (fun _ _ _ h => h) (Or.inl ⟨by rfl, ?_⟩) (by assumption) ?_
      rotate_left
      · (intro W hW; (obtain ⟨_, _, hW⟩ := hW); go_simp; (with_reducible rfl))
      intro hHeld'
      clear hHeld; have hHeld := hHeld'; clear hHeld'
      try simp only [Act.put, List.getElem_toArray, List.getElem_cons_succ, List.getElem_cons_zero, List.setIfInBounds_toArray, List.set_cons_zero, List.set_cons_succ]
      refine wpAnyL_take0 (i := 5) (v := ?_) rfl (by kernel_rfl) (by kernel_rfl) (by kernel_rfl) (by rfl) (fun _ _ _ h => h) (Or.inl ⟨by rfl, ?_⟩) (by assumption) ?_
      rotate_left
      · (intro W _; go_simp; (with_reducible rfl))
      intro hHeld'
      clear hHeld; have hHeld := hHeld'; clear hHeld'
      try simp only [Act.put, List.getElem_toArray, List.getElem_cons_succ, List.getElem_cons_zero, List.setIfInBounds_toArray, List.set_cons_zero, List.set_cons_succ]
      refine wpAnyL_take0 (i := 6) (v := ?_) rfl (by kernel_rfl) (by kernel_rfl) (by kernel_rfl) (by rfl) (fun _ _ _ h => h) (Or.inl ⟨by rfl, ?_⟩) (by assumption) ?_
      rotate_left
      · (intro W _; go_simp; (with_reducible rfl))
      intro hHeld'
      clear hHeld; have hHeld := hHeld'; clear hHeld'
      try simp only [Act.put, List.getElem_toArray, List.getElem_cons_succ, List.getElem_cons_zero, List.setIfInBounds_toArray, List.set_cons_zero, List.set_cons_succ]
      refine wpAnyL_ready (rs := [7]) (by kernel_rfl) (by simp) ?_
      refine AllReadyL.cons rfl (fun K hK => ?_) AllReadyL.nil
      go_simp
      (with_reducible refine (hwk.out _).mono ?_)
      rintro e w3 ⟨rfl, hb⟩
      replace rS := hid (rS.out.call hb)
      clear hb
      go_simp
      have cL := rS.out.m2.cL
      rw [gL.out] at cL
      refine hK.out _ _ (HeldL.cons (fun _ => ⟨rS.out.m2, rS.out.m1, cL⟩) HeldL.nil) (fun hHeld' => ?_)
      clear hK K hHeld; have hHeld := hHeld'; clear hHeld'
      try simp only [Act.put, List.getElem_toArray, List.getElem_cons_succ, List.getElem_cons_zero, List.setIfInBounds_toArray, List.set_cons_zero, List.set_cons_succ]
      clear cL
      refine wpAnyL_ready (rs := [8]) (by kernel_rfl) (by simp) ?_
      refine AllReadyL.cons rfl (fun K hK => ?_) AllReadyL.nil
      go_simp
      (with_reducible refine (hac.out _ rS.out.o3).mono ?_)
      rintro e w4 ⟨v', rfl, hO, hb⟩
      replace rS := hid (rS.out.call hb)
      clear hb hO
      go_simp
      refine hK.out _ _ (HeldL.cons (fun h => absurd h (by decide +kernel)) HeldL.nil) (fun hHeld' => ?_)
      clear hK K hHeld; have hHeld := hHeld'; clear hHeld'
      try simp only [Act.put, List.getElem_toArray, List.getElem_cons_succ, List.getElem_cons_zero, List.setIfInBounds_toArray, List.set_cons_zero, List.set_cons_succ]
      refine wpAnyL_take0 (i := 9) (v := ?_) rfl (by kernel_rfl) (by kernel_rfl) (by kernel_rfl) (by rfl) (fun _ _ _ h => h) (Or.inl ⟨by rfl, ?_⟩) (by assumption) ?_
      rotate_left
      · (intro W _; go_simp; (with_reducible rfl))
      intro hHeld'
      clear hHeld; have hHeld := hHeld'; clear hHeld'
      try simp only [Act.put, List.getElem_toArray, List.getElem_cons_succ, List.getElem_cons_zero, List.setIfInBounds_toArray, List.set_cons_zero, List.set_cons_succ]
      refine wpAnyL_take0 (i := 10) (v := ?_) rfl (by kernel_rfl) (by kernel_rfl) (by kernel_rfl) (by rfl) (fun _ _ _ h => h) (Or.inl ⟨by rfl, ?_⟩) (by assumption) ?_
      rotate_left
      · (intro W _; go_simp; (with_reducible rfl))
      intro hHeld'
      clear hHeld; have hHeld := hHeld'; clear hHeld'
      try simp only [Act.put, List.getElem_toArray, List.getElem_cons_succ, List.getElem_cons_zero, List.setIfInBounds_toArray, List.set_cons_zero, List.set_cons_succ]
      refine wpAnyL_take0 (i := 11) (v := ?_) rfl (by kernel_rfl) (by kernel_rfl) (by kernel_rfl) (by rfl) (fun _ _ _ h => h) (Or.inl ⟨by rfl, ?_⟩) (by assumption) ?_
      rotate_left
      · (intro W _; go_simp; (with_reducible rfl))
      intro hHeld'
      clear hHeld; have hHeld := hHeld'; clear hHeld'
      try simp only [Act.put, List.getElem_toArray, List.getElem_cons_succ, List.getElem_cons_zero, List.setIfInBounds_toArray, List.set_cons_zero, List.set_cons_succ]
      refine wpAnyL_take0 (i := 12) (v := ?_) rfl (by kernel_rfl) (by kernel_rfl) (by kernel_rfl) (by rfl) (fun _ _ _ h => h) (Or.inl ⟨by rfl, ?_⟩) (by assumption) ?_
      rotate_left
      · (intro W _; go_simp; (with_reducible rfl))
      intro hHeld'
      clear hHeld; have hHeld := hHeld'; clear hHeld'
      try simp only [Act.put, List.getElem_toArray, List.getElem_cons_succ, List.getElem_cons_zero, List.setIfInBounds_toArray, List.set_cons_zero, List.set_cons_succ]
      refine wpAnyL_take0 (i := 13) (v := ?_) rfl (by kernel_rfl) (by kernel_rfl) (by kernel_rfl) (by rfl) (fun _ _ _ h => h) (Or.inl ⟨by rfl, ?_⟩) (by assumption) ?_
      rotate_left
      · (intro W _; go_simp; (with_reducible rfl))
      intro hHeld'
      clear hHeld; have hHeld := hHeld'; clear hHeld'
      try simp only [Act.put, List.getElem_toArray, List.getElem_cons_succ, List.getElem_cons_zero, List.setIfInBounds_toArray, List.set_cons_zero, List.set_cons_succ]
      refine wpAnyL_done (by kernel_rfl) ?_ _
      have cL := rS.out.m2.cL
      rw [gL.out] at cL
      go_wp2_with (first
        | (go_at_call 210; (with_reducible refine (hnk.out _).mono ?_); rintro e w' ⟨rfl, rfl⟩)
        | ((with_reducible refine gate (N := 41) rfl ?_); refine St.app 32 2 (.int .i64 0) 8 Tryz.underlying32 info_i64 rfl (by omega) rfl _ _ rfl _ _ rfl rS.out _ rfl rfl k hll.out (by omega) ?_; intro gn cn w5 rS'; replace rS := hid rS'; clear rS' cL))
      rw [← hsn.out] at rS
      go_roundw
      case rel => exact ⟨k + 1, by omega, by go_num, rS.out⟩
      case measure => simp [intOf]; omega
    · obtain rfl : k = M := by omega
      have dk : decide ((k : Int) < (k : Int)) = false := decide_eq_false (by omega)
      go_wp2_with (first
        | (go_at_call 120; (with_reducible refine (hpw.out _).mono ?_); rintro e w' ⟨rfl, rfl⟩))
      go_ret
      exact ⟨_, rfl, by rw [← hres.out]; exact rS.out.o0, rS.out.bel⟩
end Go.Proofs.YthmcdfjijkecfaaGreat

/- FixedOfLevel: what the program and the reference answer. -/
namespace Go.Proofs.YthmcdfjijkecfaaGreat
open Go.RowKit
set_option linter.unusedVariables false
set_option linter.unusedSimpArgs false
-- @LONG

/-- The words that are left, of those before j. -/
def fixS (P : Nat → Nat) (l n : Nat) : Nat → List ByteArray
  | 0 => []
  | j + 1 => if P j = j then fixS P l n j ++ [wstr (wrd l n j)] else fixS P l n j
theorem fixS_len (P : Nat → Nat) (l n : Nat) : ∀ j, (fixS P l n j).length ≤ j
  | 0 => Nat.le_refl _
  | j + 1 => by have := fixS_len P l n j; unfold fixS; split <;> simp <;> omega
def pW (m : Mach) (l s : Nat) (g : List Int) (n k : Nat) : Nat := num l (imgW m l s g (wrd l n k))
open Classical in
/-- What FixedOfLevel answers. -/
noncomputable def folAns (m : Mach) (g : List Int) (n : Int) : List ByteArray × Int :=
  if (polAns m g n).2 = 0 then (fixS (pW m m.L.toNat m.S.toNat g n.toNat) m.L.toNat n.toNat (pw m.L.toNat n.toNat), 0) else ([], (polAns m g n).2)
theorem polAns_cases (m : Mach) (g : List Int) (n : Int) : ((polAns m g n).2 = 1 ∧ polAns m g n = ([], 1)) ∨ ((polAns m g n).2 = 2 ∧ polAns m g n = ([], 2)) ∨ ∃ (l s : Nat) (n' : Nat), Good m l s ∧ IsGw m g ∧ n = n' ∧ n' ≤ 5 ∧ polAns m g n = (permW m l s g n', 0) := by
  by_cases h : IsGw m g
  · by_cases hn : 0 ≤ n ∧ n ≤ 5
    · obtain ⟨l, s, gd⟩ := h.1.good
      obtain ⟨k, rfl⟩ := Int.eq_ofNat_of_zero_le hn.1
      exact .inr (.inr ⟨l, s, k, gd, h, rfl, by omega, polAns_0 gd h (by omega)⟩)
    · exact .inr (.inl ⟨by rw [polAns_2 h hn], polAns_2 h hn⟩)
  · exact .inl ⟨by rw [polAns_1 h], polAns_1 h⟩
theorem folAns_n {m : Mach} {g : List Int} {n c : Int} (h : (polAns m g n).2 = c) (hc : c ≠ 0) : folAns m g n = ([], c) := by unfold folAns; rw [h, if_neg hc]
theorem folAns_0 {m : Mach} {l s n : Nat} {g : List Int} (gd : Good m l s) (h : (polAns m g n).2 = 0) : folAns m g (n : Int) = (fixS (pW m l s g n) l n (pw l n), 0) := by unfold folAns; rw [if_pos h, gd.L, gd.S]; rfl
theorem folAns_len (m : Mach) (g : List Int) (n : Int) : (folAns m g n).1.length ≤ 243 := by
  rcases polAns_cases m g n with ⟨h, _⟩ | ⟨h, _⟩ | ⟨l, s, n', gd, hgw, rfl, h5, h⟩
  · rw [folAns_n h (by decide)]; exact Nat.zero_le _
  · rw [folAns_n h (by decide)]; exact Nat.zero_le _
  · rw [folAns_0 gd (by rw [h])]
    exact Nat.le_trans (fixS_len _ _ _ _) (pw_five gd.l2 gd.l3 h5)

set_option maxHeartbeats 4000000 in
set_option maxRecDepth 100000 in
theorem implFol_any (w : World) (m : Mach) (hkm : m.Ok) (b0 : Nat) (v : Value) (g : List Int) (hg : Own w b0 2 v (ints g)) (hl : g.length < 2000000) (n : Int) :
    Calls Tryz.prog 38 #[.agg (mcells m), v, .int .i64 n] w fun e w' => ∃ v', e = .returned (.tuple #[v', .int .i64 (folAns m g n).2]) ∧ Own w' w.heap.size 9 v' (strs (folAns m g n).1) ∧ Below w.heap.size w w' := by
  have hS := hid ((St.arg w hg).newMB m 27)
  have hpo := hid (fun W (hO : Own W 0 2 v (ints g)) => implPol_any W m hkm 0 v g hO hl n)
  rcases polAns_cases m g n with ⟨h, hp⟩ | ⟨h, hp⟩ | ⟨l, s, n, gd, hgw, rfl, h5, hp⟩
  · rw [folAns_n h (by decide)]
    rw [hp] at hpo
    replace hkm := hid hkm; replace hg := hid hg; clear h hp
    go_enter Tryz.func38, Tryz.ntmps38
    go_wp2_with (first
      | ((with_reducible refine gate (N := 14) rfl ?_); refine load_mach rfl _ rfl w.heap.size rfl m hS.out.m0 ?_)
      | (go_at_call 123; (with_reducible refine (hpo.out _ hS.out.o1).mono ?_); rintro e w1 ⟨v1, rfl, hO, hb⟩; replace hS := hid (hS.out.call hb); clear hb hO hpo))
    go_ret2
    exact ⟨_, rfl, Own.nil _ _ _, hS.out.bel⟩
  · rw [folAns_n h (by decide)]
    rw [hp] at hpo
    replace hkm := hid hkm; replace hg := hid hg; clear h hp
    go_enter Tryz.func38, Tryz.ntmps38
    go_wp2_with (first
      | ((with_reducible refine gate (N := 14) rfl ?_); refine load_mach rfl _ rfl w.heap.size rfl m hS.out.m0 ?_)
      | (go_at_call 123; (with_reducible refine (hpo.out _ hS.out.o1).mono ?_); rintro e w1 ⟨v1, rfl, hO, hb⟩; replace hS := hid (hS.out.call hb); clear hb hO hpo))
    go_ret2
    exact ⟨_, rfl, Own.nil _ _ _, hS.out.bel⟩
  · rw [folAns_0 gd (by rw [hp])]
    rw [hp] at hpo
    have l2 := gd.l2; have l3 := gd.l3
    have hM := pw_five gd.l2 gd.l3 h5
    have gL := hid gd.L
    have hpg := hid (fun k (hk : k < pw l n) => (show (nats (permW m l s g n))[k]? = some (.int .i64 (pW m l s g n k : Nat)) from by simp [nats, permW_get _ _ _ _ _ _ hk, pW]))
    have hpl := hid (show (nats (permW m l s g n)).length = pw l n by rw [nats_length, permW_length])
    have hwo := hid (fun k (hk : k < pw l n) W => wordOf_any l n k (by omega) l3 (by omega) (by omega) W)
    have hfl := hid (fixS_len (pW m l s g n) l n)
    have hfs := hid (fun j => (show fixS (pW m l s g n) l n (j + 1) = if pW m l s g n j = j then fixS (pW m l s g n) l n j ++ [wstr (wrd l n j)] else fixS (pW m l s g n) l n j from rfl))
    have hpos := pw_pos l (by omega) n
    replace hkm := hid hkm; replace hg := hid hg; replace gd := hid gd; replace hgw := hid hgw; clear hp
    generalize pW m l s g n = P at *
    generalize hMn : pw l n = M at *
    replace hMn := hid hMn
    generalize nats (permW m l s g n) = ps at *
    go_enter Tryz.func38, Tryz.ntmps38
    go_upto_region 5 with (first
      | ((with_reducible refine gate (N := 14) rfl ?_); refine load_mach rfl _ rfl w.heap.size rfl m hS.out.m0 ?_)
      | (go_at_call 123; (with_reducible refine (hpo.out _ hS.out.o1).mono ?_); rintro e w1 ⟨v1, rfl, hO, hb⟩; replace hS := hid (hS.out.callOwn hb hO); clear hb hO hpo))
    obtain ⟨gp, cp, rfl, _, _⟩ := hS.out.o0.blk (fun e => by have h1 := congrArg List.length e; rw [hpl.out] at h1; simp at h1; omega)
    rw [hpl.out] at hS ⊢
    replace hS := hid (hS.out.nilOwn 9)
    go_wp2
    go_loopw [10, 25] (fun o i wr => ∃ k : Nat, k ≤ M ∧ i = .int .i64 k ∧ St w.heap.size w [Asn.own w.heap.size 9 o (strs (fixS P l n k)), Asn.own w.heap.size 2 (.slice (some ⟨gp, 0, none⟩) M cp) ps, Asn.mb 27 w.heap.size m, Asn.own 0 2 v (ints g)] wr) (fun _ i _ => M - (intOf i).toNat)
    case atStart => exact ⟨0, Nat.zero_le _, rfl, hS.out⟩
    case round =>
      obtain ⟨k, hk, rfl, rS⟩ := hrel
      clear hS
      have cL := rS.m2.cL
      rw [gL.out] at cL
      replace rS := hid rS
      by_cases hlt : k < M
      · have ck := rS.out.o1.cellAt k _ (hpg.out k hlt)
        by_cases hPk : P k = k
        · have hfk := hid (show fixS P l n (k + 1) = fixS P l n k ++ [wstr (wrd l n k)] by rw [hfs.out k, if_pos hPk])
          rw [hPk] at ck
          have hkk : ((k : Int) == (k : Int)) = true := by simp
          have hwk := hid (hwo.out k hlt)
          have hlen := hid (strs_length (fixS P l n k))
          have hlm := hfl.out k
          generalize wstr (wrd l n k) = wk at *
          go_wp2_with (first
            | (go_at_call 127; (with_reducible refine (hwk.out _).mono ?_); rintro e w3 ⟨rfl, hb⟩; replace rS := hid (rS.out.call hb); clear hb)
            | ((with_reducible refine gate (N := 40) rfl ?_); refine St.app 64 9 (.string { data := #[] }) 16 Tryz.underlying64 info_str rfl (by omega) rfl _ _ rfl _ _ rfl rS.out _ rfl rfl (fixS P l n k).length hlen.out (by omega) ?_; intro gn cn w5 rS'; replace rS := hid rS'; clear rS' cL))
          rw [← strs_snoc, ← hfk.out] at rS
          go_roundw
          case rel => exact ⟨k + 1, by omega, by go_num, rS.out⟩
          case measure => simp [intOf]; omega
        · have hfk := hid (show fixS P l n (k + 1) = fixS P l n k by rw [hfs.out k, if_neg hPk])
          have hkk : ((k : Int) == ((P k : Nat) : Int)) = false := by simp; omega
          go_wp2
          go_roundw
          case rel => exact ⟨k + 1, by omega, by go_num, by rw [hfk.out]; exact rS.out⟩
          case measure => simp [intOf]; omega
      · obtain rfl : k = M := by omega
        go_wp2
        go_ret2
        exact ⟨_, rfl, rS.out.o0, rS.out.bel⟩
set_option maxHeartbeats 4000000 in
set_option maxRecDepth 100000 in
theorem specFol_any (w : World) (m : Mach) (hkm : m.Ok) (b0 : Nat) (v : Value) (g : List Int) (hg : Own w b0 2 v (ints g)) (hl : g.length < 2000000) (n : Int) :
    Calls Tryz.prog 39 #[.agg (mcells m), v, .int .i64 n] w fun e w' => ∃ v', e = .returned (.tuple #[v', .int .i64 (folAns m g n).2]) ∧ Own w' w.heap.size 9 v' (strs (folAns m g n).1) ∧ Below w.heap.size w w' := by
  have hS := hid ((St.arg w hg).newMB m 27)
  have hpo := hid (fun W (hO : Own W 0 2 v (ints g)) => l04Code_any W m hkm 0 v g hO hl n)
  rcases polAns_cases m g n with ⟨h, hp⟩ | ⟨h, hp⟩ | ⟨l, s, n, gd, hgw, rfl, h5, hp⟩
  · rw [folAns_n h (by decide)]
    rw [hp] at hpo
    replace hkm := hid hkm; replace hg := hid hg; clear h hp
    go_enter Tryz.func39, Tryz.ntmps39
    go_wp2_with (first
      | ((with_reducible refine gate (N := 12) rfl ?_); refine load_mach rfl _ rfl w.heap.size rfl m hS.out.m0 ?_)
      | (go_at_call 124; (with_reducible refine (hpo.out _ hS.out.o1).mono ?_); rintro e w1 ⟨rfl, hb⟩; replace hS := hid (hS.out.call hb); clear hpo; clear hb))
    go_ret2
    exact ⟨_, rfl, Own.nil _ _ _, hS.out.bel⟩
  · rw [folAns_n h (by decide)]
    rw [hp] at hpo
    replace hkm := hid hkm; replace hg := hid hg; clear h hp
    go_enter Tryz.func39, Tryz.ntmps39
    go_wp2_with (first
      | ((with_reducible refine gate (N := 12) rfl ?_); refine load_mach rfl _ rfl w.heap.size rfl m hS.out.m0 ?_)
      | (go_at_call 124; (with_reducible refine (hpo.out _ hS.out.o1).mono ?_); rintro e w1 ⟨rfl, hb⟩; replace hS := hid (hS.out.call hb); clear hpo; clear hb))
    go_ret2
    exact ⟨_, rfl, Own.nil _ _ _, hS.out.bel⟩
  · rw [folAns_0 gd (by rw [hp])]
    rw [hp] at hpo
    have l2 := gd.l2; have l3 := gd.l3
    have hM := pw_five gd.l2 gd.l3 h5
    have gL := hid gd.L
    obtain ⟨hgl, hgn⟩ := hgw.parts gd
    have hle := hid (fun W (hO : Own W 0 2 v (ints g)) => l02Level_any W m hkm l s gd 0 v g hO hgn (by omega) n (by omega) (by omega))
    have hpg := hid (fun k (hk : k < pw l n) => (show (nats (permW m l s g n))[k]? = some (.int .i64 (pW m l s g n k : Nat)) from by simp [nats, permW_get _ _ _ _ _ _ hk, pW]))
    have hpl := hid (show (nats (permW m l s g n)).length = pw l n by rw [nats_length, permW_length])
    have hwo := hid (fun k (hk : k < pw l n) W => l01WordOf_any l (by omega) l3 n k (by omega) (by omega) W)
    have hfl := hid (fixS_len (pW m l s g n) l n)
    have hfs := hid (fun j => (show fixS (pW m l s g n) l n (j + 1) = if pW m l s g n j = j then fixS (pW m l s g n) l n j ++ [wstr (wrd l n j)] else fixS (pW m l s g n) l n j from rfl))
    have hpos := pw_pos l (by omega) n
    have hnO := hid (fun L W (h : St w.heap.size w L W) => h.newOwn [] 9 (by simp))
    simp only [List.length_nil] at hnO
    replace hkm := hid hkm; replace hg := hid hg; replace gd := hid gd; replace hgw := hid hgw; replace hgn := hid hgn; clear hp
    generalize pW m l s g n = P at *
    generalize hMn : pw l n = M at *
    replace hMn := hid hMn
    generalize nats (permW m l s g n) = ps at *
    go_enter Tryz.func39, Tryz.ntmps39
    go_upto_region 5 with (first
      | ((with_reducible refine gate (N := 12) rfl ?_); refine load_mach rfl _ rfl w.heap.size rfl m hS.out.m0 ?_)
      | (go_at_call 124; (with_reducible refine (hpo.out _ hS.out.o1).mono ?_); rintro e w1 ⟨rfl, hb⟩; replace hS := hid (hS.out.call hb); clear hpo; clear hb)
      | ((with_reducible refine gate (N := 19) rfl ?_); refine load_mach rfl _ rfl w.heap.size rfl m hS.out.m0 ?_)
      | (go_at_call 125; (with_reducible refine (hle.out _ hS.out.o1).mono ?_); rintro e w2 ⟨v1, rfl, hO, hb⟩; replace hS := hid (hnO.out _ _ (hS.out.callOwn hb hO)); clear hb hO hle))
    obtain ⟨gp, cp, rfl, _, _⟩ := hS.out.o1.blk (fun e => by have h1 := congrArg List.length e; rw [hpl.out] at h1; simp at h1; omega)
    rw [hpl.out] at hS ⊢
    generalize w2.alloc (.cells #[] 9) = W3 at *
    go_wp2
    go_loopw [10, 11] (fun o i wr => ∃ k : Nat, k ≤ M ∧ i = .int .i64 k ∧ St w.heap.size w [Asn.own w.heap.size 9 o (strs (fixS P l n k)), Asn.own w.heap.size 2 (.slice (some ⟨gp, 0, none⟩) M cp) ps, Asn.mb 27 w.heap.size m, Asn.own 0 2 v (ints g)] wr) (fun _ i _ => M - (intOf i).toNat)
    case atStart => exact ⟨0, Nat.zero_le _, rfl, hS.out⟩
    case round =>
      obtain ⟨k, hk, rfl, rS⟩ := hrel
      clear hS
      have cL := rS.m2.cL
      rw [gL.out] at cL
      replace rS := hid rS
      by_cases hlt : k < M
      · have dk : decide ((k : Int) < (M : Int)) = true := decide_eq_true (by omega)
        have k0 : (0 : Int) ≤ (k : Int) := Int.natCast_nonneg _
        have k1 : (k : Int) < (M : Int) := by omega
        have ck := rS.out.o1.cellAt k _ (hpg.out k hlt)
        by_cases hPk : P k = k
        · have hfk := hid (show fixS P l n (k + 1) = fixS P l n k ++ [wstr (wrd l n k)] by rw [hfs.out k, if_pos hPk])
          rw [hPk] at ck
          have hkk : ((k : Int) == (k : Int)) = true := by simp
          have hwk := hid (hwo.out k hlt)
          have hlen := hid (strs_length (fixS P l n k))
          have hlm := hfl.out k
          generalize wstr (wrd l n k) = wk at *
          go_wp2_with (first
            | (go_at_call 128; (with_reducible refine (hwk.out _).mono ?_); rintro e w3 ⟨rfl, hb⟩; replace rS := hid (rS.out.call hb); clear hb)
            | ((with_reducible refine gate (N := 43) rfl ?_); refine St.app 64 9 (.string { data := #[] }) 16 Tryz.underlying64 info_str rfl (by omega) rfl _ _ rfl _ _ rfl rS.out _ rfl rfl (fixS P l n k).length hlen.out (by omega) ?_; intro gn cn w5 rS'; replace rS := hid rS'; clear rS' cL))
          rw [← strs_snoc, ← hfk.out] at rS
          go_roundw
          case rel => exact ⟨k + 1, by omega, by go_num, rS.out⟩
          case measure => simp [intOf]; omega
        · have hfk := hid (show fixS P l n (k + 1) = fixS P l n k by rw [hfs.out k, if_neg hPk])
          have hkk : (((P k : Nat) : Int) == (k : Int)) = false := by simp; omega
          go_wp2
          go_roundw
          case rel => exact ⟨k + 1, by omega, by go_num, by rw [hfk.out]; exact rS.out⟩
          case measure => simp [intOf]; omega
      · obtain rfl : k = M := by omega
        have dk : decide ((k : Int) < (k : Int)) = false := decide_eq_false (by omega)
        go_wp2
        go_ret2
        exact ⟨_, rfl, rS.out.o0, rS.out.bel⟩
end Go.Proofs.YthmcdfjijkecfaaGreat

/- How often a word has to be led until it comes back. -/
namespace Go.Proofs.YthmcdfjijkecfaaGreat
open Go.RowKit
set_option linter.unusedVariables false
set_option linter.unusedSimpArgs false

section
variable {m : Mach} {l s : Nat}
theorem apO_inj (g : Good m l s) {k : Int} (h : isNum s k) {x y : Nat} (hx : x < l) (hy : y < l) (e : apO m l s k x = apO m l s k y) : x = y := by
  obtain ⟨q, hq, rfl | rfl⟩ := isNum_cases h
  · rw [apO_pos, apO_pos] at e
    rcases Nat.lt_trichotomy x y with h | h | h
    · exact absurd e (g.inj q hq x y h hy)
    · exact h
    · exact absurd e.symm (g.inj q hq y x h hx)
  · rw [apO_neg, apO_neg] at e
    rcases Nat.lt_trichotomy x y with h | h | h
    · exact absurd e ((inv_good g).inj q hq x y h hy)
    · exact h
    · exact absurd e.symm ((inv_good g).inj q hq y x h hx)
theorem atX_inj (g : Good m l s) : ∀ (u : List Int) (x y : Nat), (∀ k ∈ u, isNum s k) → x < l → y < l → atX m l s u x = atX m l s u y → x = y
  | [], _, _, _, _, _, e => e
  | k :: t, x, y, h, hx, hy, e => by
    have hk := h k List.mem_cons_self
    exact apO_inj g hk hx hy (atX_inj g t _ _ (fun j hj => h j (List.mem_cons_of_mem _ hj)) (apO_lt g hk hx) (apO_lt g hk hy) e)
theorem imgW_inj (gd : Good m l s) : ∀ (u v : List Nat) (g : List Int), (∀ k ∈ g, isNum s k) → (∀ x ∈ u, x < l) → (∀ x ∈ v, x < l) → imgW m l s g u = imgW m l s g v → u = v
  | [], [], _, _, _, _, _ => rfl
  | [], y :: v, g, _, _, _, e => by simp [imgW] at e
  | x :: u, [], g, _, _, _, e => by simp [imgW] at e
  | x :: u, y :: v, g, h, hu, hv, e => by
    have e' : atX m l s g x :: imgW m l s (atS m l s g x) u = atX m l s g y :: imgW m l s (atS m l s g y) v := e
    injection e' with e1 e2
    have hx := hu x List.mem_cons_self
    have hxy := atX_inj gd g x y h hx (hv y List.mem_cons_self) e1
    subst hxy
    rw [imgW_inj gd u v _ (atS_num gd g x h hx) (fun z hz => hu z (List.mem_cons_of_mem _ hz)) (fun z hz => hv z (List.mem_cons_of_mem _ hz)) e2]
end
/-- A word led again and again. -/
def itW (m : Mach) (l s : Nat) (g : List Int) (u : List Nat) : Nat → List Nat
  | 0 => u
  | k + 1 => imgW m l s g (itW m l s g u k)
section
variable {m : Mach} {l s : Nat} {g : List Int} {u : List Nat}
theorem itW_length (k : Nat) : (itW m l s g u k).length = u.length := by
  induction k with
  | zero => rfl
  | succ k ih => show (imgW m l s g _).length = _; rw [imgW_length, ih]
theorem itW_lt (gd : Good m l s) (hg : ∀ k ∈ g, isNum s k) (hu : ∀ x ∈ u, x < l) (k : Nat) : ∀ x ∈ itW m l s g u k, x < l := by
  induction k with
  | zero => exact hu
  | succ k ih => exact imgW_lt gd _ g hg ih
theorem itW_cancel (gd : Good m l s) (hg : ∀ k ∈ g, isNum s k) (hu : ∀ x ∈ u, x < l) : ∀ i d, itW m l s g u i = itW m l s g u (i + d) → u = itW m l s g u d
  | 0, d, e => by rw [Nat.zero_add] at e; exact e
  | i + 1, d, e => by
    rw [show i + 1 + d = (i + d) + 1 by omega] at e
    exact itW_cancel gd hg hu i d (imgW_inj gd _ _ g hg (itW_lt gd hg hu i) (itW_lt gd hg hu (i + d)) e)
theorem itW_back (gd : Good m l s) (hg : ∀ k ∈ g, isNum s k) (hu : ∀ x ∈ u, x < l) : ∃ d, d < pw l u.length ∧ itW m l s g u (d + 1) = u := by
  apply Classical.byContradiction
  intro hn
  have hinj : InjOn (fun i => num l (itW m l s g u i)) (pw l u.length + 1) := by
    intro i j hij hj e
    have hl : 0 < l := by have := gd.l2; omega
    have e2 : itW m l s g u i = itW m l s g u j := by
      have h1 := wrd_num l hl u.length _ (itW_length i) (itW_lt gd hg hu i)
      have h2 := wrd_num l hl u.length _ (itW_length j) (itW_lt gd hg hu j)
      rw [← h1, ← h2]
      exact congrArg _ e
    obtain ⟨d, rfl⟩ : ∃ d, j = i + (d + 1) := ⟨j - i - 1, by omega⟩
    exact hn ⟨d, by omega, (itW_cancel gd hg hu i (d + 1) e2).symm⟩
  have := inj_le (pw l u.length + 1) (pw l u.length) _ (fun i _ => num_lt l u.length _ (itW_length i) (itW_lt gd hg hu i)) hinj
  omega
end
/-- The period: the least number of times that leads a word back. -/
def per (m : Mach) (l s : Nat) (g : List Int) (u : List Nat) : Nat := fst (fun k => decide (itW m l s g u (k + 1) = u)) (pw l u.length) + 1
section
variable {m : Mach} {l s : Nat} {g : List Int} {u : List Nat}
theorem per_back (gd : Good m l s) (hg : ∀ k ∈ g, isNum s k) (hu : ∀ x ∈ u, x < l) : itW m l s g u (per m l s g u) = u ∧ per m l s g u ≤ pw l u.length := by
  obtain ⟨d, hd, he⟩ := itW_back gd hg hu
  have hle := fst_le (fun k => decide (itW m l s g u (k + 1) = u)) (pw l u.length)
  have hlt : fst (fun k => decide (itW m l s g u (k + 1) = u)) (pw l u.length) < pw l u.length := by
    apply Classical.byContradiction
    intro hn
    have h := fst_none (fun k => decide (itW m l s g u (k + 1) = u)) (pw l u.length) d (by omega)
    simp [he] at h
  exact ⟨by have h := fst_some _ _ hlt; unfold per; simpa using h, hlt⟩
theorem per_min {k : Nat} (h1 : 1 ≤ k) (h2 : k < per m l s g u) : itW m l s g u k ≠ u := by
  obtain ⟨j, rfl⟩ : ∃ j, k = j + 1 := ⟨k - 1, by omega⟩
  have h := fst_none (fun k => decide (itW m l s g u (k + 1) = u)) (pw l u.length) j (by unfold per at h2; omega)
  simpa using h
theorem per_pos : 1 ≤ per m l s g u := by unfold per; omega
end
theorem bytes_ne {a b : ByteArray} (h : a ≠ b) : (a.toList == b.toList) = false := by
  rw [← beq_toListBytes]
  have e : (a == b) = (a.data == b.data) := rfl
  rw [e, beq_eq_false_iff_ne]
  intro e2
  exact h (ByteArray.ext e2)
theorem bytes_eq {a b : ByteArray} (h : a = b) : (a.toList == b.toList) = true := by subst h; simp
theorem wstr_inj {u v : List Nat} (hu : ∀ x ∈ u, x < 200) (hv : ∀ x ∈ v, x < 200) (e : wstr u = wstr v) : u = v := by
  have hl : u.length = v.length := by rw [← wstr_size u, ← wstr_size v, e]
  apply List.ext_getElem hl
  intro i h1 h2
  have hb1 := wstr_byte u i (by rw [wstr_size]; exact h1) hu
  have hb2 := wstr_byte v i (by rw [wstr_size]; exact h2) hv
  have e3 : ((wstr u)[i]'(by rw [wstr_size]; exact h1)).toNat = ((wstr v)[i]'(by rw [wstr_size]; exact h2)).toNat := by simp only [e]
  rw [hb1, hb2, List.getD_eq_getElem?_getD, List.getD_eq_getElem?_getD, List.getElem?_eq_getElem h1, List.getElem?_eq_getElem h2] at e3
  simp at e3
  exact e3
open Classical in
/-- What PeriodOfWord answers. -/
noncomputable def perAns (m : Mach) (g : List Int) (ws : ByteArray) : Int × Int := if IsGw m g ∧ IsWd m.L ws then (if ws.size ≤ 5 then (((per m m.L.toNat m.S.toNat g (lets ws) : Nat) : Int), 0) else (0, 2)) else (0, 1)
section
variable {m : Mach} {l s : Nat} {g : List Int} {ws : ByteArray}
theorem perAns_1 (h : ¬ IsGw m g) : perAns m g ws = (0, 1) := by unfold perAns; rw [if_neg (fun k => h k.1)]
theorem perAns_w (gd : Good m l s) (h : ¬ IsWd l ws) : perAns m g ws = (0, 1) := by unfold perAns; rw [gd.L, if_neg (fun k => h k.2)]
theorem perAns_2 (gd : Good m l s) (h : IsGw m g) (hw : IsWd l ws) (h5 : ¬ ws.size ≤ 5) : perAns m g ws = (0, 2) := by unfold perAns; rw [gd.L, if_pos ⟨h, hw⟩, if_neg h5]
theorem perAns_0 (gd : Good m l s) (h : IsGw m g) (hw : IsWd l ws) (h5 : ws.size ≤ 5) : perAns m g ws = (((per m l s g (lets ws) : Nat) : Int), 0) := by unfold perAns; rw [gd.L, gd.S, if_pos ⟨h, hw⟩, if_pos h5]; rfl
end

set_option maxHeartbeats 4000000 in
set_option maxRecDepth 4000 in
theorem implPer_any (w : World) (m : Mach) (hkm : m.Ok) (b0 : Nat) (v : Value) (g : List Int) (hg : Own w b0 2 v (ints g)) (hl : g.length < 2000000) (ws : ByteArray) (hws : ws.size < 1000000000000) :
    Calls Tryz.prog 42 #[.agg (mcells m), v, .string ws] w fun e w' => e = .returned (.tuple #[.int .i64 (perAns m g ws).1, .int .i64 (perAns m g ws).2]) ∧ Below w.heap.size w w' := by
  obtain ⟨A0, cp0, rfl, _, _⟩ := hg.form
  rw [ints_length] at hg ⊢
  have hS := hid ((St.arg w hg).newMB m 27)
  have hown := hid (hS.out.newOwn [(Value.slice A0 g.length cp0)] 32 (by simp))
  simp only [heap_alloc_size, List.length_cons, List.length_nil, Nat.zero_add] at hown
  by_cases hbad : ¬ IsGw m g
  · rw [perAns_1 hbad]
    have hgo := hid (fun W b vv (hO : Own W b 32 vv [(Value.slice A0 g.length cp0)]) (hr : Own W b 2 (Value.slice A0 g.length cp0) (ints g)) => groupOf_n W m hkm b vv [g] (mat_one hO hr) (by simp) (by simp; omega) (.inr ⟨g, by simp, hbad⟩))
    replace hkm := hid hkm; replace hg := hid hg; replace hbad := hid hbad
    go_enter Tryz.func42, Tryz.ntmps42
    go_wp2_with (first
      | ((with_reducible refine gate (N := 14) rfl ?_); refine load_mach rfl _ rfl w.heap.size rfl m hS.out.m0 ?_)
      | (go_at_call 133; (with_reducible refine (hgo.out _ _ _ (hown.out.o0.mono (Nat.zero_le _)) hown.out.o2).mono ?_); rintro e w1 ⟨rfl, hb⟩; replace hS := hid (hown.out.call hb); clear hgo hown; clear hb))
    go_ret2
    exact ⟨rfl, hS.out.bel⟩
  · have hgw := Classical.not_not.1 hbad
    obtain ⟨l, s, gd⟩ := hgw.1.good
    have hgo := hid (fun W b vv (hO : Own W b 32 vv [(Value.slice A0 g.length cp0)]) (hr : Own W b 2 (Value.slice A0 g.length cp0) (ints g)) => groupOf_y W m hkm b vv [g] (mat_one hO hr) (by simp) (by simp; omega) l s gd (by simp; exact hgw))
    have hL := hid gd.L
    by_cases hw : IsWd l ws
    · have hwd := hid (fun W => isWord_any (l : Int) (by have := gd.l2; omega) (by have := gd.l3; omega) ws hws true ⟨fun _ => hw, fun _ => rfl⟩ W)
      by_cases h5 : ws.size ≤ 5
      · rw [perAns_0 gd hgw hw h5]
        have d5 : decide ((5 : Int) < (ws.size : Int)) = false := decide_eq_false (by omega)
        obtain ⟨hwe, hwl, hw40⟩ := lets_wstr ws hw
        obtain ⟨hgl, hgn⟩ := hgw.parts gd
        have hul : (lets ws).length ≤ 5 := by have h := wstr_size (lets ws); rw [← hwe] at h; omega
        have hpb := per_back gd hgn hwl
        have hbk := hid hpb.1
        have hpw : pw l (lets ws).length ≤ 1000 := by
          have h2 := gd.l2; have h3 := gd.l3
          have hl : l = 2 ∨ l = 3 := by omega
          have hn : (lets ws).length = 0 ∨ (lets ws).length = 1 ∨ (lets ws).length = 2 ∨ (lets ws).length = 3 ∨ (lets ws).length = 4 ∨ (lets ws).length = 5 := by omega
          rcases hl with rfl | rfl <;> rcases hn with h | h | h | h | h | h <;> rw [h] <;> decide
        have hmin := hid (fun k h1 h2 => per_min (m := m) (l := l) (s := s) (g := g) (u := lets ws) (k := k) h1 h2)
        have hpos := per_pos (m := m) (l := l) (s := s) (g := g) (u := lets ws)
        have hP1000 : per m l s g (lets ws) ≤ 1000 := by omega
        have hne := hid (fun k (h : itW m l s g (lets ws) k ≠ lets ws) => (show ((wstr (itW m l s g (lets ws) k)).toList == ws.toList) = false from bytes_ne fun e =>
          h (wstr_inj (fun x hx => by have := itW_lt gd hgn hwl k x hx; have := gd.l3; omega) (fun x hx => by have := hwl x hx; have := gd.l3; omega) (e.trans hwe))))
        have heq := hid (show ((wstr (itW m l s g (lets ws) (per m l s g (lets ws)))).toList == ws.toList) = true from bytes_eq (by rw [hpb.1]; exact hwe.symm))
        have hits := hid (fun k => (show (itW m l s g (lets ws) k).length ≤ 1000 by rw [itW_length]; omega))
        have hitl := hid (fun k => itW_lt gd hgn hwl k)
        have him := hid (fun k W G v1 v2 (hG : GM W G m l s v1 v2) (hO : Own W 0 2 (Value.slice A0 g.length cp0) (ints g)) => (by exact image_any W G m l s gd v1 v2 hG 0 (Value.slice A0 g.length cp0) g hO hgn (by omega) (itW m l s g (lets ws) k) (hitl.out k) (hits.out k) : Calls Tryz.prog 135 #[.pointer (some ⟨G, 0, none⟩), Value.slice A0 g.length cp0, .string (wstr (itW m l s g (lets ws) k))] W fun e w' => ∃ v', e = .returned (.tuple #[.string (wstr (itW m l s g (lets ws) (k + 1))), v']) ∧ Own w' 0 2 v' (ints (secW m l s g (itW m l s g (lets ws) k))) ∧ Below W.heap.size W w'))
        have h0 := hid (show wstr (itW m l s g (lets ws) 0) = ws from hwe.symm)
        replace hkm := hid hkm; replace hg := hid hg; replace hgw := hid hgw; replace gd := hid gd; replace hwe := hid hwe; replace hw := hid hw
        clear hbad hpb hpw hul
        generalize hF : (fun k => wstr (itW m l s g (lets ws) k)) = F at *
        have hFk := fun k => congrFun hF k
        have him2 := hid (fun k W G v1 v2 (hG : GM W G m l s v1 v2) (hO : Own W 0 2 (Value.slice A0 g.length cp0) (ints g)) => (by have h := him.out k W G v1 v2 hG hO; rw [show wstr (itW m l s g (lets ws) k) = F k from hFk k, show wstr (itW m l s g (lets ws) (k + 1)) = F (k + 1) from hFk (k + 1)] at h; exact h : Calls Tryz.prog 135 #[.pointer (some ⟨G, 0, none⟩), Value.slice A0 g.length cp0, .string (F k)] W fun e w' => ∃ v', e = .returned (.tuple #[.string (F (k + 1)), v']) ∧ Own w' 0 2 v' (ints (secW m l s g (itW m l s g (lets ws) k))) ∧ Below W.heap.size W w'))
        have hne2 := hid (fun k (h1 : 1 ≤ k) (h2 : k < per m l s g (lets ws)) => (show ((F k).toList == ws.toList) = false from by rw [← hFk k]; exact hne.out k (hmin.out k h1 h2)))
        have heq2 := hid (show ((F (per m l s g (lets ws))).toList == ws.toList) = true from by rw [← hFk]; exact heq.out)
        have h02 := hid (show F 0 = ws from by rw [← hFk]; exact h0.out)
        clear hF hFk him hne heq h0 hits hitl hmin hbk
        generalize per m l s g (lets ws) = P at *
        have him1 := hid (fun W G v1 v2 hG hO => (by have h := him2.out 0 W G v1 v2 hG hO; rw [h02.out] at h; exact h : Calls Tryz.prog 135 #[.pointer (some ⟨G, 0, none⟩), Value.slice A0 g.length cp0, .string ws] W fun e w' => ∃ v', e = .returned (.tuple #[.string (F (0 + 1)), v']) ∧ Own w' 0 2 v' (ints (secW m l s g (itW m l s g (lets ws) 0))) ∧ Below W.heap.size W w'))
        go_enter Tryz.func42, Tryz.ntmps42
        go_wp2_with (first
          | ((with_reducible refine gate (N := 14) rfl ?_); refine load_mach rfl _ rfl w.heap.size rfl m hS.out.m0 ?_)
          | (go_at_call 133; (with_reducible refine (hgo.out _ _ _ (hown.out.o0.mono (Nat.zero_le _)) hown.out.o2).mono ?_); rintro e w1 ⟨G, v1, v2, rfl, hle, hGB, hb⟩; have hGM := hid hGB.gm; replace hS := hid (hown.out.call hb); have cL := hS.out.m1.cL; rw [hL.out] at cL; clear hgo hb hGB hle hown)
          | (go_at_call 134; (with_reducible refine (hwd.out _).mono ?_); rintro e w' ⟨rfl, rfl⟩)
          | (go_at_call 135; (with_reducible refine (him1.out _ _ _ _ hGM.out hS.out.o2).mono ?_); rintro e w2 ⟨v', rfl, hO, hb⟩; have hGM2 := hid (hGM.out.below hb); replace hS := hid (hS.out.call hb); clear hb hO hGM))
        clear cL
        go_loopw [10, 12] (fun nw kk wr => ∃ k : Nat, 1 ≤ k ∧ k ≤ P ∧ nw = .string (F k) ∧ kk = .int .i64 k ∧ GM wr G m l s v1 v2 ∧ Own wr 0 2 (Value.slice A0 g.length cp0) (ints g) ∧ Below w.heap.size w wr) (fun _ kk _ => P - (intOf kk).toNat)
        case atStart => exact ⟨1, Nat.le_refl _, hpos, rfl, rfl, hGM2.out, hS.out.o2, hS.out.bel⟩
        case round =>
          obtain ⟨k, hk1, hkP, rfl, rfl, rG, rO, rB⟩ := hrel
          clear hS hGM2
          replace rG := hid rG; replace rO := hid rO; replace rB := hid rB
          by_cases hkp : k < P
          · have dn := hne2.out k hk1 hkp
            have hil := hid (him2.out k)
            go_wp2_with (first
              | (go_at_call 135; (with_reducible refine (hil.out _ _ _ _ rG.out rO.out).mono ?_); rintro e w2 ⟨v', rfl, hO, hb⟩; replace rG := hid (rG.out.below hb); replace rO := hid (rO.out.below hb); replace rB := hid (rB.out.trans (hb.mono rB.out.size)); clear hb hO))
            go_roundw
            case rel => exact ⟨k + 1, by omega, hkp, rfl, by go_num, rG.out, rO.out, rB.out⟩
            case measure => simp [intOf]; omega
          · obtain rfl : k = P := by omega
            have dn := heq2.out
            go_wp2
            go_ret2
            exact ⟨rfl, rB.out⟩
      · rw [perAns_2 gd hgw hw h5]
        have d5 : decide ((5 : Int) < (ws.size : Int)) = true := decide_eq_true (by omega)
        replace hkm := hid hkm; replace hg := hid hg; replace hgw := hid hgw; replace gd := hid gd; replace hw := hid hw
        clear hbad
        go_enter Tryz.func42, Tryz.ntmps42
        go_wp2_with (first
          | ((with_reducible refine gate (N := 14) rfl ?_); refine load_mach rfl _ rfl w.heap.size rfl m hS.out.m0 ?_)
          | (go_at_call 133; (with_reducible refine (hgo.out _ _ _ (hown.out.o0.mono (Nat.zero_le _)) hown.out.o2).mono ?_); rintro e w1 ⟨G, v1, v2, rfl, hle, hGB, hb⟩; replace hS := hid (hown.out.call hb); have cL := hS.out.m1.cL; rw [hL.out] at cL; clear hgo hb hGB hle hown)
          | (go_at_call 134; (with_reducible refine (hwd.out _).mono ?_); rintro e w' ⟨rfl, rfl⟩))
        go_ret2
        exact ⟨rfl, hS.out.bel⟩
    · rw [perAns_w gd hw]
      have hwd := hid (fun W => isWord_any (l : Int) (by have := gd.l2; omega) (by have := gd.l3; omega) ws hws false ⟨fun h => (by cases h), fun h => absurd h hw⟩ W)
      replace hkm := hid hkm; replace hg := hid hg; replace hgw := hid hgw; replace gd := hid gd
      clear hbad
      go_enter Tryz.func42, Tryz.ntmps42
      go_wp2_with (first
        | ((with_reducible refine gate (N := 14) rfl ?_); refine load_mach rfl _ rfl w.heap.size rfl m hS.out.m0 ?_)
        | (go_at_call 133; (with_reducible refine (hgo.out _ _ _ (hown.out.o0.mono (Nat.zero_le _)) hown.out.o2).mono ?_); rintro e w1 ⟨G, v1, v2, rfl, hle, hGB, hb⟩; replace hS := hid (hown.out.call hb); have cL := hS.out.m1.cL; rw [hL.out] at cL; clear hgo hb hGB hle hown)
        | (go_at_call 134; (with_reducible refine (hwd.out _).mono ?_); rintro e w' ⟨rfl, rfl⟩))
      go_ret2
      exact ⟨rfl, hS.out.bel⟩
end Go.Proofs.YthmcdfjijkecfaaGreat

/- PeriodOfWord: the reference's side, and the law. -/
namespace Go.Proofs.YthmcdfjijkecfaaGreat
open Go.RowKit
set_option linter.unusedVariables false
set_option linter.unusedSimpArgs false

set_option maxHeartbeats 4000000 in
set_option maxRecDepth 4000 in
theorem specPer_any (w : World) (m : Mach) (hkm : m.Ok) (b0 : Nat) (v : Value) (g : List Int) (hg : Own w b0 2 v (ints g)) (hl : g.length < 2000000) (ws : ByteArray) (hws : ws.size < 1000000000000) :
    Calls Tryz.prog 43 #[.agg (mcells m), v, .string ws] w fun e w' => e = .returned (.tuple #[.int .i64 (perAns m g ws).1, .int .i64 (perAns m g ws).2]) ∧ Below w.heap.size w w' := by
  have hz := zero_mach
  have hS := hid ((St.arg w hg).newMB m 27)
  have hbo := hid (fun W (hr : Own W 0 2 v (ints g)) => l02Both_any W m hkm 0 v g hr hl ws hws)
  rcases gw_cases m g ws with h | ⟨l, s, gd, hgw, hw⟩ | ⟨l, s, gd, hgw, hw⟩
  · have hbad : ¬ IsGw m g := by
      rcases h with h | h
      · exact fun k => h k.1
      · exact h
    rw [perAns_1 hbad]
    rw [codB_n hbad] at hbo
    clear h hbad
    replace hkm := hid hkm; replace hg := hid hg
    go_enter Tryz.func43, Tryz.ntmps43
    go_wp2_with (first
      | ((with_reducible refine gate (N := 15) rfl ?_); refine load_mach rfl _ rfl w.heap.size rfl m hS.out.m0 ?_)
      | (go_at_call 136; (with_reducible refine (hbo.out _ hS.out.o1).mono ?_); rintro e w1 ⟨rfl, hb⟩; replace hS := hid (hS.out.call hb); clear hbo; clear hb))
    go_ret2
    exact ⟨rfl, hS.out.bel⟩
  · rw [perAns_w gd hw]
    rw [codB_w gd hw] at hbo
    clear hgw hw; replace gd := hid gd
    replace hkm := hid hkm; replace hg := hid hg
    go_enter Tryz.func43, Tryz.ntmps43
    go_wp2_with (first
      | ((with_reducible refine gate (N := 15) rfl ?_); refine load_mach rfl _ rfl w.heap.size rfl m hS.out.m0 ?_)
      | (go_at_call 136; (with_reducible refine (hbo.out _ hS.out.o1).mono ?_); rintro e w1 ⟨rfl, hb⟩; replace hS := hid (hS.out.call hb); clear hbo; clear hb))
    go_ret2
    exact ⟨rfl, hS.out.bel⟩
  · rw [codB_0 gd hgw hw] at hbo
    by_cases h5 : ws.size ≤ 5
    · rw [perAns_0 gd hgw hw h5]
      have d5 : decide ((5 : Int) < (ws.size : Int)) = false := decide_eq_false (by omega)
      obtain ⟨hwe, hwl, hw40⟩ := lets_wstr ws hw
      obtain ⟨hgl, hgn⟩ := hgw.parts gd
      have hul : (lets ws).length ≤ 5 := by have h := wstr_size (lets ws); rw [← hwe] at h; omega
      have hpb := per_back gd hgn hwl
      have hbk := hid hpb.1
      have hpw : pw l (lets ws).length ≤ 1000 := by
        have h2 := gd.l2; have h3 := gd.l3
        have hl : l = 2 ∨ l = 3 := by omega
        have hn : (lets ws).length = 0 ∨ (lets ws).length = 1 ∨ (lets ws).length = 2 ∨ (lets ws).length = 3 ∨ (lets ws).length = 4 ∨ (lets ws).length = 5 := by omega
        rcases hl with rfl | rfl <;> rcases hn with h | h | h | h | h | h <;> rw [h] <;> decide
      have hmin := hid (fun k h1 h2 => per_min (m := m) (l := l) (s := s) (g := g) (u := lets ws) (k := k) h1 h2)
      have hpos := per_pos (m := m) (l := l) (s := s) (g := g) (u := lets ws)
      have hP1000 : per m l s g (lets ws) ≤ 1000 := by omega
      have hne := hid (fun k (h : itW m l s g (lets ws) k ≠ lets ws) => (show ((wstr (itW m l s g (lets ws) k)).toList == ws.toList) = false from bytes_ne fun e =>
        h (wstr_inj (fun x hx => by have := itW_lt gd hgn hwl k x hx; have := gd.l3; omega) (fun x hx => by have := hwl x hx; have := gd.l3; omega) (e.trans hwe))))
      have heq := hid (show ((wstr (itW m l s g (lets ws) (per m l s g (lets ws)))).toList == ws.toList) = true from bytes_eq (by rw [hpb.1]; exact hwe.symm))
      have hits := hid (fun k => (show (itW m l s g (lets ws) k).length ≤ 1000 by rw [itW_length]; omega))
      have hitl := hid (fun k => itW_lt gd hgn hwl k)
      have hiv := hid (fun W => l01Inverse_any W m l s gd hkm)
      have him := hid (fun k W (hO : Own W 0 2 v (ints g)) => (by exact l02Act_any W m l s gd 0 v g hO hgn (by omega) (itW m l s g (lets ws) k) (hitl.out k) (hits.out k) : Calls Tryz.prog 138 #[.agg (mcells m), .agg (mcells (inv m l s)), v, .string (wstr (itW m l s g (lets ws) k))] W fun e w' => ∃ v', e = .returned (.tuple #[.string (wstr (itW m l s g (lets ws) (k + 1))), v']) ∧ Own w' W.heap.size 2 v' (ints (secW m l s g (itW m l s g (lets ws) k))) ∧ Below W.heap.size W w'))
      have h0 := hid (show wstr (itW m l s g (lets ws) 0) = ws from hwe.symm)
      have hz2 := hid (fun L W (h : St w.heap.size w L W) => h.newMB ⟨0, 0, fun _ => 0, fun _ => 0⟩ 27)
      replace hkm := hid hkm; replace hg := hid hg; replace hgw := hid hgw; replace gd := hid gd; replace hwe := hid hwe; replace hw := hid hw
      clear hpb hpw hul
      generalize hF : (fun k => wstr (itW m l s g (lets ws) k)) = F at *
      have hFk := fun k => congrFun hF k
      have him2 := hid (fun k W (hO : Own W 0 2 v (ints g)) => (by have h := him.out k W hO; rw [show wstr (itW m l s g (lets ws) k) = F k from hFk k, show wstr (itW m l s g (lets ws) (k + 1)) = F (k + 1) from hFk (k + 1)] at h; exact h : Calls Tryz.prog 138 #[.agg (mcells m), .agg (mcells (inv m l s)), v, .string (F k)] W fun e w' => ∃ v', e = .returned (.tuple #[.string (F (k + 1)), v']) ∧ Own w' W.heap.size 2 v' (ints (secW m l s g (itW m l s g (lets ws) k))) ∧ Below W.heap.size W w'))
      have hne2 := hid (fun k (h1 : 1 ≤ k) (h2 : k < per m l s g (lets ws)) => (show ((F k).toList == ws.toList) = false from by rw [← hFk k]; exact hne.out k (hmin.out k h1 h2)))
      have heq2 := hid (show ((F (per m l s g (lets ws))).toList == ws.toList) = true from by rw [← hFk]; exact heq.out)
      have h02 := hid (show F 0 = ws from by rw [← hFk]; exact h0.out)
      clear hF hFk him hne heq h0 hits hitl hmin hbk
      generalize per m l s g (lets ws) = P at *
      have him1 := hid (fun W hO => (by have h := him2.out 0 W hO; rw [h02.out] at h; exact h : Calls Tryz.prog 138 #[.agg (mcells m), .agg (mcells (inv m l s)), v, .string ws] W fun e w' => ∃ v', e = .returned (.tuple #[.string (F (0 + 1)), v']) ∧ Own w' W.heap.size 2 v' (ints (secW m l s g (itW m l s g (lets ws) 0))) ∧ Below W.heap.size W w'))
      generalize inv m l s = I at *
      generalize mcells ⟨0, 0, fun _ => 0, fun _ => 0⟩ = zs at *
      go_enter Tryz.func43, Tryz.ntmps43
      go_upto_region 6 with (first
        | ((with_reducible refine gate (N := 15) rfl ?_); refine load_mach rfl _ rfl w.heap.size rfl m hS.out.m0 ?_)
        | (go_at_call 136; (with_reducible refine (hbo.out _ hS.out.o1).mono ?_); rintro e w1 ⟨rfl, hb⟩; replace hS := hid (hS.out.call hb); clear hbo; clear hb)
        | ((with_reducible refine gate (N := 24) rfl ?_); refine load_mach rfl _ rfl w.heap.size rfl m hS.out.m0 ?_)
        | (go_at_call 137; (with_reducible refine (hiv.out _).mono ?_); rintro e w2 ⟨rfl, hb⟩; have hle2 := hid (hS.out.call hb).le; replace hS := hid (hz2.out _ _ (hS.out.call hb)); clear hiv; clear hb)
        | ((with_reducible refine gateOp (op := .store 27 (.tmp 8) (.tmp 25)) rfl ?_); refine store_mach rfl _ _ rfl w2.heap.size rfl I rfl 27 _ hS.out.m0 ?_; intro W2 p3 ho hsz hbl; replace hS := hid (hS.out.setM hle2.out p3 ho hbl); clear p3 ho hsz hbl))
      generalize w2.heap.size = b8 at *
      go_wp2_with (first
        | ((with_reducible refine gate (N := 27) rfl ?_); refine load_mach rfl _ rfl w.heap.size rfl m hS.out.m1 ?_)
        | ((with_reducible refine gate (N := 28) rfl ?_); refine load_mach rfl _ rfl b8 rfl I hS.out.m0 ?_)
        | (go_at_call 138; (with_reducible refine (him1.out _ hS.out.o2).mono ?_); rintro e w3 ⟨v', rfl, hO, hb⟩; replace hS := hid (hS.out.call hb); clear hb hO))
      go_loopw [9, 10] (fun kk nw wr => ∃ k : Nat, 1 ≤ k ∧ k ≤ P ∧ nw = .string (F k) ∧ kk = .int .i64 k ∧ St w.heap.size w [Asn.mb 27 b8 I, Asn.mb 27 w.heap.size m, Asn.own 0 2 v (ints g)] wr) (fun kk _ _ => P - (intOf kk).toNat)
      case atStart => exact ⟨1, Nat.le_refl _, hpos, rfl, rfl, hS.out⟩
      case round =>
        obtain ⟨k, hk1, hkP, rfl, rfl, rS⟩ := hrel
        clear hS
        replace rS := hid rS
        by_cases hkp : k < P
        · have dn := hne2.out k hk1 hkp
          have hil := hid (him2.out k)
          go_wp2_with (first
            | ((with_reducible refine gate (N := 38) rfl ?_); refine load_mach rfl _ rfl w.heap.size rfl m rS.out.m1 ?_)
            | ((with_reducible refine gate (N := 39) rfl ?_); refine load_mach rfl _ rfl b8 rfl I rS.out.m0 ?_)
            | (go_at_call 138; (with_reducible refine (hil.out _ rS.out.o2).mono ?_); rintro e w3 ⟨v', rfl, hO, hb⟩; replace rS := hid (rS.out.call hb); clear hb hO))
          go_roundw
          case rel => exact ⟨k + 1, by omega, hkp, rfl, by go_num, rS.out⟩
          case measure => simp [intOf]; omega
        · obtain rfl : k = P := by omega
          have dn := heq2.out
          go_wp2
          go_ret2
          exact ⟨rfl, rS.out.bel⟩
    · rw [perAns_2 gd hgw hw h5]
      have d5 : decide ((5 : Int) < (ws.size : Int)) = true := decide_eq_true (by omega)
      replace gd := hid gd; replace hgw := hid hgw; replace hw := hid hw
      replace hkm := hid hkm; replace hg := hid hg
      go_enter Tryz.func43, Tryz.ntmps43
      go_wp2_with (first
        | ((with_reducible refine gate (N := 15) rfl ?_); refine load_mach rfl _ rfl w.heap.size rfl m hS.out.m0 ?_)
        | (go_at_call 136; (with_reducible refine (hbo.out _ hS.out.o1).mono ?_); rintro e w1 ⟨rfl, hb⟩; replace hS := hid (hS.out.call hb); clear hbo; clear hb))
      go_ret2
      exact ⟨rfl, hS.out.bel⟩
end Go.Proofs.YthmcdfjijkecfaaGreat

/- The reference's least equal states of a large machine. -/
namespace Go.Proofs.YthmcdfjijkecfaaGreat
open Go.RowKit
set_option linter.unusedVariables false
set_option linter.unusedSimpArgs false

/-- Equal rows of bytes. -/
theorem rc1_iff (f : Nat → Nat → Nat) (L a b : Nat) (hL : L ≤ 3) : rc1 .u8 f L a = rc1 .u8 f L b ↔ (alls L fun x => f a x == f b x) = true := by
  rw [alls_iff]
  constructor
  · intro h x hx
    have h1 := rc1_get .u8 f L a x (by omega)
    rw [h, rc1_get .u8 f L b x (by omega), if_pos hx, if_pos hx] at h1
    simp at h1; simp; omega
  · intro h
    unfold rc1
    apply List.map_congr_left
    intro x _
    by_cases hx : x < L
    · have := h x hx
      simp at this
      rw [if_pos hx, if_pos hx, this]
    · rw [if_neg hx, if_neg hx]
theorem lit3_iff {a b c a' b' c' : Nat} : ([Value.int .u8 (a : Int), .int .u8 (b : Int), .int .u8 (c : Int)] = [.int .u8 (a' : Int), .int .u8 (b' : Int), .int .u8 (c' : Int)]) ↔ a = a' ∧ b = b' ∧ c = c' := by
  constructor
  · intro h; simp at h; omega
  · rintro ⟨rfl, rfl, rfl⟩; rfl
theorem rc1_lit256 (f : Nat → Nat → Nat) (L q : Nat) (h : ∀ x, x < L → f q x < 256) : ∃ a b c : Nat, rc1 .u8 f L q = [.int .u8 (a : Int), .int .u8 (b : Int), .int .u8 (c : Int)] ∧ a < 256 ∧ b < 256 ∧ c < 256 := by
  have hx : ∀ x, (if x < L then f q x else 0) < 256 := fun x => by
    by_cases hx : x < L
    · rw [if_pos hx]; exact h x hx
    · rw [if_neg hx]; omega
  exact ⟨_, _, _, rfl, hx 0, hx 1, hx 2⟩
theorem clsL_stable {T : Tab} {k : Nat} (h : Stable T k) : clsL T (k + 1) T.n = clsL T k T.n := by
  unfold clsL
  apply List.map_congr_left
  intro q hq
  exact h q (List.mem_range.1 hq)
/-- A list filled up to q, with x at q. -/
theorem filL_at (f : Nat → Nat) (q n x : Nat) (hq : q < n) : ∀ j, j < n → ((nats (filL f q n)).set q (.int .i64 (x : Int)))[j]? = some (.int .i64 ((if j = q then x else if j < q then f j else 0 : Nat) : Int)) := fun j hj => by
  rw [List.getElem?_set]
  by_cases e : q = j
  · subst e; rw [if_pos rfl, if_pos (by rw [nats_length, filL_length]; exact hj), if_pos rfl]
  · rw [if_neg e, if_neg (Ne.symm e)]
    simp [nats, filL, hj]
theorem filL_done (f : Nat → Nat) (q n x : Nat) (h : x = f q) : (nats (filL f q n)).set q (.int .i64 (x : Int)) = nats (filL f (q + 1) n) := by subst h; exact filL_set f q n

set_option maxHeartbeats 8000000 in
set_option maxRecDepth 100000 in
theorem l07Classes_any (w : World) (base : Nat) (vN vO : Value) (T : Tab) (hT : T.Ok) (hL : T.L ≤ 3) (hL0 : 0 < T.L) (hn : T.n < 100000) (hot : ∀ q x, q < T.n → x < T.L → T.ot q x < 256) (hG : LG w base vN vO T) :
    Calls Tryz.prog 231 #[.agg #[.int .i64 T.L, vN, vO]] w fun e w' => ∃ v, e = .returned v ∧ Own w' w.heap.size 2 v (nats ((List.range T.n).map (fix T))) ∧ Below w.heap.size w w' := by
  have hpos := hT.pos
  obtain ⟨gN, cN, rfl⟩ := hG.1.blk hpos
  obtain ⟨gO, cO, rfl⟩ := hG.2.blk hpos
  have hGW := hid (fun W (hb : Below w.heap.size w W) => hG.below hb)
  have hcN := hid (fun W (hb : Below w.heap.size w W) q x (hq : q < T.n) (hx : x < T.L) => (hG.below hb).1.cellAt (q * 3 + x) _ (rcs_in .i64 T.nx T.L T.n q x hq hx hL))
  have hrO := hid (fun W (hb : Below w.heap.size w W) q (hq : q < T.n) => (hG.below hb).2.range (q * 3) (rc1 .u8 T.ot T.L q) (rcs_row .u8 T.ot T.L T.n q hq))
  have hrw := hid (fun a b => rc1_iff T.ot T.L a b hL)
  have hS := hid ((St.start w).newBlk #[.int .i64 T.L, .slice (some ⟨gN, 0, none⟩) T.n cN, .slice (some ⟨gO, 0, none⟩) T.n cO] 184)
  have hmk := fun W : World => run_make_row' (P := Tryz.prog) 32 2 (.int .i64 0) 8 Tryz.underlying32 info_i64 rfl .i64 .i64 T.n (by omega) (by omega) W
  have hmc := hid (toList_madeCells_one (.int .i64 0) T.n)
  generalize madeCells #[.int .i64 0] T.n = mc at *
  have hmcs := hid (show mc.size = T.n by rw [← Array.length_toList, hmc.out, List.length_replicate])
  have hcb := hid (fun k => cnt1_le T (k + 1) T.n)
  have hcp := hid (fun k => cnt1_pos T k T.n hpos)
  have hst := hid (fun k => stable_or T k)
  have hsc := hid (fun k (h : Stable T (k + 1)) => stable_cnt h)
  have hfx := hid (fun k hk h => clsL_fix hT (k := k) hk h)
  have hnx := hid (fun q x (hq : q < T.n) (hx : x < T.L) => hT.nx q x hq hx)
  have hc0 := hid (show clsL T 0 T.n = filL (cls T 0) 0 T.n by unfold clsL filL; apply List.map_congr_left; intro j _; simp [cls])
  have hlk := hid (fun k r q => like_iff T (cls T k) r q)
  have hci := hid (fun k r q => cls_iff T k r q)
  have hcle := hid (fun k q => cls_le T k q)
  have hcs' := hid (fun k q (h : ∀ j, j < q → like T (cls T k) j q = false) => (show cls T (k + 1) q = q from by rw [cls_succ]; exact fst_eq _ _ _ (Nat.le_refl _) h (fun h' => absurd h' (Nat.lt_irrefl _))))
  have hlit := hid (fun q (hq : q < T.n) => rc1_lit256 T.ot T.L q (fun x hx => hot q x hq hx))
  have hcst := hid (fun k (h : Stable T k) => clsL_stable h)
  have hgd := guard_b3
  have hall := hid (fun L' p => alls_iff L' p)
  replace hT := hid hT
  clear hG
  generalize hnn : T.n = n at *
  replace hnn := hid hnn
  generalize hLL : T.L = L at *
  replace hLL := hid hLL
  have hcl : w.heap.size < w.heap.size + 1 := Nat.lt_succ_self _
  have e0 : (w.alloc (.cells #[.int .i64 L, .slice (some ⟨gN, 0, none⟩) n cN, .slice (some ⟨gO, 0, none⟩) n cO] 184)).cell? ⟨w.heap.size, 1, none⟩ = some (.slice (some ⟨gN, 0, none⟩) n cN) := cell_of_row _ _ 1 _ _ _ hS.out.k0
  go_enter Tryz.func231, Tryz.ntmps231
  go_wp2
  have yS := hid (hS.out.newArr mc n hmcs.out 2 (by omega))
  rw [hmc.out, filL_zero (cls T 0) n, ← hc0.out, heap_alloc_size] at yS
  clear hS e0
  generalize (w.alloc (.cells #[.int .i64 L, .slice (some ⟨gN, 0, none⟩) n cN, .slice (some ⟨gO, 0, none⟩) n cO] 184)).alloc (.cells mc 2) = w1 at *
  go_loopg [4, 5] n (fun gk v ks wr => ∃ k K : Nat, ks = .int .i64 K ∧ k ≤ K ∧ (k = 0 → K = 0) ∧ (k ≠ 0 → K = cnt1 T k n) ∧ gk = n - k ∧ St w.heap.size w [Asn.own w.heap.size 2 v (nats (clsL T k n)), Asn.blk w.heap.size #[.int .i64 L, .slice (some ⟨gN, 0, none⟩) n cN, .slice (some ⟨gO, 0, none⟩) n cO] 184] wr)
  case atStart => exact ⟨0, 0, rfl, Nat.le_refl _, fun _ => rfl, fun h => absurd rfl h, rfl, yS.out⟩
  case round =>
    obtain ⟨k, K, rfl, hkK, hK0, hK1, rfl, rS⟩ := hrel
    clear yS
    replace hK0 := hid hK0; replace hK1 := hid hK1
    obtain ⟨g1, c1, rfl, _, _⟩ := rS.o0.blk (fun e => by have h1 := congrArg List.length e; rw [nats_length, clsL_length, List.length_nil] at h1; omega)
    rw [nats_length, clsL_length] at rS ⊢
    have yS := hid (rS.newArr mc n hmcs.out 2 (by omega))
    rw [hmc.out, filL_zero (cls T (k + 1)) n] at yS
    clear rS
    go_wp2
    generalize wr.alloc (.cells mc 2) = wa at *
    generalize wr.heap.size = g2 at *
    go_loopw [7, 8] (fun ct i wr => ∃ q : Nat, q ≤ n ∧ i = .int .i64 q ∧ ct = .int .i64 (cnt1 T (k + 1) q : Nat) ∧ St w.heap.size w [Asn.own w.heap.size 2 (.slice (some ⟨g2, 0, none⟩) n n) (nats (filL (cls T (k + 1)) q n)), Asn.own w.heap.size 2 (.slice (some ⟨g1, 0, none⟩) n c1) (nats (clsL T k n)), Asn.blk w.heap.size #[.int .i64 L, .slice (some ⟨gN, 0, none⟩) n cN, .slice (some ⟨gO, 0, none⟩) n cO] 184] wr) (fun _ i _ => n - (intOf i).toNat)
    case atStart => exact ⟨0, Nat.zero_le _, rfl, rfl, yS.out⟩
    case round =>
      obtain ⟨q, hq, rfl, rfl, zS⟩ := hrel
      clear yS
      replace zS := hid zS
      by_cases hqn : q < n
      · have dq : decide ((q : Int) < (n : Int)) = true := decide_eq_true (by omega)
        obtain ⟨u, hu⟩ := filL_get (cls T (k + 1)) q n q hqn
        have co := Own.cellAt zS.out.o0 q u hu
        have fo := Own.frozenAt zS.out.o0 (by rw [nats_length, filL_length]) q
        have tS := hid (zS.out.setOwn (by rw [nats_length, filL_length]) q (.int .i64 (q : Int)) hqn)
        have hct := cnt1_le T (k + 1) q
        have hcs := hid (show cnt1 T (k + 1) (q + 1) = cnt1 T (k + 1) q + if cls T (k + 1) q = q then 1 else 0 from rfl)
        clear hu zS
        generalize cnt1 T (k + 1) q = ct at *
        go_upto_region 8 with (fail)
        clear co fo
        generalize wr.setCell ⟨g2, q, none⟩ (.int .i64 (q : Int)) = wb at *
        go_wp2
        go_loopw [9] (fun i wr => ∃ r : Nat, r ≤ q ∧ i = .int .i64 r ∧ Hid (∀ j, j < r → like T (cls T k) j q = false) ∧ St w.heap.size w [Asn.own w.heap.size 2 (.slice (some ⟨g2, 0, none⟩) n n) ((nats (filL (cls T (k + 1)) q n)).set q (.int .i64 (q : Int))), Asn.own w.heap.size 2 (.slice (some ⟨g1, 0, none⟩) n c1) (nats (clsL T k n)), Asn.blk w.heap.size #[.int .i64 L, .slice (some ⟨gN, 0, none⟩) n cN, .slice (some ⟨gO, 0, none⟩) n cO] 184] wr) (fun i _ => q - (intOf i).toNat)
        case atStart => exact ⟨0, Nat.zero_le _, rfl, fun j hj => absurd hj (by omega), tS.out⟩
        case round =>
          obtain ⟨r, hr, rfl, hno, uS⟩ := hrel
          clear tS
          replace uS := hid uS
          have hat := hid (filL_at (cls T (k + 1)) q n q hqn)
          by_cases hrq : r < q
          · have hrn : r < n := by omega
            have e1 := Own.cellAt uS.out.o1 q _ (clsL_get T k n q hqn)
            have e2 := Own.cellAt uS.out.o1 r _ (clsL_get T k n r hrn)
            have e3 : wr.cell? ⟨w.heap.size, 2, none⟩ = some (.slice (some ⟨gO, 0, none⟩) n cO) := cell_of_row _ _ 2 _ _ _ uS.out.k2
            have rq := hid (hrO.out wr uS.out.bel q hqn)
            have rr := hid (hrO.out wr uS.out.bel r hrn)
            have hoe := hid (hrw.out r q)
            have hl := hid (hlk.out k r q)
            obtain ⟨a0, a1, a2, hra, ha⟩ := hlit.out q hqn
            obtain ⟨b0, b1, b2, hrb, hb⟩ := hlit.out r hrn
            rw [hra, hrb, lit3_iff] at hoe
            rw [hra] at rq
            rw [hrb] at rr
            clear hra hrb
            have ea0 : wr.cell? ⟨gO, q * 3, none⟩ = some (.int .u8 (a0 : Int)) := rq.out 0 _ rfl
            have ea1 : wr.cell? ⟨gO, q * 3 + 1, none⟩ = some (.int .u8 (a1 : Int)) := rq.out 1 _ rfl
            have ea2 : wr.cell? ⟨gO, q * 3 + 2, none⟩ = some (.int .u8 (a2 : Int)) := rq.out 2 _ rfl
            have eb0 : wr.cell? ⟨gO, r * 3, none⟩ = some (.int .u8 (b0 : Int)) := rr.out 0 _ rfl
            have eb1 : wr.cell? ⟨gO, r * 3 + 1, none⟩ = some (.int .u8 (b1 : Int)) := rr.out 1 _ rfl
            have eb2 : wr.cell? ⟨gO, r * 3 + 2, none⟩ = some (.int .u8 (b2 : Int)) := rr.out 2 _ rfl
            generalize hcq : cls T k q = cq at *
            generalize hcr : cls T k r = cr at *
            replace hcq := hid hcq; replace hcr := hid hcr
            have hnext : Hid (like T (cls T k) r q = false → ∀ j, j < r + 1 → like T (cls T k) j q = false) := fun h j hj => by
              by_cases e : j = r
              · subst e; exact h
              · exact hno.out j (by omega)
            have dr : decide ((r : Int) < (q : Int)) = true := decide_eq_true (by omega)
            by_cases hcc : cq = cr
            · subst hcc
              have hbz : ((cq : Int) == (cq : Int)) = true := by simp
              obtain ⟨ro, hro⟩ : ∃ ro : Bool, Hid (Tells ro (a0 = b0 ∧ a1 = b1 ∧ a2 = b2)) := ⟨decide _, decide_eq_true_iff⟩
              have heq := fun W : World => eq_b3 W a0 a1 a2 b0 b1 b2 ha hb ro hro.out
              clear ha hb
              go_upto_region 11 with (fail)
              go_quiet (fail)
              clear ea0 ea1 ea2 eb0 eb1 eb2 e1 e2 e3 heq rq rr hbz
              replace uS := hid (uS.out.drewN nq)
              generalize wr.drewN nq = wc at *
              go_wp2
              go_loopw [10, 11] (fun sm i wr => ∃ x : Nat, x ≤ L ∧ i = .int .i64 x ∧ sm = .bool (ro && alls x fun y => cls T k (T.nx q y) == cls T k (T.nx r y)) ∧ St w.heap.size w [Asn.own w.heap.size 2 (.slice (some ⟨g2, 0, none⟩) n n) ((nats (filL (cls T (k + 1)) q n)).set q (.int .i64 (q : Int))), Asn.own w.heap.size 2 (.slice (some ⟨g1, 0, none⟩) n c1) (nats (clsL T k n)), Asn.blk w.heap.size #[.int .i64 L, .slice (some ⟨gN, 0, none⟩) n cN, .slice (some ⟨gO, 0, none⟩) n cO] 184] wr) (fun _ i _ => L - (intOf i).toNat)
              case atStart => exact ⟨0, Nat.zero_le _, rfl, by simp [alls], uS.out⟩
              case round =>
                obtain ⟨x, hx, rfl, rfl, vS⟩ := hrel
                clear uS
                replace vS := hid vS
                have e0 : wr.cell? ⟨w.heap.size, 0, none⟩ = some (.int .i64 (L : Int)) := cell_of_row _ _ 0 _ _ _ vS.out.k2
                have hsx := hid (alls_succ x fun y => cls T k (T.nx q y) == cls T k (T.nx r y))
                cases hsv : (ro && alls x fun y => cls T k (T.nx q y) == cls T k (T.nx r y)) with
                | false =>
                  have hlf := hid (hnext.out (by
                    cases hlv : like T (cls T k) r q with
                    | false => rfl
                    | true =>
                      obtain ⟨_, ho1, hx1⟩ := hl.out.1 hlv
                      have h1 : ro = true := hro.out.out.2 (by
                        obtain ⟨u1, u2, u3⟩ := hoe.out.2 ((hall.out _ _).2 fun x hx => by simpa using ho1 x hx)
                        exact ⟨u1.symm, u2.symm, u3.symm⟩)
                      have h2 : (alls x fun y => cls T k (T.nx q y) == cls T k (T.nx r y)) = true := (hall.out _ _).2 fun y hy => by simpa using (hx1 y (by omega)).symm
                      rw [h1, h2] at hsv
                      cases hsv))
                  clear hsv
                  by_cases hxL : x < L
                  · have dx : decide ((x : Int) < (L : Int)) = true := decide_eq_true (by omega)
                    go_wp2
                    go_roundw
                    case rel => exact ⟨r + 1, by omega, by go_num, hlf, vS.out⟩
                    case measure => simp [intOf]; omega
                  · have dx : decide ((x : Int) < (L : Int)) = false := decide_eq_false (by omega)
                    go_wp2
                    go_roundw
                    case rel => exact ⟨r + 1, by omega, by go_num, hlf, vS.out⟩
                    case measure => simp [intOf]; omega
                | true =>
                  rw [Bool.and_eq_true] at hsv
                  have hro1 := hsv.1
                  subst hro1
                  by_cases hxL : x < L
                  · have dx : decide ((x : Int) < (L : Int)) = true := decide_eq_true (by omega)
                    rw [hsv.2] at hsx
                    clear hsv
                    have e1 : wr.cell? ⟨w.heap.size, 1, none⟩ = some (.slice (some ⟨gN, 0, none⟩) n cN) := cell_of_row _ _ 1 _ _ _ vS.out.k2
                    have e2 := hcN.out wr vS.out.bel q x hqn hxL
                    have e3 := hcN.out wr vS.out.bel r x hrn hxL
                    have h1 := hnx.out q x hqn hxL
                    have h2 := hnx.out r x hrn hxL
                    have e4 := Own.cellAt vS.out.o1 _ _ (clsL_get T k n _ h1)
                    have e5 := Own.cellAt vS.out.o1 _ _ (clsL_get T k n _ h2)
                    generalize T.nx q x = a at *
                    generalize T.nx r x = b at *
                    generalize cls T k a = ca at *
                    generalize cls T k b = cb at *
                    have hbeq : (((ca : Nat) : Int) == ((cb : Nat) : Int)) = (ca == cb) := by
                      by_cases e : ca = cb
                      · subst e; simp
                      · have h1 : (ca == cb) = false := by simpa using e
                        rw [h1]
                        have : ((ca : Nat) : Int) ≠ ((cb : Nat) : Int) := by omega
                        simpa using this
                    replace hbeq := hid hbeq
                    have x3 : (x : Int) < 3 := by omega
                    have x0 : (0 : Int) ≤ (x : Int) := Int.natCast_nonneg _
                    go_upto_region 15 with (fail)
                    go_quiet (fail)
                    go_wp2
                    go_roundw
                    case rel => exact ⟨x + 1, by omega, by go_num, by rw [hsx.out]; simp; first | exact hbeq.out | (rw [← hbeq.out]; simp), vS.out.drewN _⟩
                    case measure => simp [intOf]; omega
                  · obtain rfl : L = x := by omega
                    have dx : decide ((L : Int) < (L : Int)) = false := decide_eq_false (by omega)
                    have hlv := hid (show like T (cls T k) r q = true from hl.out.2 ⟨by first | trivial | rfl, fun x hx => by
                        obtain ⟨u1, u2, u3⟩ := hro.out.out.1 rfl
                        have := (hall.out _ _).1 (hoe.out.1 ⟨u1.symm, u2.symm, u3.symm⟩) x hx
                        simpa using this, fun x hx => by have := (hall.out _ _).1 hsv.2 x hx; simpa using (by simpa using this : cls T k (T.nx q x) = cls T k (T.nx r x)).symm⟩)
                    clear hsv
                    have hce := hid ((hci.out k r q).2 hlv.out)
                    have hrr := hid (hcle.out (k + 1) r)
                    have e1 := Own.cellAt vS.out.o0 r _ (hat.out r hrn)
                    rw [if_neg (show ¬ r = q by omega), if_pos hrq] at e1
                    have e2 := Own.cellAt vS.out.o0 q _ (hat.out q hqn)
                    rw [if_pos rfl] at e2
                    have fo := Own.frozenAt vS.out.o0 (by rw [List.length_set, nats_length, filL_length]) q
                    have hdn := hid (filL_done (cls T (k + 1)) q n (cls T (k + 1) r) hce.out)
                    have hsk := hid (show cls T (k + 1) q ≠ q from by have h1 := hce.out; have h2 := hrr.out; omega)
                    have hcrr : cls T (k + 1) r < q := by have h2 := hrr.out; omega
                    generalize hcv : cls T (k + 1) r = cv at *
                    replace hcv := hid hcv
                    have vS2 := hid (vS.out.setOwn (by rw [List.length_set, nats_length, filL_length]) q (.int .i64 (cv : Int)) hqn)
                    rw [List.set_set, hdn.out] at vS2
                    rw [if_neg hsk.out] at hcs
                    have hne : ((cv : Int) == (q : Int)) = false := by simp; omega
                    go_wp2
                    go_roundw
                    case rel => exact ⟨q + 1, by omega, by go_num, by rw [hcs.out]; rfl, vS2.out⟩
                    case measure => simp [intOf]; omega
            · have hcz : ((cq : Int) == (cr : Int)) = false := by simp; omega
              have hlf := hid (hnext.out (by
                cases hlv : like T (cls T k) r q with
                | false => rfl
                | true => exact absurd (hl.out.1 hlv).1.symm hcc))
              have e0 : ∀ d, (wr.drewN d).cell? ⟨w.heap.size, 0, none⟩ = some (.int .i64 (L : Int)) := fun d => cell_of_row _ _ 0 _ _ _ uS.out.k2
              replace e0 := hid e0
              go_upto_region 11 with (fail)
              go_quiet (fail)
              have e00 := e0.out nq
              clear e1 e2 e3 ea0 ea1 ea2 eb0 eb1 eb2 ha hb rq rr hcc
              replace uS := hid (uS.out.drewN nq)
              generalize wr.drewN nq = wc at *
              go_wp2
              go_loopw [10, 11] (fun sm i wr => i = .int .i64 0 ∧ sm = .bool false ∧ wr = wc) (fun _ _ _ => 0)
              case atStart => exact ⟨rfl, rfl, rfl⟩
              case round =>
                obtain ⟨rfl, rfl, rfl⟩ := hrel
                go_wp2
                go_roundw
                case rel => exact ⟨r + 1, by omega, by go_num, hlf, uS.out⟩
                case measure => simp [intOf]; omega
          · obtain rfl : q = r := by omega
            have dr : decide ((q : Int) < (q : Int)) = false := decide_eq_false (by omega)
            have hqq := hid (hcs'.out k q hno.out)
            have e2 := Own.cellAt uS.out.o0 q _ (hat.out q hqn)
            rw [if_pos rfl] at e2
            have hdn := hid (filL_done (cls T (k + 1)) q n q hqq.out.symm)
            rw [hdn.out] at uS
            rw [if_pos hqq.out] at hcs
            have hne : ((q : Int) == (q : Int)) = true := by simp
            go_wp2
            go_roundw
            case rel => exact ⟨q + 1, by omega, by go_num, by rw [hcs.out]; go_num, uS.out⟩
            case measure => simp [intOf]; omega
      · obtain rfl : n = q := by omega
        have dq : decide ((n : Int) < (n : Int)) = false := decide_eq_false (by omega)
        have hS2 := zS.out
        rw [← hnn.out, filL_all, hnn.out] at hS2
        replace hS2 := hid hS2
        clear zS
        have hcn1 := hcb.out k
        have hcn2 := hcp.out k
        by_cases hcK : cnt1 T (k + 1) n = K
        · have hk0 : k ≠ 0 := fun e => by have := hK0.out e; omega
          have hKk := hK1.out hk0
          have hstab := hid (show Stable T k from by
            obtain ⟨k', rfl⟩ : ∃ k', k = k' + 1 := ⟨k - 1, by omega⟩
            apply Classical.byContradiction
            intro h
            have h1 := hst.out k' h
            have h2 : cnt1 T (k' + 2) n = K := hcK
            omega)
          have hf := hid (hfx.out k (by omega) hstab.out)
          have hf2 := hid (hcst.out k hstab.out)
          have hz : ((K : Int) == (K : Int)) = true := by simp
          subst hcK
          have hres := hid (show clsL T (k + 1) n = (List.range n).map (fix T) by rw [hf2.out, hf.out])
          generalize cnt1 T (k + 1) n = K at *
          clear hKk
          go_wp2
          go_ret
          exact ⟨_, rfl, by rw [← hres.out]; exact hS2.out.o0, hS2.out.bel⟩
        · have hz : (((cnt1 T (k + 1) n : Nat) : Int) == (K : Int)) = false := by simp; omega
          have hk1 : k + 1 ≤ cnt1 T (k + 1) n := by
            by_cases hk0 : k = 0
            · omega
            · have hKk := hK1.out hk0
              obtain ⟨k', rfl⟩ : ∃ k', k = k' + 1 := ⟨k - 1, by omega⟩
              by_cases hs : Stable T (k' + 1)
              · have h1 := hsc.out k' hs
                have h2 : cnt1 T (k' + 1 + 1) n ≠ K := hcK
                have h3 : cnt1 T (k' + 1 + 1) n = cnt1 T (k' + 1) n := h1
                omega
              · have h1 := hst.out k' hs
                have h3 : cnt1 T (k' + 1) n < cnt1 T (k' + 1 + 1) n := h1
                omega
          have hmm : n - (k + 1) < n - k := by omega
          replace hk1 := hid hk1
          generalize hKK : cnt1 T (k + 1) n = K2 at *
          replace hKK := hid hKK
          clear hcK
          go_wp2
          go_roundg (n - (k + 1))
          case measure => exact hmm
          case rel => exact ⟨k + 1, K2, rfl, hk1.out, fun h => absurd h (by omega), fun _ => hKK.out.symm, rfl, hS2.out.f1.drop⟩
end Go.Proofs.YthmcdfjijkecfaaGreat
