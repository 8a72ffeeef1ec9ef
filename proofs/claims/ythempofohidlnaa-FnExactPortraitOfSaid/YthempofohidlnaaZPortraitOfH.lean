/- What the proof of PortraitOf leans on, part 8 of 12. -/
import Derived.Test.YthempofohidlnaaZPortraitOfG
/- The number of a permutation. -/
namespace Go.Proofs.Ythempofohidlnaa
open Go.RowKit
set_option linter.unusedVariables false
set_option linter.unusedSimpArgs false
-- @LONG

/-- The number of a row among the permutations, or -1. -/
def pnm (row : List Int) : Int := idxP (fun p => decide (p = row)) (prms row.length) 0
def pnI (row : List Int) : Int := if row.length = 2 ∨ row.length = 3 then pnm row else -1
theorem pnI_of {row : List Int} (h : row.length = 2 ∨ row.length = 3) : pnI row = pnm row := by unfold pnI; rw [if_pos h]
theorem pnm_range {row : List Int} (h : row.length = 2 ∨ row.length = 3) : -1 ≤ pnm row ∧ pnm row < 6 := by
  have h1 := prms_length row.length
  have hc : cnt row.length ≤ 6 := by rcases h with h | h <;> rw [h] <;> decide
  rcases idxP_lt (fun p => decide (p = row)) (prms row.length) 0 (by omega) with h2 | h2
  · unfold pnm; omega
  · unfold pnm; omega
set_option maxHeartbeats 1000000 in
theorem pn1_any (b : Nat) (w : World) (b0 b1 : Nat) (v v1 : Value) (row p : List Int) (hb : w.cell? ⟨b, 0, none⟩ = some v) (h : Own w b0 2 v (ints row)) (hp : Own w b1 2 v1 (ints p)) (hl : row.length < 1000000) (hpl : p.length < 1000000) :
    Calls Try.prog 123 #[v1, .pointer (some ⟨b, 0, none⟩)] w fun e w' => e = .returned (.bool (decide (p = row))) ∧ Below w.heap.size w w' := by
  have he := hid (slEqual_any w b1 b0 v1 v p row hp h hpl hl (decide (p = row)) decide_eq_true_iff)
  obtain ⟨A, c, rfl, _, _⟩ := h.form
  clear h hp
  generalize decide (p = row) = r at *
  go_enter Try.func123, Try.ntmps123
  go_wp2_with (first
    | (go_at_call 124; (with_reducible refine (he.out).mono ?_); rintro e w1 ⟨rfl, d, rfl⟩))
  go_ret
  exact ⟨rfl, below_drewN (Below.refl _ _) d⟩
set_option maxHeartbeats 1000000 in
set_option maxRecDepth 100000 in
theorem indexFuncM_pn (b : Nat) (w : World) (base : Nat) (v : Value) (M : List (List Int)) (h : Mat w base v M) (hl : M.length < 2000000) (p : List Int → Bool)
    (hcall : ∀ W, Below w.heap.size w W → ∀ r row, row ∈ M → Own W base 2 r (ints row) → Calls Try.prog 123 #[r, .pointer (some ⟨b, 0, none⟩)] W fun e w' => e = .returned (.bool (p row)) ∧ Below W.heap.size W w') :
    Calls Try.prog 121 #[v, .func (.func 123) #[] #[.pointer (some ⟨b, 0, none⟩)]] w fun e w' => e = .returned (.int .i64 (idxP p M 0)) ∧ Below w.heap.size w w' := by
  obtain ⟨rows, hO, hrl, hrow⟩ := h
  obtain ⟨A1, c1, rfl, _, _⟩ := hO.form
  rw [hrl] at hO ⊢
  have hcell := hid (fun (k : Nat) (x : List Int) (hx : M[k]? = some x) => (show ∃ g r, A1 = some ⟨g, 0, none⟩ ∧ ∀ W, Below w.heap.size w W → W.cell? ⟨g, k, none⟩ = some r ∧ Own W base 2 r (ints x) from by
    have hk := (List.getElem?_eq_some_iff.1 hx).1
    obtain ⟨g1, c2, he, _, hg1⟩ := hO.blk (fun e => by rw [e] at hrl; rw [← hrl] at hk; simp at hk)
    injection he with e1 e2 e3
    subst e1
    obtain ⟨r, hr⟩ : ∃ r, rows[k]? = some r := ⟨_, List.getElem?_eq_getElem (by rw [hrl]; exact hk)⟩
    exact ⟨g1, r, rfl, fun W hW => ⟨(hO.below hW).cellAt k _ hr, (hrow k r x hr hx).below hW⟩⟩))
  replace hcall := hid hcall
  clear hO hrow
  obtain ⟨R, hR⟩ : ∃ R, R = idxP p M 0 := ⟨_, rfl⟩
  rw [← hR]
  replace hR := hid hR
  generalize hn : M.length = n at *
  replace hn := hid hn
  go_enter Try.func121, Try.ntmps121
  go_wp2
  go_loopw [8] (fun i wr => ∃ k : Nat, k ≤ n ∧ i = .int .i64 k ∧ Hid (R = idxP p (M.drop k) k) ∧ Below w.heap.size w wr) (fun i _ => n - (intOf i).toNat)
  case atStart => exact ⟨0, Nat.zero_le _, rfl, hR, Below.refl _ _⟩
  case round =>
    obtain ⟨k, hk, rfl, hA, rB⟩ := hrel
    clear hR
    replace rB := hid rB
    by_cases hlt : k < n
    · obtain ⟨x, hx⟩ : ∃ x, M[k]? = some x := ⟨_, List.getElem?_eq_getElem (by rw [hn.out]; exact hlt)⟩
      obtain ⟨g, r, rfl, hc⟩ := hcell.out k x hx
      have d1 := (hc wr rB.out).1
      have hcl := hid (hcall.out wr rB.out r x (List.mem_of_getElem? hx) (hc wr rB.out).2)
      have hT := hid (fun hp => idxP_drop_t (p := p) hx hp k)
      have hF := hid (fun hp => idxP_drop_f (p := p) hx hp k)
      clear hc hx
      cases hp : p x with
      | true =>
        rw [hp] at hcl
        have hA2 := hid (hA.out.trans (hT.out hp))
        clear hp hT hF
        go_wp2_with (first
          | (go_at_call 123; (with_reducible refine (hcl.out).mono ?_); rintro e w1 ⟨rfl, hb⟩; replace rB := hid (rB.out.trans (hb.mono rB.out.size)); clear hb))
        go_ret
        exact ⟨retI (by rw [hA2.out]), rB.out⟩
      | false =>
        rw [hp] at hcl
        have hA2 := hid (hA.out.trans (hF.out hp))
        clear hp hT hF
        go_wp2_with (first
          | (go_at_call 123; (with_reducible refine (hcl.out).mono ?_); rintro e w1 ⟨rfl, hb⟩; replace rB := hid (rB.out.trans (hb.mono rB.out.size)); clear hb))
        go_roundw
        case rel => exact ⟨k + 1, by omega, by go_num, hA2, rB.out⟩
        case measure => simp [intOf]; omega
    · obtain rfl : k = n := by omega
      have hA2 := hid (hA.out.trans (show _ = (-1 : Int) by rw [List.drop_eq_nil_of_le (by rw [hn.out]; exact Nat.le_refl _)]; rfl))
      go_wp2
      go_ret
      exact ⟨retI (by rw [hA2.out]), rB.out⟩
set_option maxHeartbeats 2000000 in
set_option maxRecDepth 4000 in
theorem permutationNumber_any (w : World) (b0 : Nat) (v : Value) (row : List Int) (h : Own w b0 2 v (ints row)) (hl : row.length < 1000000) :
    Calls Try.prog 66 #[v] w fun e w' => e = .returned (.int .i64 (pnI row)) ∧ Below w.heap.size w w' := by
  obtain ⟨A, c, rfl, _, _⟩ := h.form
  rw [ints_length] at h ⊢
  have hS := hid ((St.arg w h).newBlk #[.slice A row.length c] 22)
  have hmf : ∀ (fn : Fn) (first cap : Array Value) (w : World), (Instr.makeFunc fn first cap).run Try.prog w = .ok (.func fn first cap) w := fun _ _ _ _ => rfl
  have hle := hid (fun W => areLetters_any (row.length : Int) (decide (2 ≤ (row.length : Int) ∧ (row.length : Int) ≤ 3)) rfl W)
  have c0 := blkc hS.out.k0
  by_cases hd : row.length = 2 ∨ row.length = 3
  · rw [pnI_of hd]
    rw [decide_eq_true (by omega)] at hle
    have hp := hid (fun W => permutations_any row.length hd W)
    have hix := hid (fun W B vv (hM : Mat W B vv (prms row.length)) (h0 : W.cell? ⟨w.heap.size, 0, none⟩ = some (.slice A row.length c)) (hO : Own W 0 2 (.slice A row.length c) (ints row)) (hlt : w.heap.size < W.heap.size) =>
      (by have h := indexFuncM_pn w.heap.size W B vv (prms row.length) hM (by rw [prms_length]; rcases hd with h | h <;> rw [h] <;> decide) (fun p => decide (p = row)) (fun W' hW' r p hp hOr => pn1_any w.heap.size W' 0 B _ r row p ((hW'.cell hlt).trans h0) (hO.below hW') hOr hl (by
        have : p.length ≤ 3 := by
          rcases hd with hd | hd <;> rw [hd] at hp <;> simp [prms] at hp
          · rcases hp with rfl | rfl <;> decide
          · rcases hp with rfl | rfl | rfl | rfl | rfl | rfl <;> decide
        omega)); exact h : Calls Try.prog 121 #[vv, .func (.func 123) #[] #[.pointer (some ⟨w.heap.size, 0, none⟩)]] W fun e w' => e = .returned (.int .i64 (pnm row)) ∧ Below W.heap.size W w'))
    replace h := hid h
    generalize pnm row = R at *
    generalize prms row.length = P at *
    clear hl
    generalize hn : row.length = n at *
    clear hd hn
    go_enter Try.func66, Try.ntmps66
    go_wp2_with (first
      | (go_at_call 120; (with_reducible refine (hle.out _).mono ?_); rintro e w' ⟨rfl, rfl⟩)
      | (go_at_call 122; (with_reducible refine (hp.out _).mono ?_); rintro e w1 ⟨vv, rfl, hM, hb⟩; replace hS := hid (hS.out.call hb); replace hM := hid hM; clear hb c0)
      | (go_at_call 121; (with_reducible refine (hix.out _ _ _ hM.out (blkc hS.out.k0) hS.out.o1 (Array.getElem?_eq_some_iff.1 hS.out.k0).1).mono ?_); rintro e w2 ⟨rfl, hb⟩; replace hS := hid (hS.out.call hb); clear hb))
    go_ret
    exact ⟨rfl, hS.out.bel⟩
  · have hR := hid (show pnI row = -1 by unfold pnI; rw [if_neg hd])
    rw [hR.out]
    rw [decide_eq_false (by omega)] at hle
    replace h := hid h
    clear hl hR
    generalize hn : row.length = n at *
    clear hd hn
    go_enter Try.func66, Try.ntmps66
    go_wp2_with (first
      | (go_at_call 120; (with_reducible refine (hle.out _).mono ?_); rintro e w' ⟨rfl, rfl⟩))
    go_ret
    exact ⟨rfl, hS.out.bel⟩
/-- What a state does to the letters. -/
def rowM (m : Mach) (l q : Nat) : List Int := rwI (fun q x => m.ot (q * 3 + x)) q l
/-- The portrait of a state. -/
def prtM (m : Mach) (l q n : Nat) : List Int := byL l (fun u => pnm (rowM m l (sec m q u))) n
set_option maxHeartbeats 1000000 in
theorem pof1_any (w : World) (bm b1 b9 G : Nat) (m : Mach) (l s : Nat) (gd : Good m l s) (q : Nat) (hq : q < s) (hm : MB w 34 bm m) (h1 : w.cell? ⟨b1, 0, none⟩ = some (.int .i64 q)) (h9 : w.cell? ⟨b9, 0, none⟩ = some (.pointer (some ⟨G, 0, none⟩))) (hb9 : b9 < w.heap.size) (vN vO : Value) (hT : TB w G vN vO (tabOf m l s))
    (u : List Nat) (hu : ∀ x ∈ u, x < l) (hlen : u.length ≤ 40) :
    Calls Try.prog 64 #[.string (wstr u), .pointer (some ⟨bm, 0, none⟩), .pointer (some ⟨b1, 0, none⟩), .pointer (some ⟨b9, 0, none⟩)] w fun e w' => e = .returned (.int .i64 (pnm (rowM m l (sec m q u)))) ∧ Below w.heap.size w w' := by
  have hl := hid (lead_any bm w m hm l s gd q hq u hu (by omega))
  have hr := sec_lt gd u q hq hu
  have l2 := gd.l2
  have l3 := gd.l3
  have s1 := gd.s1
  have s16 := gd.s16
  have hrl : (rowM m l (sec m q u)).length = l := rwI_length _ _ _
  have hpn := hid (fun W b v (hO : Own W b 2 v (ints (rowM m l (sec m q u)))) => (by have h := permutationNumber_any W b v _ hO (by omega); rw [pnI_of (by omega)] at h; exact h : Calls Try.prog 66 #[v] W fun e w' => e = .returned (.int .i64 (pnm (rowM m l (sec m q u)))) ∧ Below W.heap.size W w'))
  have htl := tbL_length (tabOf m l s).ot (tabOf m l s).n (tabOf m l s).L
  obtain ⟨gO, cO, rfl, _, _⟩ := hT.2.2.blk (fun e => by rw [e] at htl; simp [tabOf] at htl; omega)
  have htl2 : (tbL (tabOf m l s).ot (tabOf m l s).n (tabOf m l s).L).length = s := htl
  rw [htl2] at hT
  have hrow := hid (fun W (hW : Below w.heap.size w W) => (show W.cell? ⟨b9, 0, none⟩ = some (.pointer (some ⟨G, 0, none⟩)) ∧ W.cell? ⟨G, 1, none⟩ = some (.slice (some ⟨gO, 0, none⟩) s cO) ∧ ∃ r, W.cell? ⟨gO, sec m q u, none⟩ = some r ∧ Own W G 2 r (ints (rowM m l (sec m q u))) from by
    have h := hT.below hW
    exact ⟨(hW.cell hb9).trans h9, h.c1, h.2.2.row (sec m q u) _ (tbL_get _ _ _ _ hr)⟩))
  replace hm := hid hm; replace gd := hid gd; replace hT := hid hT
  clear h9 hrl htl htl2
  generalize pnm (rowM m l (sec m q u)) = R at *
  generalize rowM m l (sec m q u) = row at *
  generalize sec m q u = r at *
  have r0 : (0 : Int) ≤ (r : Int) := Int.natCast_nonneg _
  have r1 : (r : Int) < (s : Int) := by omega
  generalize img m q u = im at *
  clear hu
  have hS := hid (Below.refl w.heap.size w)
  go_enter Try.func64, Try.ntmps64
  go_wp2_with (first
    | (go_at_call 65; (with_reducible refine (hl.out).mono ?_); rintro e w1 ⟨rfl, hb⟩; obtain ⟨c1, c2, rr, c3, hO⟩ := hrow.out _ hb; replace hS := hid hb; replace hO := hid hO; obtain ⟨Ar, cr, rfl, _, _⟩ := hO.out.form; clear hb)
    | (go_at_call 66; (with_reducible refine (hpn.out _ _ _ hO.out).mono ?_); rintro e w2 ⟨rfl, hb⟩; replace hS := hid (hS.out.trans (hb.mono hS.out.size)); clear hb))
  go_ret
  exact ⟨rfl, hS.out⟩
set_option maxHeartbeats 2000000 in
set_option maxRecDepth 100000 in
theorem portraitBy_pof (bm b1 b9 : Nat) (d n : Nat) (hd : d = 2 ∨ d = 3) (hn : n ≤ 5) (w : World) (F : List Nat → Int)
    (hf : ∀ W, Below w.heap.size w W → ∀ u, u.length < n → (∀ x ∈ u, x < d) → Calls Try.prog 64 #[.string (wstr u), .pointer (some ⟨bm, 0, none⟩), .pointer (some ⟨b1, 0, none⟩), .pointer (some ⟨b9, 0, none⟩)] W fun e W' => e = .returned (.int .i64 (F u)) ∧ Below W.heap.size W W') :
    Calls Try.prog 54 #[.int .i64 d, .int .i64 n, .func (.func 64) #[] #[.pointer (some ⟨bm, 0, none⟩), .pointer (some ⟨b1, 0, none⟩), .pointer (some ⟨b9, 0, none⟩)]] w fun e w' => ∃ v, e = .returned v ∧ Own w' w.heap.size 2 v (ints (byL d F n)) ∧ Below w.heap.size w w' := by
  have hl := hid (fun k (hk : k < n) W => level_any d k (by omega) (by omega) (by omega) (by have := pw5 (n := k) hd (by omega); omega) W)
  have hlen := hid (fun k M => lvl_length d k M)
  have hpos := hid (fun k => pw_pos d (by omega) k)
  have hp5 := hid (fun k (hk : k < n) => pw5 (n := k) hd (by omega))
  have hwl := hid (fun k j => wrd_length d k j)
  have hwm := hid (fun k j => wrd_lt d (by omega) k j)
  have hst := hid (fun k (hk : k < n) => (show start d k ≤ 243 by
    have := start_pw d (by omega) k
    have h2 : start d k ≤ start d k * (d - 1) := Nat.le_mul_of_pos_right _ (by omega)
    have h3 := pw5 (n := k) hd (by omega)
    omega))
  replace hf := hid hf
  have hS := hid (St.start w)
  clear hd
  go_enter Try.func54, Try.ntmps54
  replace hS := hid (hS.out.nilOwn 2)
  go_wp2
  go_loopw [7, 12] (fun o i wr => ∃ k : Nat, k ≤ n ∧ i = .int .i64 k ∧ St w.heap.size w [Asn.own w.heap.size 2 o (ints (byL d F k))] wr) (fun _ i _ => n - (intOf i).toNat)
  case atStart => exact ⟨0, Nat.zero_le _, rfl, hS.out⟩
  case round =>
    obtain ⟨k, hk, rfl, rS⟩ := hrel
    clear hS
    replace rS := hid rS
    by_cases hlk : k < n
    · have dk : decide ((k : Int) < (n : Int)) = true := decide_eq_true (by omega)
      have hlv := hid (hl.out k hlk)
      have hM0 := hpos.out k
      have hM1 := hp5.out k hlk
      have hll := hid (hlen.out k (pw d k))
      have hs1 := hst.out k hlk
      have hget := hid (fun j (hj : j < pw d k) => lvl_get d k (pw d k) j hj)
      have hend := hid (byP_full d F k)
      generalize pw d k = M at *
      go_wp2_with (first
        | (go_at_call 107; (with_reducible refine (hlv.out _).mono ?_); rintro e w1 ⟨v, rfl, hO, hb⟩; obtain ⟨g, cap, rfl, _, _⟩ := hO.blk (fun e => by have h := hll.out; rw [e] at h; simp at h; omega); rw [hll.out] at hO; rw [hll.out]; replace rS := hid (rS.out.callOwn hb hO); clear hO hb))
      go_loopw [7, 19] (fun o i wr => ∃ j : Nat, j ≤ M ∧ i = .int .i64 j ∧ St w.heap.size w [Asn.own w.heap.size 2 o (ints (byP d F k j)), Asn.own w.heap.size 9 (.slice (some ⟨g, 0, none⟩) M cap) (lvl d k M)] wr) (fun _ i _ => M - (intOf i).toNat)
      case atStart => exact ⟨0, Nat.zero_le _, rfl, by rw [byP_zero]; exact rS.out.f1⟩
      case round =>
        obtain ⟨j, hj, rfl, rS⟩ := hrel
        have ck := fun (h : j < M) => rS.o1.cellAt j _ (hget.out j h)
        replace rS := hid rS
        by_cases hlj : j < M
        · have dj : decide ((j : Int) < (M : Int)) = true := decide_eq_true (by omega)
          replace ck := ck hlj
          have hfj := hid (hf.out _ rS.out.bel (wrd d k j) (by rw [hwl.out]; exact hlk) (hwm.out k j))
          have hsn := hid (byP_snoc d F k j)
          have hil := hid (ints_length (byP d F k j))
          have hbl := hid (byP_length d F k j)
          generalize wrd d k j = u at *
          generalize F u = fu at *
          go_wp2_with (first
            | (go_at_call 64; (with_reducible refine (hfj.out).mono ?_); rintro e w2 ⟨rfl, hb⟩; replace rS := hid (rS.out.call hb); clear hb ck hfj)
            | ((with_reducible refine gate (N := 28) rfl ?_); refine St.app 22 2 (.int .i64 0) 8 Try.underlying22 info_i64 rfl (by omega) rfl _ _ rfl _ _ rfl rS.out _ rfl rfl (start d k + j) (by rw [hil.out, hbl.out]) (by omega) ?_; intro gn cn w5 rS'; replace rS := hid rS'; clear rS'))
          rw [← ints_snoc, ← hsn.out] at rS
          go_roundw
          case rel => exact ⟨j + 1, by omega, by go_num, rS.out⟩
          case measure => simp [intOf]; omega
        · obtain rfl : j = M := by omega
          clear ck
          rw [hend.out] at rS
          go_wp2
          go_roundw
          case rel => exact ⟨k + 1, by omega, by go_num, rS.out.f1.drop⟩
          case measure => simp [intOf]; omega
    · obtain rfl : k = n := by omega
      go_wp2
      go_ret
      exact ⟨_, rfl, rS.out.o0, rS.out.bel⟩
open Classical in
/-- What PortraitOf answers. -/
noncomputable def pofAns (m : Mach) (q n : Int) : List Int × Int :=
  if codeI m { data := #[] } [q] = 0 then (if 1 ≤ n ∧ n ≤ 4 then (prtM m m.L.toNat q.toNat n.toNat, 0) else ([], 2)) else ([], codeI m { data := #[] } [q])
theorem codeI1 (m : Mach) (q : Int) : (codeI m { data := #[] } [q] = 1 ∧ ¬ IsM m) ∨ (codeI m { data := #[] } [q] = 2 ∧ IsM m ∧ ¬ (0 ≤ q ∧ q < m.S)) ∨ (codeI m { data := #[] } [q] = 0 ∧ ∃ (l s k : Nat), Good m l s ∧ q = k ∧ k < s) := by
  unfold codeI
  by_cases h : IsM m
  · rw [if_pos ⟨h, isWd_nil _⟩]
    by_cases h2 : 0 ≤ q ∧ q < m.S
    · rw [if_pos (by simpa using h2)]
      obtain ⟨l, s, gd⟩ := h.good
      rw [gd.S] at h2
      exact .inr (.inr ⟨rfl, l, s, q.toNat, gd, by omega, by omega⟩)
    · rw [if_neg (by simpa using h2)]
      exact .inr (.inl ⟨rfl, h, h2⟩)
  · rw [if_neg (fun h' => h h'.1)]
    exact .inl ⟨rfl, h⟩
theorem pofAns_c {m : Mach} {q n c : Int} (h : codeI m { data := #[] } [q] = c) (hc : c ≠ 0) : pofAns m q n = ([], c) := by unfold pofAns; rw [h, if_neg hc]
theorem pofAns_0 {m : Mach} {l s k n : Nat} (gd : Good m l s) (h : codeI m { data := #[] } [(k : Int)] = 0) (hn : 1 ≤ n ∧ n ≤ 4) : pofAns m k n = (prtM m l k n, 0) := by
  unfold pofAns; rw [if_pos h, if_pos (by omega), gd.L]; rfl
theorem pofAns_2 {m : Mach} {q n : Int} (h : codeI m { data := #[] } [q] = 0) (hn : ¬ (1 ≤ n ∧ n ≤ 4)) : pofAns m q n = ([], 2) := by
  unfold pofAns; rw [if_pos h, if_neg hn]
set_option maxHeartbeats 4000000 in
set_option maxRecDepth 4000 in
theorem implPof_any (w : World) (m : Mach) (hk : m.Ok) (q n : Int) :
    Calls Try.prog 23 #[.agg (mcells m), .int .i64 q, .int .i64 n] w fun e w' => ∃ v', e = .returned (.tuple #[v', .int .i64 (pofAns m q n).2]) ∧ Own w' w.heap.size 2 v' (ints (pofAns m q n).1) ∧ Below w.heap.size w w' := by
  have hM := ((St.start w).newMB m 34).newBlk #[.int .i64 q] 2
  have hS := hM.newOwn [.int .i64 q] 2 (by simp)
  simp only [heap_alloc_size, List.length_cons, List.length_nil, Nat.zero_add] at hS hM
  replace hS := hid hS; replace hM := hid hM
  have hmf : ∀ (fn : Fn) (first cap : Array Value) (w : World), (Instr.makeFunc fn first cap).run Try.prog w = .ok (.func fn first cap) w := fun _ _ _ _ => rfl
  have hco := hid (fun W v (hO : Own W w.heap.size 2 v [.int .i64 q]) => codeOf_any W m hk { data := #[] } (by decide) w.heap.size v [q] hO (by simp))
  have c1' := blkc hM.out.k0
  have hwi := hid (fun W => within_any n 1 4 (decide (1 ≤ n ∧ n ≤ 4)) rfl W)
  rcases codeI1 m q with ⟨hc, _⟩ | ⟨hc, _⟩ | ⟨hc, l, s, k, gd, rfl, hks⟩
  · rw [pofAns_c hc (by decide)]
    rw [hc] at hco
    replace hk := hid hk
    go_enter Try.func23, Try.ntmps23
    go_wp2_with (first
      | ((with_reducible refine gate (N := 10) rfl ?_); refine load_mach rfl _ rfl w.heap.size rfl m hM.out.m1 ?_)
      | (go_at_call 61; (with_reducible refine (hco.out _ _ hS.out.o0).mono ?_); rintro e w1 ⟨rfl, hb⟩; replace hS := hid (hS.out.call hb).drop; have c1 := blkc hS.out.k0; clear hb)
      | (go_at_call 62; (with_reducible refine (hwi.out _).mono ?_); rintro e w' ⟨rfl, rfl⟩))
    go_ret2
    exact ⟨_, rfl, Own.nil _ _ _, hS.out.bel⟩
  · rw [pofAns_c hc (by decide)]
    rw [hc] at hco
    replace hk := hid hk
    go_enter Try.func23, Try.ntmps23
    go_wp2_with (first
      | ((with_reducible refine gate (N := 10) rfl ?_); refine load_mach rfl _ rfl w.heap.size rfl m hM.out.m1 ?_)
      | (go_at_call 61; (with_reducible refine (hco.out _ _ hS.out.o0).mono ?_); rintro e w1 ⟨rfl, hb⟩; replace hS := hid (hS.out.call hb).drop; have c1 := blkc hS.out.k0; clear hb)
      | (go_at_call 62; (with_reducible refine (hwi.out _).mono ?_); rintro e w' ⟨rfl, rfl⟩))
    go_ret2
    exact ⟨_, rfl, Own.nil _ _ _, hS.out.bel⟩
  · by_cases hn : 1 ≤ n ∧ n ≤ 4
    · obtain ⟨n, rfl⟩ := Int.eq_ofNat_of_zero_le (show 0 ≤ n by omega)
      rw [pofAns_0 gd hc (by omega)]
      rw [hc] at hco
      rw [decide_eq_true hn] at hwi
      have l2 := gd.l2
      have l3 := gd.l3
      have gL := hid gd.L
      have htb := hid (fun W (hW : MB W 34 w.heap.size m) => table_any w.heap.size W m hW l s gd)
      have hby := hid (fun W b9 G vN vO (hS : St w.heap.size w [Asn.blk b9 #[.pointer (some ⟨G, 0, none⟩)] 71, Asn.blk (w.heap.size + 1) #[.int .i64 k] 2, Asn.mb 34 w.heap.size m] W) (hT : TB W G vN vO (tabOf m l s)) (hlt : b9 < W.heap.size) =>
        portraitBy_pof w.heap.size (w.heap.size + 1) b9 l n (by omega) (by omega) W (fun u => pnm (rowM m l (sec m k u))) (fun W' hW' u hu hx =>
          pof1_any W' w.heap.size (w.heap.size + 1) b9 G m l s gd k hks (hS.call hW').m2 (blkc (hS.call hW').k1) (blkc (hS.call hW').k0) (Nat.lt_of_lt_of_le hlt hW'.size) vN vO (hT.below hW') u hx (by omega)))
      have hsA := hid (fun W (b : Nat) (L : List Asn) (u : Value) (hb : w.heap.size ≤ b) (h : St w.heap.size w (Asn.blk b #[.pointer none] 71 :: L) W) => h.setBlk hb 0 u)
      replace hk := hid hk; replace gd := hid gd
      clear hn hc
      go_enter Try.func23, Try.ntmps23
      go_upto_region 7 with (first
        | ((with_reducible refine gate (N := 10) rfl ?_); refine load_mach rfl _ rfl w.heap.size rfl m hM.out.m1 ?_)
        | (go_at_call 63; (with_reducible refine (htb.out _ hS.out.m1).mono ?_); rintro e w2 ⟨vN, vO, rfl, hT, hb⟩; (have hle := hid (show w.heap.size ≤ w1.heap.size from hS.out.le)); replace hS := hid (hS.out.call hb); replace hT := hid hT; clear hb c1)
        | (go_at_call 61; (with_reducible refine (hco.out _ _ hS.out.o0).mono ?_); rintro e w1 ⟨rfl, hb⟩; replace hS := hid (hS.out.call hb).drop; have c1 := blkc hS.out.k0; clear hb)
        | (go_at_call 62; (with_reducible refine (hwi.out _).mono ?_); rintro e w' ⟨rfl, rfl⟩))
      have hle9 := hid (show w2.heap.size < (w2.alloc (.cells #[.pointer (some ⟨w1.heap.size, 0, none⟩)] 71)).heap.size by rw [heap_alloc_size]; omega)
      replace hT := hid (hT.out.below (Below.alloc (Below.refl _ w2) (Nat.le_refl _) (.cells #[.pointer (some ⟨w1.heap.size, 0, none⟩)] 71)))
      replace hS := hid (hS.out.newBlk #[.pointer (some ⟨w1.heap.size, 0, none⟩)] 71)
      generalize w2.alloc (.cells #[.pointer (some ⟨w1.heap.size, 0, none⟩)] 71) = w3 at *
      generalize w2.heap.size = b9 at *
      generalize w1.heap.size = G at *
      have cL := hS.out.m2.cL
      rw [gL.out] at cL
      go_wp2_with (first
        | (go_at_call 54; (with_reducible refine (hby.out _ _ _ _ _ hS.out hT.out hle9.out).mono ?_); rintro e w4 ⟨v3, rfl, hO, hb⟩; replace hS := hid (hS.out.callOwn hb hO); clear hO hb cL))
      go_ret2
      exact ⟨_, rfl, hS.out.o0, hS.out.bel⟩
    · rw [pofAns_2 hc hn]
      rw [hc] at hco
      rw [decide_eq_false hn] at hwi
      replace hk := hid hk; replace gd := hid gd
      go_enter Try.func23, Try.ntmps23
      go_wp2_with (first
        | ((with_reducible refine gate (N := 10) rfl ?_); refine load_mach rfl _ rfl w.heap.size rfl m hM.out.m1 ?_)
        | (go_at_call 61; (with_reducible refine (hco.out _ _ hS.out.o0).mono ?_); rintro e w1 ⟨rfl, hb⟩; replace hS := hid (hS.out.call hb).drop; have c1 := blkc hS.out.k0; clear hb)
        | (go_at_call 62; (with_reducible refine (hwi.out _).mono ?_); rintro e w' ⟨rfl, rfl⟩))
      go_ret2
      exact ⟨_, rfl, Own.nil _ _ _, hS.out.bel⟩
end Go.Proofs.Ythempofohidlnaa

/- SectionOfPortrait: what the program answers. -/
namespace Go.Proofs.Ythempofohidlnaa
open Go.RowKit
set_option linter.unusedVariables false
set_option linter.unusedSimpArgs false
-- @LONG

open Classical in
/-- What SectionOfPortrait answers. -/
noncomputable def sopAns (d n : Int) (g : List Int) (ws : ByteArray) : List Int × Int :=
  if pcode d n [g] = 0 then (if IsWd d ws then (if (ws.size : Int) < n then (byL d.toNat (fun u => gAt d.toNat g (lets ws ++ u)) (n.toNat - ws.size), 0) else ([], 2)) else ([], 1)) else ([], pcode d n [g])
theorem pcode_cases (d n : Int) (g : List Int) : pcode d n [g] = 1 ∨ pcode d n [g] = 2 ∨ (pcode d n [g] = 0 ∧ ∃ (a b : Nat), d = a ∧ n = b ∧ (a = 2 ∨ a = 3) ∧ 1 ≤ b ∧ b ≤ 4 ∧ IsP a b g) := by
  unfold pcode
  by_cases h : IsD d n
  · rw [if_pos h]
    obtain ⟨a, b, rfl, rfl, h1, h2, h3⟩ := h.nat
    by_cases h4 : IsP a b g
    · rw [if_pos (by simpa using h4)]
      exact .inr (.inr ⟨rfl, a, b, rfl, rfl, h1, h2, h3, h4⟩)
    · rw [if_neg (by simpa using h4)]
      exact .inl rfl
  · rw [if_neg h]
    exact .inr (.inl rfl)
theorem gAt_in {d n : Nat} {g : List Int} (hd : d = 2 ∨ d = 3) (hg : IsP d n g) (u : List Nat) (hu : ∀ x ∈ u, x < d) (hn : u.length < n) :
    start d u.length + num d u < g.length ∧ g[start d u.length + num d u]? = some (gAt d g u) := by
  have h1 := num_lt d u.length u rfl hu
  have h2 : start d (u.length + 1) = start d u.length + pw d u.length := rfl
  have h3 := start_mono d (u.length + 1) (n - (u.length + 1))
  rw [show u.length + 1 + (n - (u.length + 1)) = n by omega] at h3
  have h4 : start d u.length + num d u < g.length := by rw [hg.1]; omega
  exact ⟨h4, by unfold gAt; rw [List.getD_eq_getElem?_getD, List.getElem?_eq_getElem h4]; rfl⟩
theorem gAt_range {d n : Nat} {g : List Int} (hd : d = 2 ∨ d = 3) (hg : IsP d n g) (u : List Nat) (hu : ∀ x ∈ u, x < d) (hn : u.length < n) : 0 ≤ gAt d g u ∧ gAt d g u < (cnt d : Int) :=
  hg.2 _ (List.mem_of_getElem? (gAt_in hd hg u hu hn).2)
theorem mat1 {W : World} {b : Nat} {vv r : Value} {g : List Int} (h : Own W b 22 vv [r]) (hr : Own W b 2 r (ints g)) : Mat W b vv [g] :=
  ⟨_, h, rfl, fun i r' l h1 h2 => by
    match i, h1, h2 with
    | 0, h1, h2 => simp at h1 h2; subst h1; subst h2; exact hr
    | i + 1, h1, h2 => simp at h1⟩
section
variable {ops : Array Oper} {C : World → Prop} {Q : Act → Prop} {a : Act} {o : Oper} {rest : List Oper}
/-- Two texts joined, in a region that only reads. -/
theorem quiet_add (hw : Region.wanted o (yielded ops a.tmps) = true) (x y : Operand) (t t2 : TypeId) (ho : o.op = .binOp .add t x y t2) (s1 s2 : ByteArray) (hx : a.eval x = .string s1) (hy : a.eval y = .string s2) (hs : s1.size + s2.size ≤ 9223372036854775807)
    (h : wpQuiet Try.prog ops C Q rest (a.put o.dst (.string (s1 ++ s2)))) : wpQuiet Try.prog ops C Q (o :: rest) a :=
  BigFrame.wpQuiet_want hw fun K hK => ⟨.string (s1 ++ s2), fun w _ => by
    have e : (execOp a.eval o).run Try.prog w = .ok (.value (.string (s1 ++ s2))) w := by
      unfold execOp
      simp only [ho, hx, hy]
      have e2 : (Op.stringOp .add s1 s2).run Try.prog w = .ok (.string (s1 ++ s2)) w := by apply run_string_add_sum; exact hs
      simp [go_sem, e2]
    unfold Oper.quietAt
    rw [e]
    exact ⟨rfl, rfl⟩, hK _ h⟩
end
set_option maxHeartbeats 1000000 in
theorem sop1_any (base : Nat) (w0 w : World) (b3 b2 b1 : Nat) (d n : Nat) (hd : d = 2 ∨ d = 3) (hn : n ≤ 4) (v : Value) (g : List Int) (hg : IsP d n g) (z : List Nat) (hz : ∀ x ∈ z, x < d)
    (hS : St base w0 [Asn.blk b3 #[.string (wstr z)] 9, Asn.blk b2 #[v] 22, Asn.blk b1 #[.int .i64 d] 2, Asn.own 0 2 v (ints g)] w)
    (u : List Nat) (hu : ∀ x ∈ u, x < d) (hlen : z.length + u.length < n) :
    Calls Try.prog 55 #[.string (wstr u), .pointer (some ⟨b2, 0, none⟩), .pointer (some ⟨b1, 0, none⟩), .pointer (some ⟨b3, 0, none⟩)] w fun e w' => e = .returned (.int .i64 (gAt d g (z ++ u))) ∧ Below w.heap.size w w' := by
  have hzu : ∀ x ∈ z ++ u, x < d := fun x hx => (List.mem_append.1 hx).elim (hz x) (hu x)
  have hil := ints_length g
  obtain ⟨A, c, rfl, _, _⟩ := hS.o3.form
  rw [hil] at hS
  have c1 := blkc hS.k2
  have c2 := blkc hS.k1
  have c3 := blkc hS.k0
  have hin := gAt_in hd hg (z ++ u) hzu (by simp; omega)
  obtain ⟨ga, rfl⟩ : ∃ ga, A = some ⟨ga, 0, none⟩ := by
    obtain ⟨ga, ca, he, _⟩ := hS.o3.blk (fun e => by have h : g.length = 0 := by rw [← hil, e]; rfl
                                                     have := hin.1; omega)
    injection he with e1
    exact ⟨ga, e1⟩
  have co : w.cell? ⟨ga, start d (z ++ u).length + num d (z ++ u), none⟩ = some (.int .i64 (gAt d g (z ++ u))) := hS.o3.cellAt _ _ (by simp only [ints, List.getElem?_map, hin.2]; rfl)
  have hpl := hid (fun W => (by have h := place_any d hd (z ++ u) hzu (by simp; omega) W; rw [wstr_append] at h; exact h : Calls Try.prog 56 #[.int .i64 d, .string (wstr z ++ wstr u)] W fun e w' => e = .returned (.int .i64 (start d (z ++ u).length + num d (z ++ u) : Nat)) ∧ W = w'))
  have hi2 := hin.1
  generalize start d (z ++ u).length + num d (z ++ u) = ix at *
  have i0 : (0 : Int) ≤ (ix : Int) := Int.natCast_nonneg _
  have i1 : (ix : Int) < (g.length : Int) := by omega
  generalize gAt d g (z ++ u) = R at *
  have hadd : (wstr z).size + (wstr u).size ≤ 9223372036854775807 := by rw [wstr_size, wstr_size]; omega
  clear hu hz hzu hin
  generalize wstr z = sz at *
  generalize wstr u = su at *
  have hbel := hid (fun m => below_drewN (Below.refl w.heap.size w) m)
  replace hS := hid hS; replace hg := hid hg
  go_enter Try.func55, Try.ntmps55
  go_upto_region 1 with (fail)
  refine wp_region_quiet_lit (by kernel_rfl) (by kernel_rfl) ?_
  quiet_step (fail)
  quiet_step (fail)
  quiet_step (fail)
  quiet_step (fail)
  refine quiet_add rfl _ _ _ _ rfl sz su rfl rfl hadd ?_
  repeat (quiet_step ((go_at_call 56; exact quiet_same (hpl.out _))))
  refine wpQuiet_nil ?_
  rintro _ ⟨nq, rfl⟩
  go_wp2
  go_ret
  exact ⟨rfl, hbel.out _⟩
set_option maxHeartbeats 2000000 in
set_option maxRecDepth 100000 in
theorem portraitBy_sop (b3 b2 b1 : Nat) (d n : Nat) (hd : d = 2 ∨ d = 3) (hn : n ≤ 5) (w : World) (F : List Nat → Int)
    (hf : ∀ W, Below w.heap.size w W → ∀ u, u.length < n → (∀ x ∈ u, x < d) → Calls Try.prog 55 #[.string (wstr u), .pointer (some ⟨b2, 0, none⟩), .pointer (some ⟨b1, 0, none⟩), .pointer (some ⟨b3, 0, none⟩)] W fun e W' => e = .returned (.int .i64 (F u)) ∧ Below W.heap.size W W') :
    Calls Try.prog 54 #[.int .i64 d, .int .i64 n, .func (.func 55) #[] #[.pointer (some ⟨b2, 0, none⟩), .pointer (some ⟨b1, 0, none⟩), .pointer (some ⟨b3, 0, none⟩)]] w fun e w' => ∃ v, e = .returned v ∧ Own w' w.heap.size 2 v (ints (byL d F n)) ∧ Below w.heap.size w w' := by
  have hl := hid (fun k (hk : k < n) W => level_any d k (by omega) (by omega) (by omega) (by have := pw5 (n := k) hd (by omega); omega) W)
  have hlen := hid (fun k M => lvl_length d k M)
  have hpos := hid (fun k => pw_pos d (by omega) k)
  have hp5 := hid (fun k (hk : k < n) => pw5 (n := k) hd (by omega))
  have hwl := hid (fun k j => wrd_length d k j)
  have hwm := hid (fun k j => wrd_lt d (by omega) k j)
  have hst := hid (fun k (hk : k < n) => (show start d k ≤ 243 by
    have := start_pw d (by omega) k
    have h2 : start d k ≤ start d k * (d - 1) := Nat.le_mul_of_pos_right _ (by omega)
    have h3 := pw5 (n := k) hd (by omega)
    omega))
  replace hf := hid hf
  have hS := hid (St.start w)
  clear hd
  go_enter Try.func54, Try.ntmps54
  replace hS := hid (hS.out.nilOwn 2)
  go_wp2
  go_loopw [7, 12] (fun o i wr => ∃ k : Nat, k ≤ n ∧ i = .int .i64 k ∧ St w.heap.size w [Asn.own w.heap.size 2 o (ints (byL d F k))] wr) (fun _ i _ => n - (intOf i).toNat)
  case atStart => exact ⟨0, Nat.zero_le _, rfl, hS.out⟩
  case round =>
    obtain ⟨k, hk, rfl, rS⟩ := hrel
    clear hS
    replace rS := hid rS
    by_cases hlk : k < n
    · have dk : decide ((k : Int) < (n : Int)) = true := decide_eq_true (by omega)
      have hlv := hid (hl.out k hlk)
      have hM0 := hpos.out k
      have hM1 := hp5.out k hlk
      have hll := hid (hlen.out k (pw d k))
      have hs1 := hst.out k hlk
      have hget := hid (fun j (hj : j < pw d k) => lvl_get d k (pw d k) j hj)
      have hend := hid (byP_full d F k)
      generalize pw d k = M at *
      go_wp2_with (first
        | (go_at_call 107; (with_reducible refine (hlv.out _).mono ?_); rintro e w1 ⟨v, rfl, hO, hb⟩; obtain ⟨g, cap, rfl, _, _⟩ := hO.blk (fun e => by have h := hll.out; rw [e] at h; simp at h; omega); rw [hll.out] at hO; rw [hll.out]; replace rS := hid (rS.out.callOwn hb hO); clear hO hb))
      go_loopw [7, 19] (fun o i wr => ∃ j : Nat, j ≤ M ∧ i = .int .i64 j ∧ St w.heap.size w [Asn.own w.heap.size 2 o (ints (byP d F k j)), Asn.own w.heap.size 9 (.slice (some ⟨g, 0, none⟩) M cap) (lvl d k M)] wr) (fun _ i _ => M - (intOf i).toNat)
      case atStart => exact ⟨0, Nat.zero_le _, rfl, by rw [byP_zero]; exact rS.out.f1⟩
      case round =>
        obtain ⟨j, hj, rfl, rS⟩ := hrel
        have ck := fun (h : j < M) => rS.o1.cellAt j _ (hget.out j h)
        replace rS := hid rS
        by_cases hlj : j < M
        · have dj : decide ((j : Int) < (M : Int)) = true := decide_eq_true (by omega)
          replace ck := ck hlj
          have hfj := hid (hf.out _ rS.out.bel (wrd d k j) (by rw [hwl.out]; exact hlk) (hwm.out k j))
          have hsn := hid (byP_snoc d F k j)
          have hil := hid (ints_length (byP d F k j))
          have hbl := hid (byP_length d F k j)
          generalize wrd d k j = u at *
          generalize F u = fu at *
          go_wp2_with (first
            | (go_at_call 55; (with_reducible refine (hfj.out).mono ?_); rintro e w2 ⟨rfl, hb⟩; replace rS := hid (rS.out.call hb); clear hb ck hfj)
            | ((with_reducible refine gate (N := 28) rfl ?_); refine St.app 22 2 (.int .i64 0) 8 Try.underlying22 info_i64 rfl (by omega) rfl _ _ rfl _ _ rfl rS.out _ rfl rfl (start d k + j) (by rw [hil.out, hbl.out]) (by omega) ?_; intro gn cn w5 rS'; replace rS := hid rS'; clear rS'))
          rw [← ints_snoc, ← hsn.out] at rS
          go_roundw
          case rel => exact ⟨j + 1, by omega, by go_num, rS.out⟩
          case measure => simp [intOf]; omega
        · obtain rfl : j = M := by omega
          clear ck
          rw [hend.out] at rS
          go_wp2
          go_roundw
          case rel => exact ⟨k + 1, by omega, by go_num, rS.out.f1.drop⟩
          case measure => simp [intOf]; omega
    · obtain rfl : k = n := by omega
      go_wp2
      go_ret
      exact ⟨_, rfl, rS.out.o0, rS.out.bel⟩
open Classical in
theorem sopAns_p {d n : Int} {g : List Int} {ws : ByteArray} {c : Int} (h : pcode d n [g] = c) (hc : c ≠ 0) : sopAns d n g ws = ([], c) := by unfold sopAns; rw [h, if_neg hc]
open Classical in
theorem sopAns_0 {d n : Nat} {g : List Int} {ws : ByteArray} (h : pcode d n [g] = 0) : sopAns d n g ws = if IsWd d ws then (if (ws.size : Int) < n then (byL d (fun u => gAt d g (lets ws ++ u)) (n - ws.size), 0) else ([], 2)) else ([], 1) := by unfold sopAns; rw [h, if_pos rfl]; rfl
set_option maxHeartbeats 2000000 in
set_option maxRecDepth 4000 in
theorem implSop_any (w : World) (d n : Int) (b0 : Nat) (v : Value) (g : List Int) (hg : Own w b0 2 v (ints g)) (hl : g.length < 2000000) (ws : ByteArray) (hws : ws.size < 1000000000000) :
    Calls Try.prog 17 #[.int .i64 d, .int .i64 n, v, .string ws] w fun e w' => ∃ v', e = .returned (.tuple #[v', .int .i64 (sopAns d n g ws).2]) ∧ Own w' w.heap.size 2 v' (ints (sopAns d n g ws).1) ∧ Below w.heap.size w w' := by
  classical
  obtain ⟨A0, cp0, rfl, _, _⟩ := hg.form
  rw [ints_length] at hg ⊢
  obtain ⟨v, hv⟩ : ∃ v, v = Value.slice A0 g.length cp0 := ⟨_, rfl⟩
  rw [← hv] at hg
  have hS := ((((St.arg w hg).newBlk #[.int .i64 d] 2).newBlk #[v] 22).newBlk #[.string ws] 9).newOwn [v] 22 (by simp)
  simp only [heap_alloc_size, List.length_cons, List.length_nil, Nat.zero_add] at hS
  have hmf : ∀ (fn : Fn) (first cap : Array Value) (w : World), (Instr.makeFunc fn first cap).run Try.prog w = .ok (.func fn first cap) w := fun _ _ _ _ => rfl
  subst hv
  replace hS := hid hS
  have hpc := hid (fun W b vv (hO : Own W b 22 vv [(Value.slice A0 g.length cp0)]) (hr : Own W b 2 (Value.slice A0 g.length cp0) (ints g)) => portraitCode_any W d n b vv [g] (mat1 hO hr) (by simp) (by simp; omega))
  rcases pcode_cases d n g with hp | hp | ⟨hp, d, n, rfl, rfl, hd, hn1, hn4, hgp⟩
  · rw [sopAns_p hp (by decide)]
    rw [hp] at hpc
    replace hg := hid hg; clear hp
    go_enter Try.func17, Try.ntmps17
    go_wp2_with (first
      | (go_at_call 52; (with_reducible refine (hpc.out _ _ _ (hS.out.o0.mono (Nat.zero_le _)) hS.out.o4).mono ?_); rintro e w1 ⟨rfl, hb⟩; replace hS := hid (hS.out.call hb).drop; have c3 := blkc hS.out.k0; have c2 := blkc hS.out.k1; have c1 := blkc hS.out.k2; clear hb)
      | (go_at_call 53; (with_reducible refine (hwd.out _).mono ?_); rintro e w' ⟨rfl, rfl⟩)
      | (go_at_call 54; (with_reducible refine (hby.out _ hS.out).mono ?_); rintro e w2 ⟨v2, rfl, hO, hb⟩; replace hS := hid (hS.out.callOwn hb hO); clear hO hb))
    go_ret2
    exact ⟨_, rfl, Own.nil _ _ _, hS.out.bel⟩
  · rw [sopAns_p hp (by decide)]
    rw [hp] at hpc
    replace hg := hid hg; clear hp
    go_enter Try.func17, Try.ntmps17
    go_wp2_with (first
      | (go_at_call 52; (with_reducible refine (hpc.out _ _ _ (hS.out.o0.mono (Nat.zero_le _)) hS.out.o4).mono ?_); rintro e w1 ⟨rfl, hb⟩; replace hS := hid (hS.out.call hb).drop; have c3 := blkc hS.out.k0; have c2 := blkc hS.out.k1; have c1 := blkc hS.out.k2; clear hb)
      | (go_at_call 53; (with_reducible refine (hwd.out _).mono ?_); rintro e w' ⟨rfl, rfl⟩)
      | (go_at_call 54; (with_reducible refine (hby.out _ hS.out).mono ?_); rintro e w2 ⟨v2, rfl, hO, hb⟩; replace hS := hid (hS.out.callOwn hb hO); clear hO hb))
    go_ret2
    exact ⟨_, rfl, Own.nil _ _ _, hS.out.bel⟩
  · rw [sopAns_0 hp]
    rw [hp] at hpc
    clear hp
    by_cases hw : IsWd d ws
    · rw [if_pos hw]
      obtain ⟨hwe, hwl, hw40⟩ := lets_wstr ws hw
      have hwsz : (lets ws).length = ws.size := by have h := wstr_size (lets ws); rw [← hwe] at h; omega
      have hwd := hid (fun W => isWord_any (d : Int) (by omega) (by omega) ws hws true ⟨fun _ => hw, fun _ => rfl⟩ W)
      by_cases hn : (ws.size : Int) < n
      · rw [if_pos hn]
        have dn : decide ((n : Int) ≤ (ws.size : Int)) = false := decide_eq_false (by omega)
        have ew : IntKind.i64.wrap ((n : Int) - (ws.size : Int)) = ((n - ws.size : Nat) : Int) := by rw [show (n : Int) - (ws.size : Int) = ((n - ws.size : Nat) : Int) by omega]; exact IntWalk.i64_in _ (by omega)
        have ew2 : (n : Int) - (ws.size : Int) = ((n - ws.size : Nat) : Int) := by omega
        have hby := hid (fun W (hS : St w.heap.size w [Asn.blk (w.heap.size + 1 + 1) #[.string ws] 9, Asn.blk (w.heap.size + 1) #[(Value.slice A0 g.length cp0)] 22, Asn.blk w.heap.size #[.int .i64 d] 2, Asn.own 0 2 (Value.slice A0 g.length cp0) (ints g)] W) =>
          portraitBy_sop (w.heap.size + 1 + 1) (w.heap.size + 1) w.heap.size d (n - ws.size) hd (by omega) W (fun u => gAt d g (lets ws ++ u)) (fun W' hW' u hu hx => sop1_any w.heap.size w W' _ _ _ d n hd hn4 (Value.slice A0 g.length cp0) g hgp (lets ws) hwl (by rw [← hwe]; exact hS.call hW') u hx (by omega)))
        replace hg := hid hg; replace hw := hid hw; replace hgp := hid hgp; replace hwe := hid hwe; replace hwl := hid hwl
        generalize byL d (fun u => gAt d g (lets ws ++ u)) (n - ws.size) = R at *
        generalize n - ws.size = nn at *
        clear hwsz hw40
        go_enter Try.func17, Try.ntmps17
        go_wp2_with (first
          | (go_at_call 52; (with_reducible refine (hpc.out _ _ _ (hS.out.o0.mono (Nat.zero_le _)) hS.out.o4).mono ?_); rintro e w1 ⟨rfl, hb⟩; replace hS := hid (hS.out.call hb).drop; have c3 := blkc hS.out.k0; have c2 := blkc hS.out.k1; have c1 := blkc hS.out.k2; clear hb)
          | (go_at_call 53; (with_reducible refine (hwd.out _).mono ?_); rintro e w' ⟨rfl, rfl⟩)
          | (go_at_call 54; (with_reducible refine (hby.out _ hS.out).mono ?_); rintro e w2 ⟨v2, rfl, hO, hb⟩; replace hS := hid (hS.out.callOwn hb hO); clear hO hb))
        go_ret2
        exact ⟨_, rfl, hS.out.o0, hS.out.bel⟩
      · rw [if_neg hn]
        have dn : decide ((n : Int) ≤ (ws.size : Int)) = true := decide_eq_true (by omega)
        replace hg := hid hg; replace hw := hid hw; replace hgp := hid hgp; replace hwe := hid hwe; replace hwl := hid hwl
        go_enter Try.func17, Try.ntmps17
        go_wp2_with (first
          | (go_at_call 52; (with_reducible refine (hpc.out _ _ _ (hS.out.o0.mono (Nat.zero_le _)) hS.out.o4).mono ?_); rintro e w1 ⟨rfl, hb⟩; replace hS := hid (hS.out.call hb).drop; have c3 := blkc hS.out.k0; have c2 := blkc hS.out.k1; have c1 := blkc hS.out.k2; clear hb)
          | (go_at_call 53; (with_reducible refine (hwd.out _).mono ?_); rintro e w' ⟨rfl, rfl⟩)
          | (go_at_call 54; (with_reducible refine (hby.out _ hS.out).mono ?_); rintro e w2 ⟨v2, rfl, hO, hb⟩; replace hS := hid (hS.out.callOwn hb hO); clear hO hb))
        go_ret2
        exact ⟨_, rfl, Own.nil _ _ _, hS.out.bel⟩
    · rw [if_neg hw]
      have hwd := hid (fun W => isWord_any (d : Int) (by omega) (by omega) ws hws false ⟨fun h => (by cases h), fun h => absurd h hw⟩ W)
      replace hg := hid hg; replace hw := hid hw; replace hgp := hid hgp
      go_enter Try.func17, Try.ntmps17
      go_wp2_with (first
        | (go_at_call 52; (with_reducible refine (hpc.out _ _ _ (hS.out.o0.mono (Nat.zero_le _)) hS.out.o4).mono ?_); rintro e w1 ⟨rfl, hb⟩; replace hS := hid (hS.out.call hb).drop; have c3 := blkc hS.out.k0; have c2 := blkc hS.out.k1; have c1 := blkc hS.out.k2; clear hb)
        | (go_at_call 53; (with_reducible refine (hwd.out _).mono ?_); rintro e w' ⟨rfl, rfl⟩)
        | (go_at_call 54; (with_reducible refine (hby.out _ hS.out).mono ?_); rintro e w2 ⟨v2, rfl, hO, hb⟩; replace hS := hid (hS.out.callOwn hb hO); clear hO hb))
      go_ret2
      exact ⟨_, rfl, Own.nil _ _ _, hS.out.bel⟩
end Go.Proofs.Ythempofohidlnaa

/- Group words: the reference's l02Numbers, l02Is, l02Code, l01Letters, l01Word, l02Both. -/
namespace Go.Proofs.Ythempofohidlnaa
open Go.RowKit
set_option linter.unusedVariables false
set_option linter.unusedSimpArgs false
-- @LONG

set_option maxHeartbeats 2000000 in
set_option maxRecDepth 100000 in
theorem l02Numbers_any (w : World) (m : Mach) (l s : Nat) (gd : Good m l s) (base : Nat) (v : Value) (g : List Int) (h : Own w base 2 v (ints g)) (hl : g.length < 2000000) :
    Calls Try.prog 168 #[.agg (mcells m), v] w fun e w' => e = .returned (.bool (!(g.any (badNum s)))) ∧ Below w.heap.size w w' := by
  have hil := ints_length g
  obtain ⟨A, c, rfl, _, _⟩ := h.form
  rw [hil] at h ⊢
  have hcell := hid (fun (k : Nat) (y : Int) (hy : g[k]? = some y) => (show ∃ gA, A = some ⟨gA, 0, none⟩ ∧ ∀ W, Below w.heap.size w W → W.cell? ⟨gA, k, none⟩ = some (.int .i64 y) from by
    obtain ⟨g1, c2, he, _, hg1⟩ := h.blk (fun e => by have h1 := congrArg List.length e; rw [hil] at h1; have h2 := (List.getElem?_eq_some_iff.1 hy).1; rw [List.length_nil] at h1; omega)
    injection he with e1 e2 e3
    subst e1
    exact ⟨g1, rfl, fun W hW => (h.below hW).cellAt k _ (by simp [ints, hy])⟩))
  have hS := hid ((St.start w).newMB m 34)
  have gS := hid gd.S
  have s16 := gd.s16
  obtain ⟨R, hR⟩ : ∃ R, R = g.any (badNum s) := ⟨_, rfl⟩
  rw [← hR]
  replace hR := hid hR
  have e1 : IntKind.i64.wrap (-(s : Int)) = -(s : Int) := IntWalk.i64_in _ (by omega)
  have hdrop := hid (fun (k : Nat) (x : Int) (hx : g[k]? = some x) => (show (g.drop k).any (badNum s) = (badNum s x || (g.drop (k + 1)).any (badNum s)) by
    have hk := (List.getElem?_eq_some_iff.1 hx).1
    rw [List.drop_eq_getElem_cons hk, (List.getElem?_eq_some_iff.1 hx).2, List.any_cons]))
  clear h hil
  replace gd := hid gd
  generalize hn : g.length = n at *
  replace hn := hid hn
  go_enter Try.func168, Try.ntmps168
  go_wp2
  go_loopw [5] (fun i wr => ∃ k : Nat, k ≤ n ∧ i = .int .i64 k ∧ Hid (R = (g.drop k).any (badNum s)) ∧ St w.heap.size w [Asn.mb 34 w.heap.size m] wr) (fun i _ => n - (intOf i).toNat)
  case atStart => exact ⟨0, Nat.zero_le _, rfl, hR, hS.out⟩
  case round =>
    obtain ⟨k, hk, rfl, hA, rS⟩ := hrel
    clear hS hR
    replace rS := hid rS
    by_cases hlt : k < n
    · have dc : decide ((k : Int) < (n : Int)) = true := decide_eq_true (by omega)
      obtain ⟨x, hx⟩ : ∃ x, g[k]? = some x := ⟨_, List.getElem?_eq_getElem (by rw [hn.out]; exact hlt)⟩
      obtain ⟨gA, rfl, hc⟩ := hcell.out k x hx
      have d1 := hc wr rS.out.bel
      have cS := rS.out.m0.cS
      rw [gS.out] at cS
      have k0 : (0 : Int) ≤ (k : Int) := Int.natCast_nonneg _
      have k1 : (k : Int) < (n : Int) := by omega
      have hd := hid (hA.out.trans (hdrop.out k x hx))
      have hin := hid (fun d => l01In_any x (-(s : Int)) s (decide (-(s : Int) ≤ x ∧ x ≤ s)) rfl (wr.drewN d))
      have hbn := hid (show badNum s x = ((x == 0) || !decide (-(s : Int) ≤ x ∧ x ≤ s)) from rfl)
      clear hc hx
      generalize decide (-(s : Int) ≤ x ∧ x ≤ s) = c0 at *
      cases hx0 : x == 0 with
      | true =>
        have hfin := hid (show R = true by rw [hd.out, hbn.out, hx0]; rfl)
        go_upto_region 4 with (fail)
        go_quiet (fail)
        go_wp2
        go_ret
        exact ⟨retB (by rw [hfin.out]; rfl), below_drewN rS.out.bel _⟩
      | false =>
        have hbn2 := hid (show badNum s x = !c0 by rw [hbn.out, hx0]; rfl)
        cases c0 with
        | true =>
          have hA2 := hid (show R = (g.drop (k + 1)).any (badNum s) by rw [hd.out, hbn2.out]; rfl)
          clear hbn hbn2 hd hA
          go_upto_region 4 with (fail)
          go_quiet ((go_at_call 58; exact quiet_same (hin.out _)))
          go_wp2
          go_roundw
          case rel => exact ⟨k + 1, by omega, by go_num, hA2, rS.out.drewN _⟩
          case measure => simp [intOf]; omega
        | false =>
          have hfin := hid (show R = true by rw [hd.out, hbn2.out]; rfl)
          clear hbn hbn2 hd hA
          go_upto_region 4 with (fail)
          go_quiet ((go_at_call 58; exact quiet_same (hin.out _)))
          go_wp2
          go_ret
          exact ⟨retB (by rw [hfin.out]; rfl), below_drewN rS.out.bel _⟩
    · obtain rfl : k = n := by omega
      have dc : decide ((k : Int) < (k : Int)) = false := decide_eq_false (by omega)
      have hfin := hid (show R = false by rw [hA.out, List.drop_eq_nil_of_le (by rw [hn.out]; exact Nat.le_refl _)]; rfl)
      go_wp2
      go_ret
      exact ⟨retB (by rw [hfin.out]; rfl), rS.out.bel⟩
set_option maxHeartbeats 1000000 in
theorem l02Is_any (w : World) (m : Mach) (l s : Nat) (gd : Good m l s) (base : Nat) (v : Value) (g : List Int) (h : Own w base 2 v (ints g)) (hl : g.length < 2000000) (r : Bool) (hr : Tells r (IsGw m g)) :
    Calls Try.prog 158 #[.agg (mcells m), v] w fun e w' => e = .returned (.bool r) ∧ Below w.heap.size w w' := by
  have hil := ints_length g
  have hS := hid ((St.start w).newMB m 34)
  have hnu := hid (fun W (hW : Below w.heap.size w W) => l02Numbers_any W m l s gd base v g (h.below hW) hl)
  have hS2 : m.S.toNat = s := by rw [gd.S]; rfl
  have hgw : IsGw m g ↔ g.length ≤ 40 ∧ ∀ k ∈ g, isNum s k := by unfold IsGw; rw [hS2]; exact ⟨fun h => h.2, fun h => ⟨gd.isM, h⟩⟩
  have hb := badAny_iff s g
  have hr2 := hr.out
  obtain ⟨A, c, rfl, _, _⟩ := h.form
  rw [hil] at *
  clear h hr
  by_cases h40 : g.length ≤ 40
  · have d1 : decide ((40 : Int) < (g.length : Int)) = false := decide_eq_false (by omega)
    have hfin : Hid ((!(g.any (badNum s))) = r) := by
      refine hid ?_
      rw [Bool.eq_iff_iff, hr2, hgw]
      cases hh : g.any (badNum s)
      · rw [hh] at hb
        simp only [Bool.not_false, true_iff]
        exact ⟨h40, Classical.byContradiction fun hn => by have := hb.2 hn; cases this⟩
      · simp only [Bool.not_true, Bool.false_eq_true, false_iff]
        exact fun hn => (hb.1 hh) hn.2
    rw [hfin.out] at hnu
    clear hr2 hgw hb hfin; replace gd := hid gd
    generalize g.length = n at *
    go_enter Try.func158, Try.ntmps158
    go_wp2_with (first
      | ((with_reducible refine gate (N := 8) rfl ?_); refine load_mach rfl _ rfl w.heap.size rfl m hS.out.m0 ?_)
      | (go_at_call 168; (with_reducible refine (hnu.out _ hS.out.bel).mono ?_); rintro e w1 ⟨rfl, hb⟩; replace hS := hid (hS.out.call hb); clear hb))
    go_ret
    exact ⟨rfl, hS.out.bel⟩
  · have d1 : decide ((40 : Int) < (g.length : Int)) = true := decide_eq_true (by omega)
    have hfin : Hid (r = false) := by
      refine hid ?_
      rw [Bool.eq_false_iff, Ne, hr2, hgw]
      exact fun hn => h40 hn.1
    clear hr2 hgw hb; replace gd := hid gd
    generalize g.length = n at *
    go_enter Try.func158, Try.ntmps158
    go_wp2
    go_ret
    exact ⟨retB hfin.out.symm, hS.out.bel⟩
end Go.Proofs.Ythempofohidlnaa

/- The reference's l02Code, l01Letters, l01Word, l02Both. -/
namespace Go.Proofs.Ythempofohidlnaa
open Go.RowKit
set_option linter.unusedVariables false
set_option linter.unusedSimpArgs false
-- @LONG

open Classical in
/-- The code of a machine and group words. -/
noncomputable def codG (m : Mach) (M : List (List Int)) : Int := if IsM m ∧ ∀ row ∈ M, IsGw m row then 0 else 1
theorem codG_0 {m : Mach} {M : List (List Int)} (h : IsM m) (hM : ∀ row ∈ M, IsGw m row) : codG m M = 0 := by unfold codG; rw [if_pos ⟨h, hM⟩]
theorem codG_1 {m : Mach} {M : List (List Int)} (h : ¬ (IsM m ∧ ∀ row ∈ M, IsGw m row)) : codG m M = 1 := by unfold codG; rw [if_neg h]
theorem codG_y {m : Mach} {g : List Int} (h : IsGw m g) : codG m [g] = 0 := codG_0 h.1 (by simp; exact h)
theorem codG_n {m : Mach} {g : List Int} (h : ¬ IsGw m g) : codG m [g] = 1 := codG_1 (fun k => h (k.2 g (by simp)))

set_option maxHeartbeats 2000000 in
set_option maxRecDepth 100000 in
theorem l02Code_any (w : World) (m : Mach) (hk : m.Ok) (base : Nat) (v : Value) (M : List (List Int)) (h : Mat w base v M) (hl : M.length < 2000000) (hlr : ∀ row ∈ M, row.length < 2000000) :
    Calls Try.prog 129 #[.agg (mcells m), v] w fun e w' => e = .returned (.int .i64 (codG m M)) ∧ Below w.heap.size w w' := by
  have hS := hid ((St.start w).newMB m 34)
  by_cases hm : IsM m
  · obtain ⟨l, s, gd⟩ := hm.good
    obtain ⟨rows, hO, hrl, hrow⟩ := h
    obtain ⟨A1, c1, rfl, _, _⟩ := hO.form
    rw [hrl] at hO ⊢
    have hcell := hid (fun (k : Nat) (x : List Int) (hx : M[k]? = some x) => (show ∃ g r, A1 = some ⟨g, 0, none⟩ ∧ ∀ W, Below w.heap.size w W → W.cell? ⟨g, k, none⟩ = some r ∧ Own W base 2 r (ints x) from by
      have hk := (List.getElem?_eq_some_iff.1 hx).1
      obtain ⟨g1, c2, he, _, hg1⟩ := hO.blk (fun e => by rw [e] at hrl; rw [← hrl] at hk; simp at hk)
      injection he with e1 e2 e3
      subst e1
      obtain ⟨r, hr⟩ : ∃ r, rows[k]? = some r := ⟨_, List.getElem?_eq_getElem (by rw [hrl]; exact hk)⟩
      exact ⟨g1, r, rfl, fun W hW => ⟨(hO.below hW).cellAt k _ hr, (hrow k r x hr hx).below hW⟩⟩))
    have hi := hid (fun W => l01Is_any W m hk true ⟨fun _ => hm, fun _ => rfl⟩)
    have his := hid (fun W r row (hr : row ∈ M) (hO : Own W base 2 r (ints row)) (c : Bool) (hc : Tells c (IsGw m row)) => l02Is_any W m l s gd base r row hO (hlr row hr) c hc)
    obtain ⟨R, hR⟩ : ∃ R, R = codG m M := ⟨_, rfl⟩
    rw [← hR]
    replace hR := hid hR; replace hm := hid hm; replace gd := hid gd; replace hk := hid hk
    clear hO hrow
    generalize hn : M.length = n at *
    replace hn := hid hn
    go_enter Try.func129, Try.ntmps129
    go_wp2_with (first
      | ((with_reducible refine gate (N := 6) rfl ?_); refine load_mach rfl _ rfl w.heap.size rfl m hS.out.m0 ?_)
      | (go_at_call 57; (with_reducible refine (hi.out _).mono ?_); rintro e w1 ⟨rfl, hb⟩; replace hS := hid (hS.out.call hb); clear hi; clear hb))
    go_loopw [5] (fun i wr => ∃ k : Nat, k ≤ n ∧ i = .int .i64 k ∧ Hid (∀ j row, j < k → M[j]? = some row → IsGw m row) ∧ St w.heap.size w [Asn.mb 34 w.heap.size m] wr) (fun i _ => n - (intOf i).toNat)
    case atStart => exact ⟨0, Nat.zero_le _, rfl, (fun j row hj => absurd hj (by omega)), hS.out⟩
    case round =>
      obtain ⟨k, hk, rfl, hA, rS⟩ := hrel
      clear hS
      replace rS := hid rS
      by_cases hlt : k < n
      · have dc : decide ((k : Int) < (n : Int)) = true := decide_eq_true (by omega)
        obtain ⟨x, hx⟩ : ∃ x, M[k]? = some x := ⟨_, List.getElem?_eq_getElem (by rw [hn.out]; exact hlt)⟩
        obtain ⟨g, r, rfl, hc⟩ := hcell.out k x hx
        have k0 : (0 : Int) ≤ (k : Int) := Int.natCast_nonneg _
        have k1 : (k : Int) < (n : Int) := by omega
        replace hc := hid hc
        go_upto_region 6 with (fail)
        replace rS := hid rS.out.drew
        refine wp_region_heldL (L := [(5, (fun w' : World => MB w' 34 w.heap.size m ∧ w'.cell? ⟨g, k, none⟩ = some r))]) (by kernel_rfl) (HeldL.cons (fun _ => ⟨rS.out.m0, (hc.out _ rS.out.bel).1⟩) HeldL.nil) (fun hHeld => ?_)
        generalize wr.drew = wa at *
        refine wpAnyL_takeP (i := 0) 5 [] (v := (.agg (mcells m))) (fun w' : World => MB w' 34 w.heap.size m ∧ w'.cell? ⟨g, k, none⟩ = some r) rfl (by kernel_rfl) (by kernel_rfl) (by kernel_rfl) (by rfl) (by kernel_rfl) (by simp) (fun _ _ _ h => h) (Or.inl ⟨by rfl, ?_⟩) (by assumption) ?_
        · (intro W hW; exact exec_load _ rfl rfl (load_run hW.1))
        intro hHeld'
        clear hHeld; have hHeld := hHeld'; clear hHeld'
        try simp only [Act.put, List.getElem_toArray, List.getElem_cons_succ, List.getElem_cons_zero, List.setIfInBounds_toArray, List.set_cons_zero, List.set_cons_succ]
        refine wpAnyL_take0 (i := 1) (v := ?_) rfl (by kernel_rfl) (by kernel_rfl) (by kernel_rfl) (by rfl) (fun _ _ _ h => h) (Or.inl ⟨by rfl, ?_⟩) (by assumption) ?_
        rotate_left
        · (intro W _; go_simp; (with_reducible rfl))
        intro hHeld'
        clear hHeld; have hHeld := hHeld'; clear hHeld'
        try simp only [Act.put, List.getElem_toArray, List.getElem_cons_succ, List.getElem_cons_zero, List.setIfInBounds_toArray, List.set_cons_zero, List.set_cons_succ]
        refine wpAnyL_take0 (i := 2) (v := ?_) rfl (by kernel_rfl) (by kernel_rfl) (by kernel_rfl) (by rfl) (fun _ _ _ h => h) (Or.inl ⟨by rfl, ?_⟩) (by assumption) ?_
        rotate_left
        · (intro W _; go_simp; (with_reducible rfl))
        intro hHeld'
        clear hHeld; have hHeld := hHeld'; clear hHeld'
        try simp only [Act.put, List.getElem_toArray, List.getElem_cons_succ, List.getElem_cons_zero, List.setIfInBounds_toArray, List.set_cons_zero, List.set_cons_succ]
        refine wpAnyL_take0 (i := 3) (v := ?_) rfl (by kernel_rfl) (by kernel_rfl) (by kernel_rfl) (by rfl) (fun _ _ _ h => h) (Or.inl ⟨by rfl, ?_⟩) (by assumption) ?_
        rotate_left
        · (intro W _; go_simp; (with_reducible rfl))
        intro hHeld'
        clear hHeld; have hHeld := hHeld'; clear hHeld'
        try simp only [Act.put, List.getElem_toArray, List.getElem_cons_succ, List.getElem_cons_zero, List.setIfInBounds_toArray, List.set_cons_zero, List.set_cons_succ]
        refine wpAnyL_takeP (i := 4) 5 [] (v := ?_) (fun w' : World => MB w' 34 w.heap.size m ∧ w'.cell? ⟨g, k, none⟩ = some r) rfl (by kernel_rfl) (by kernel_rfl) (by kernel_rfl) (by rfl) (by kernel_rfl) (by simp) (fun _ _ _ h => h) (Or.inl ⟨by rfl, ?_⟩) (by assumption) ?_
        rotate_left
        · (intro W hW; (obtain ⟨_, hW⟩ := hW); go_simp; (with_reducible rfl))
        intro hHeld'
        clear hHeld; have hHeld := hHeld'; clear hHeld'
        try simp only [Act.put, List.getElem_toArray, List.getElem_cons_succ, List.getElem_cons_zero, List.setIfInBounds_toArray, List.set_cons_zero, List.set_cons_succ]
        refine wpAnyL_ready (rs := [5]) (by kernel_rfl) (by simp) ?_
        refine AllReadyL.cons rfl (fun K hK => ?_) AllReadyL.nil
        go_simp
        by_cases hgw : IsGw m x
        · have hcl := hid (fun W hO => his.out W r x (List.mem_of_getElem? hx) hO true ⟨fun _ => hgw, fun _ => rfl⟩)
          (with_reducible refine (hcl.out _ (hc.out _ rS.out.bel).2).mono ?_)
          rintro e w2 ⟨rfl, hb⟩
          replace rS := hid (rS.out.call hb)
          clear hb
          have hA2 : Hid (∀ j row, j < k + 1 → M[j]? = some row → IsGw m row) := fun j row hj hr => by
            by_cases e : j = k
            · subst e; rw [hx] at hr; injection hr with hr; subst hr; exact hgw
            · exact hA.out j row (by omega) hr
          clear hx hgw hcl
          go_simp
          refine hK.out _ _ (HeldL.cons (fun h => absurd h (by decide +kernel)) HeldL.nil) (fun hHeld' => ?_)
          clear hK K hHeld; have hHeld := hHeld'; clear hHeld'
          try simp only [Act.put, List.getElem_toArray, List.getElem_cons_succ, List.getElem_cons_zero, List.setIfInBounds_toArray, List.set_cons_zero, List.set_cons_succ]
          refine wpAnyL_take0 (i := 6) (v := ?_) rfl (by kernel_rfl) (by kernel_rfl) (by kernel_rfl) (by rfl) (fun _ _ _ h => h) (Or.inl ⟨by rfl, ?_⟩) (by assumption) ?_
          rotate_left
          · (intro W _; go_simp; (with_reducible rfl))
          intro hHeld'
          clear hHeld; have hHeld := hHeld'; clear hHeld'
          try simp only [Act.put, List.getElem_toArray, List.getElem_cons_succ, List.getElem_cons_zero, List.setIfInBounds_toArray, List.set_cons_zero, List.set_cons_succ]
          refine wpAnyL_done (by kernel_rfl) ?_ _
          go_wp2
          go_roundw
          case rel => exact ⟨k + 1, by omega, by go_num, hA2, rS.out⟩
          case measure => simp [intOf]; omega
        · have hcl := hid (fun W hO => his.out W r x (List.mem_of_getElem? hx) hO false ⟨fun h => (by cases h), fun h => absurd h hgw⟩)
          (with_reducible refine (hcl.out _ (hc.out _ rS.out.bel).2).mono ?_)
          rintro e w2 ⟨rfl, hb⟩
          replace rS := hid (rS.out.call hb)
          clear hb
          have hfin := hid (show R = 1 by rw [hR.out]; exact codG_1 (fun h => hgw (h.2 x (List.mem_of_getElem? hx))))
          clear hx hgw hcl
          go_simp
          refine hK.out _ _ (HeldL.cons (fun h => absurd h (by decide +kernel)) HeldL.nil) (fun hHeld' => ?_)
          clear hK K hHeld; have hHeld := hHeld'; clear hHeld'
          try simp only [Act.put, List.getElem_toArray, List.getElem_cons_succ, List.getElem_cons_zero, List.setIfInBounds_toArray, List.set_cons_zero, List.set_cons_succ]
          refine wpAnyL_take0 (i := 6) (v := ?_) rfl (by kernel_rfl) (by kernel_rfl) (by kernel_rfl) (by rfl) (fun _ _ _ h => h) (Or.inl ⟨by rfl, ?_⟩) (by assumption) ?_
          rotate_left
          · (intro W _; go_simp; (with_reducible rfl))
          intro hHeld'
          clear hHeld; have hHeld := hHeld'; clear hHeld'
          try simp only [Act.put, List.getElem_toArray, List.getElem_cons_succ, List.getElem_cons_zero, List.setIfInBounds_toArray, List.set_cons_zero, List.set_cons_succ]
          refine wpAnyL_done (by kernel_rfl) ?_ _
          go_wp2
          go_ret
          exact ⟨retI (by rw [hfin.out]), rS.out.bel⟩
      · obtain rfl : k = n := by omega
        have dc : decide ((k : Int) < (k : Int)) = false := decide_eq_false (by omega)
        have hfin := hid (show R = 0 by
          rw [hR.out]
          refine codG_0 hm.out fun row hr => ?_
          obtain ⟨j, hj, rfl⟩ := List.getElem_of_mem hr
          exact hA.out j _ (by rw [← hn.out]; exact hj) (List.getElem?_eq_getElem hj))
        go_wp2
        go_ret
        exact ⟨retI (by rw [hfin.out]), rS.out.bel⟩
  · have hi := hid (fun W => l01Is_any W m hk false ⟨fun h => (by cases h), fun h => absurd h hm⟩)
    rw [codG_1 (fun h => hm h.1)]
    replace hk := hid hk; replace h := hid h; clear hm
    go_enter Try.func129, Try.ntmps129
    go_wp2_with (first
      | ((with_reducible refine gate (N := 6) rfl ?_); refine load_mach rfl _ rfl w.heap.size rfl m hS.out.m0 ?_)
      | (go_at_call 57; (with_reducible refine (hi.out _).mono ?_); rintro e w1 ⟨rfl, hb⟩; replace hS := hid (hS.out.call hb); clear hi; clear hb))
    go_ret
    exact ⟨rfl, hS.out.bel⟩
set_option maxHeartbeats 1000000 in
set_option maxRecDepth 100000 in
theorem l01Letters_any (d : Int) (_ : 2 ≤ d) (_ : d ≤ 3) (ws : ByteArray) (hws : ws.size < 1000000000000) (r : Bool) (hr : Tells r (∀ k (h : k < ws.size), 48 ≤ (ws[k]'h).toNat ∧ ((ws[k]'h).toNat : Int) - 48 < d)) (w : World) :
    Calls Try.prog 100 #[.int .i64 d, .string ws] w fun e w' => e = .returned (.bool r) ∧ w = w' := by
  replace hr := hid hr
  go_enter Try.func100, Try.ntmps100
  go_wp2
  go_loop [5] (fun i => ∃ k : Nat, k ≤ ws.size ∧ i = .int .i64 k ∧ Hid (∀ j (h : j < ws.size), j < k → 48 ≤ (ws[j]'h).toNat ∧ ((ws[j]'h).toNat : Int) - 48 < d)) (fun i => ws.size - (intOf i).toNat)
  case atStart => exact ⟨0, Nat.zero_le _, rfl, fun j _ h => absurd h (by omega)⟩
  case round =>
    obtain ⟨k, hk, rfl, hall⟩ := hrel
    by_cases hlt : k < ws.size
    · have hstep : (48 ≤ (ws[k]'hlt).toNat ∧ ((ws[k]'hlt).toNat : Int) - 48 < d) → Hid (∀ j (h : j < ws.size), j < k + 1 → 48 ≤ (ws[j]'h).toNat ∧ ((ws[j]'h).toNat : Int) - 48 < d) := fun hc j hj hjk => by
        by_cases e : j = k
        · subst e; exact hc
        · exact hall.out j hj (by omega)
      have hfail : ¬ (48 ≤ (ws[k]'hlt).toNat ∧ ((ws[k]'hlt).toNat : Int) - 48 < d) → r = false := fun hc => by
        cases r
        · rfl
        · exact absurd ((hr.out.out.1 rfl) k hlt) hc
      have hbl := UInt8.toNat_lt (ws[k]'hlt)
      generalize hb : (ws[k]'hlt).toNat = b at *
      replace hstep := hid hstep
      by_cases h48 : 48 ≤ b
      · obtain ⟨x, rfl⟩ := Nat.exists_eq_add_of_le h48
        have e1 : 48 + (x : Int) - 48 = x := by omega
        by_cases hxd : (x : Int) < d
        · clear hfail
          go_wp2
          go_round
          case rel => exact ⟨k + 1, by omega, by go_num, hstep.out ⟨by omega, by omega⟩⟩
          case measure => simp [intOf]; omega
        · have hf := hfail (fun hc => hxd (by omega))
          subst hf
          have dx : decide ((x : Int) ≥ d) = true := decide_eq_true (by omega)
          clear hfail
          go_wp2
          go_ret
          exact ⟨rfl, rfl⟩
      · have hf := hfail (fun hc => h48 hc.1)
        subst hf
        have dx : decide ((b : Int) < 48) = true := decide_eq_true (by omega)
        clear hfail
        go_wp2
        go_ret
        exact ⟨rfl, rfl⟩
    · obtain rfl : k = ws.size := by omega
      have hrr := hid (hr.out.out.2 fun j hj => hall.out j hj hj)
      go_wp2
      go_ret
      exact ⟨retB hrr.out.symm, rfl⟩

set_option maxHeartbeats 1000000 in
theorem l01Word_any (w : World) (m : Mach) (l s : Nat) (gd : Good m l s) (ws : ByteArray) (hws : ws.size < 1000000000000) (r : Bool) (hr : Tells r (IsWd l ws)) :
    Calls Try.prog 130 #[.agg (mcells m), .string ws] w fun e w' => e = .returned (.bool r) ∧ Below w.heap.size w w' := by
  classical
  have hS := hid ((St.start w).newMB m 34)
  have cL := hS.out.m0.cL
  rw [gd.L] at cL
  have hr2 := hr.out
  by_cases h40 : ws.size ≤ 40
  · have d1 : decide ((ws.size : Int) ≤ 40) = true := decide_eq_true (by omega)
    have hle := hid (fun W => l01Letters_any (l : Int) (by have := gd.l2; omega) (by have := gd.l3; omega) ws hws r (by
      constructor
      · intro h; exact (hr2.1 h).2
      · intro h; exact hr2.2 ⟨h40, h⟩) W)
    replace gd := hid gd; clear hr hr2
    go_enter Try.func130, Try.ntmps130
    go_wp2_with (first
      | (go_at_call 100; (with_reducible refine (hle.out _).mono ?_); rintro e w' ⟨rfl, rfl⟩))
    go_ret
    exact ⟨rfl, hS.out.bel⟩
  · have d1 : decide ((ws.size : Int) ≤ 40) = false := decide_eq_false (by omega)
    have hf : r = false := by rw [Bool.eq_false_iff, Ne, hr2]; exact fun h => h40 h.1
    subst hf
    replace gd := hid gd; clear hr hr2
    go_enter Try.func130, Try.ntmps130
    go_wp2
    go_ret
    exact ⟨rfl, hS.out.bel⟩
open Classical in
/-- The code of a group word and a word. -/
noncomputable def codB (m : Mach) (g : List Int) (ws : ByteArray) : Int := if IsGw m g ∧ IsWd m.L ws then 0 else 1
theorem codB_n {m : Mach} {g : List Int} {ws : ByteArray} (h : ¬ IsGw m g) : codB m g ws = 1 := by unfold codB; rw [if_neg (fun k => h k.1)]
theorem codB_w {m : Mach} {l s : Nat} {g : List Int} {ws : ByteArray} (gd : Good m l s) (h : ¬ IsWd l ws) : codB m g ws = 1 := by unfold codB; rw [gd.L, if_neg (fun k => h k.2)]
theorem codB_0 {m : Mach} {l s : Nat} {g : List Int} {ws : ByteArray} (gd : Good m l s) (h : IsGw m g) (hw : IsWd l ws) : codB m g ws = 0 := by unfold codB; rw [gd.L, if_pos ⟨h, hw⟩]
set_option maxHeartbeats 2000000 in
set_option maxRecDepth 4000 in
theorem l02Both_any (w : World) (m : Mach) (hkm : m.Ok) (b0 : Nat) (v : Value) (g : List Int) (hg : Own w b0 2 v (ints g)) (hl : g.length < 2000000) (ws : ByteArray) (hws : ws.size < 1000000000000) :
    Calls Try.prog 78 #[.agg (mcells m), v, .string ws] w fun e w' => e = .returned (.int .i64 (codB m g ws)) ∧ Below w.heap.size w w' := by
  obtain ⟨A0, cp0, rfl, _, _⟩ := hg.form
  rw [ints_length] at hg ⊢
  have hS := hid ((St.arg w hg).newMB m 34)
  have hown := hid (hS.out.newOwn [(Value.slice A0 g.length cp0)] 22 (by simp))
  simp only [heap_alloc_size, List.length_cons, List.length_nil, Nat.zero_add] at hown
  have hco := hid (fun W b vv (hO : Own W b 22 vv [(Value.slice A0 g.length cp0)]) (hr : Own W b 2 (Value.slice A0 g.length cp0) (ints g)) => l02Code_any W m hkm b vv [g] (mat_one hO hr) (by simp) (by simp; omega))
  rcases gw_cases m g ws with h | ⟨l, s, gd, h, hw⟩ | ⟨l, s, gd, h, hw⟩
  · have hbad : ¬ IsGw m g := by
      rcases h with h | h
      · exact fun k => h k.1
      · exact h
    rw [codB_n hbad]
    rw [codG_n hbad] at hco
    replace hkm := hid hkm; replace hg := hid hg; clear h hbad
    go_enter Try.func78, Try.ntmps78
    go_wp2_with (first
      | ((with_reducible refine gate (N := 7) rfl ?_); refine load_mach rfl _ rfl w.heap.size rfl m hS.out.m0 ?_)
      | (go_at_call 129; (with_reducible refine (hco.out _ _ _ (hown.out.o0.mono (Nat.zero_le _)) hown.out.o2).mono ?_); rintro e w1 ⟨rfl, hb⟩; replace hS := hid (hown.out.call hb); clear hco hown; clear hb))
    go_ret
    exact ⟨rfl, hS.out.bel⟩
  · rw [codB_w gd hw]
    rw [codG_y h] at hco
    have hwd := hid (fun W => l01Word_any W m l s gd ws hws false ⟨fun h => (by cases h), fun h => absurd h hw⟩)
    replace hkm := hid hkm; replace hg := hid hg; replace gd := hid gd; clear h hw
    go_enter Try.func78, Try.ntmps78
    go_wp2_with (first
      | ((with_reducible refine gate (N := 7) rfl ?_); refine load_mach rfl _ rfl w.heap.size rfl m hS.out.m0 ?_)
      | (go_at_call 129; (with_reducible refine (hco.out _ _ _ (hown.out.o0.mono (Nat.zero_le _)) hown.out.o2).mono ?_); rintro e w1 ⟨rfl, hb⟩; replace hS := hid (hown.out.call hb).drop; clear hco hown; clear hb)
      | ((with_reducible refine gate (N := 13) rfl ?_); refine load_mach_g (by rfl) _ rfl w.heap.size rfl m hS.out.m0 ?_)
      | (go_at_call 130; (with_reducible refine (hwd.out _).mono ?_); rintro e w2 ⟨rfl, hb⟩; replace hS := hid (hS.out.call hb); clear hb))
    go_ret
    exact ⟨rfl, hS.out.bel⟩
  · rw [codB_0 gd h hw]
    rw [codG_y h] at hco
    have hwd := hid (fun W => l01Word_any W m l s gd ws hws true ⟨fun _ => hw, fun _ => rfl⟩)
    replace hkm := hid hkm; replace hg := hid hg; replace gd := hid gd; clear h hw
    go_enter Try.func78, Try.ntmps78
    go_wp2_with (first
      | ((with_reducible refine gate (N := 7) rfl ?_); refine load_mach rfl _ rfl w.heap.size rfl m hS.out.m0 ?_)
      | (go_at_call 129; (with_reducible refine (hco.out _ _ _ (hown.out.o0.mono (Nat.zero_le _)) hown.out.o2).mono ?_); rintro e w1 ⟨rfl, hb⟩; replace hS := hid (hown.out.call hb).drop; clear hco hown; clear hb)
      | ((with_reducible refine gate (N := 13) rfl ?_); refine load_mach_g (by rfl) _ rfl w.heap.size rfl m hS.out.m0 ?_)
      | (go_at_call 130; (with_reducible refine (hwd.out _).mono ?_); rintro e w2 ⟨rfl, hb⟩; replace hS := hid (hS.out.call hb); clear hb))
    go_ret
    exact ⟨rfl, hS.out.bel⟩
end Go.Proofs.Ythempofohidlnaa

/- Portraits: the reference's small functions. -/
namespace Go.Proofs.Ythempofohidlnaa
open Go.RowKit
set_option linter.unusedVariables false
set_option linter.unusedSimpArgs false
-- @LONG

theorem l03Sizes_any (d n : Int) (r : Bool) (hr : r = decide (IsD d n)) (w : World) :
    Calls Try.prog 145 #[.int .i64 d, .int .i64 n] w fun e w' => e = .returned (.bool r) ∧ w = w' := by
  have hl := hid (fun W => l01In_any d 2 3 (decide (2 ≤ d ∧ d ≤ 3)) rfl W)
  have hw := hid (fun W => l01In_any n 1 4 (decide (1 ≤ n ∧ n ≤ 4)) rfl W)
  by_cases h1 : 2 ≤ d ∧ d ≤ 3
  · have hr2 := hid (show r = decide (1 ≤ n ∧ n ≤ 4) by rw [hr]; unfold IsD; simp [h1])
    rw [decide_eq_true h1] at hl
    generalize decide (1 ≤ n ∧ n ≤ 4) = c at *
    clear h1 hr
    go_enter Try.func145, Try.ntmps145
    go_wp2_with (first
      | (go_at_call 58; (first | (with_reducible refine (hl.out _).mono ?_) | (with_reducible refine (hw.out _).mono ?_)); rintro e w' ⟨rfl, rfl⟩))
    go_ret
    exact ⟨retB hr2.out.symm, rfl⟩
  · have hr2 := hid (show r = false by rw [hr]; unfold IsD; simp [h1])
    rw [decide_eq_false h1] at hl
    clear h1 hr
    go_enter Try.func145, Try.ntmps145
    go_wp2_with (first
      | (go_at_call 58; (with_reducible refine (hl.out _).mono ?_); rintro e w' ⟨rfl, rfl⟩))
    go_ret
    exact ⟨retB hr2.out.symm, rfl⟩
theorem l03Count_any (d : Nat) (hd : d = 2 ∨ d = 3) (w : World) :
    Calls Try.prog 149 #[.int .i64 d] w fun e w' => e = .returned (.int .i64 (cnt d : Nat)) ∧ w = w' := by
  rcases hd with rfl | rfl
  · go_enter Try.func149, Try.ntmps149
    go_wp2
    go_ret
    exact ⟨rfl, rfl⟩
  · go_enter Try.func149, Try.ntmps149
    go_wp2
    go_ret
    exact ⟨rfl, rfl⟩
theorem l03Start_any (d n : Nat) (hd : d = 2 ∨ d = 3) (hn : n ≤ 5) (w : World) :
    Calls Try.prog 101 #[.int .i64 d, .int .i64 n] w fun e w' => e = .returned (.int .i64 (start d n : Nat)) ∧ w = w' := by
  have hp := hid (fun k (hk : k < n) W => l01Power_any d k (by omega) (by have := pw5 (n := k) hd (by omega); omega) (by omega) W)
  have hp5 := hid (fun k (hk : k < n) => pw5 (n := k) hd (by omega))
  have hst := hid (fun k (hk : k < n) => (show start d k ≤ 243 by
    have := start_pw d (by omega) k
    have h2 : start d k ≤ start d k * (d - 1) := Nat.le_mul_of_pos_right _ (by omega)
    have h3 := pw5 (n := k) hd (by omega)
    omega))
  have hsn := hid (fun k => (show start d (k + 1) = start d k + pw d k from rfl))
  clear hd
  go_enter Try.func101, Try.ntmps101
  go_wp2
  go_loop [5, 6] (fun p i => ∃ k : Nat, k ≤ n ∧ i = .int .i64 k ∧ p = .int .i64 (start d k : Nat)) (fun _ i => n - (intOf i).toNat)
  case atStart => exact ⟨0, by omega, rfl, rfl⟩
  case round =>
    obtain ⟨k, hk, rfl, rfl⟩ := hrel
    by_cases hlt : k < n
    · have dk : decide ((k : Int) < (n : Int)) = true := decide_eq_true (by omega)
      have hpk := hid (hp.out k hlt)
      have h1 := hp5.out k hlt
      have h2 := hst.out k hlt
      have h3 := hid (hsn.out k)
      generalize start d k = a at *
      generalize pw d k = b at *
      go_wp2_with (first
        | (go_at_call 49; (with_reducible refine (hpk.out _).mono ?_); rintro e w' ⟨rfl, rfl⟩))
      go_round
      case rel => exact ⟨k + 1, by omega, by go_num, by rw [h3.out]; go_num⟩
      case measure => simp [intOf]; omega
    · obtain rfl : k = n := by omega
      have dk : decide ((k : Int) < (k : Int)) = false := decide_eq_false (by omega)
      go_wp2
      go_ret
      exact ⟨rfl, rfl⟩
set_option maxHeartbeats 1000000 in
set_option maxRecDepth 100000 in
theorem l03Is_any (w : World) (d n : Nat) (hd : d = 2 ∨ d = 3) (hn : n ≤ 4) (base : Nat) (v : Value) (g : List Int) (h : Own w base 2 v (ints g)) (hl : g.length < 2000000) (r : Bool) (hr : r = decide (IsP d n g)) :
    Calls Try.prog 146 #[.int .i64 d, .int .i64 n, v] w fun e w' => e = .returned (.bool r) ∧ Below w.heap.size w w' := by
  have hil := ints_length g
  obtain ⟨A, c, rfl, _, hA⟩ := h.form
  rw [hil] at h ⊢
  have hst := hid (fun W => l03Start_any d n hd (by omega) W)
  have hct := hid (fun W => l03Count_any d hd W)
  have hc6 : cnt d ≤ 6 ∧ 2 ≤ cnt d := by rcases hd with rfl | rfl <;> decide
  have hsl := (start_le hd hn).1
  have hS := hid (Below.refl w.heap.size w)
  by_cases he : g.length = start d n
  · have e1 : ((g.length : Int) != ((start d n : Nat) : Int)) = false := by simp [he]
    have hrt := hid (fun (hh : ∀ k ∈ g, 0 ≤ k ∧ k ≤ (cnt d : Int) - 1) => (show r = true by rw [hr]; exact decide_eq_true ⟨he, fun k hk => by have := hh k hk; omega⟩))
    have hrf := hid (fun k (hk : k ∈ g) (hb : ¬ (0 ≤ k ∧ k ≤ (cnt d : Int) - 1)) => (show r = false by rw [hr]; exact decide_eq_false fun hp => by have := hp.2 k hk; omega))
    have hin := hid (fun x W => l01In_any x 0 ((cnt d : Int) - 1) (decide (0 ≤ x ∧ x ≤ (cnt d : Int) - 1)) rfl W)
    have ew : IntKind.i64.wrap ((cnt d : Int) - 1) = (cnt d : Int) - 1 := IntWalk.i64_in _ (by omega)
    have hcell := hid (fun (j : Nat) (x : Int) (hx : g[j]? = some x) => (show ∃ ga, A = some ⟨ga, 0, none⟩ ∧ ∀ W, Below w.heap.size w W → W.cell? ⟨ga, j, none⟩ = some (.int .i64 x) from by
      rcases hA with ⟨_, h1, _⟩ | ⟨ga, rfl, _⟩
      · have h2 : g.length = 0 := by rw [← hil, h1]; rfl
        have h3 := (List.getElem?_eq_some_iff.1 hx).1
        omega
      · exact ⟨ga, rfl, fun W hW => (h.below hW).cellAt j _ (by simp [ints, hx])⟩))
    clear hr h hA he
    generalize start d n = R at *
    generalize cnt d = C at *
    generalize hgl : g.length = L at *
    replace hgl := hid hgl
    go_enter Try.func146, Try.ntmps146
    go_wp2_with (first
      | (go_at_call 101; (with_reducible refine (hst.out _).mono ?_); rintro e w' ⟨rfl, rfl⟩))
    go_loopw [7] (fun i wr => ∃ j : Nat, j ≤ L ∧ i = .int .i64 j ∧ Hid (∀ i x, i < j → g[i]? = some x → 0 ≤ x ∧ x ≤ (C : Int) - 1) ∧ Hid (Below w.heap.size w wr)) (fun i _ => L - (intOf i).toNat)
    case atStart => exact ⟨0, Nat.zero_le _, rfl, fun i x h => absurd h (by omega), hS⟩
    case round =>
      obtain ⟨j, hj, rfl, hall, rS⟩ := hrel
      clear hS
      by_cases hlt : j < L
      · obtain ⟨x, hx⟩ : ∃ x, g[j]? = some x := ⟨_, List.getElem?_eq_getElem (by rw [hgl.out]; exact hlt)⟩
        obtain ⟨ga, rfl, hce⟩ := hcell.out j x hx
        have co := hce _ rS.out
        have dj : decide ((j : Int) < (L : Int)) = true := decide_eq_true (by omega)
        have j0 : (0 : Int) ≤ (j : Int) := Int.natCast_nonneg _
        have j1 : (j : Int) < (L : Int) := by omega
        by_cases hr : 0 ≤ x ∧ x ≤ (C : Int) - 1
        · have hin2 := hid (fun W => by have h := hin.out x W; rw [decide_eq_true hr] at h; exact h)
          have hall2 := hid (fun i y (hi : i < j + 1) (hy : g[i]? = some y) => (show 0 ≤ y ∧ y ≤ (C : Int) - 1 from by
            by_cases e : i < j
            · exact hall.out i y e hy
            · obtain rfl : i = j := by omega
              rw [hx] at hy; injection hy with hy; subst hy
              exact hr))
          clear hr hce hx
          go_upto_region 6 with (fail)
          go_quiet (first
            | (go_at_call 149; exact quiet_same (hct.out _))
            | (go_at_call 58; exact quiet_same (hin2.out _)))
          go_wp2
          go_roundw
          case rel => exact ⟨j + 1, by omega, by go_num, hall2, below_drewN rS.out _⟩
          case measure => simp [intOf]; omega
        · have hin2 := hid (fun W => by have h := hin.out x W; rw [decide_eq_false hr] at h; exact h)
          have hR := hid (hrf.out x (List.mem_of_getElem? hx) hr)
          clear hr hce hx
          go_upto_region 6 with (fail)
          go_quiet (first
            | (go_at_call 149; exact quiet_same (hct.out _))
            | (go_at_call 58; exact quiet_same (hin2.out _)))
          go_wp2
          go_ret
          exact ⟨retB hR.out.symm, below_drewN rS.out _⟩
      · obtain rfl : j = L := by omega
        have dj : decide ((j : Int) < (j : Int)) = false := decide_eq_false (by omega)
        have hR := hid (hrt.out fun x hx => by
          obtain ⟨i, hi, rfl⟩ := List.getElem_of_mem hx
          exact hall.out i _ (by rw [← hgl.out]; exact hi) (List.getElem?_eq_getElem hi))
        go_wp2
        go_ret
        exact ⟨retB hR.out.symm, rS.out⟩
  · have e1 : ((g.length : Int) != ((start d n : Nat) : Int)) = true := by simp; omega
    have hr2 := hid (show r = false by rw [hr]; exact decide_eq_false fun h => he h.1)
    clear hr h hA he
    generalize start d n = R at *
    generalize g.length = L at *
    go_enter Try.func146, Try.ntmps146
    go_wp2_with (first
      | (go_at_call 101; (with_reducible refine (hst.out _).mono ?_); rintro e w' ⟨rfl, rfl⟩))
    go_ret
    exact ⟨retB hr2.out.symm, hS.out⟩
set_option maxHeartbeats 1000000 in
set_option maxRecDepth 100000 in
theorem l03Code_any (w : World) (d n : Int) (base : Nat) (v : Value) (M : List (List Int)) (h : Mat w base v M) (hl : M.length < 2000000) (hlr : ∀ row ∈ M, row.length < 2000000) :
    Calls Try.prog 99 #[.int .i64 d, .int .i64 n, v] w fun e w' => e = .returned (.int .i64 (pcode d n M)) ∧ Below w.heap.size w w' := by
  have hsi := hid (fun W => l03Sizes_any d n (decide (IsD d n)) rfl W)
  have hS := hid (Below.refl w.heap.size w)
  by_cases hD : IsD d n
  · rw [decide_eq_true hD] at hsi
    have hpt := hid (fun (hh : ∀ g ∈ M, IsP d.toNat n.toNat g) => (show pcode d n M = 0 by unfold pcode; rw [if_pos hD, if_pos hh]))
    have hpf := hid (fun g (hg : g ∈ M) (hb : ¬ IsP d.toNat n.toNat g) => (show pcode d n M = 1 by unfold pcode; rw [if_pos hD, if_neg fun hh => hb (hh g hg)]))
    obtain ⟨d, n, rfl, rfl, hd, hn1, hn4⟩ := hD.nat
    simp only [Int.toNat_natCast] at hpt hpf
    have his := hid (fun W b v g (hO : Own W b 2 v (ints g)) (hm : g ∈ M) (r : Bool) (hr : r = decide (IsP d n g)) => l03Is_any W d n hd hn4 b v g hO (hlr g hm) r hr)
    have hcell := hid (fun (j : Nat) (x : List Int) (hx : M[j]? = some x) => (show ∃ ga, v = .slice (some ⟨ga, 0, none⟩) M.length (match v with | .slice _ _ c => c | _ => 0) ∧ ∀ W, Below w.heap.size w W → ∃ r, W.cell? ⟨ga, j, none⟩ = some r ∧ Own W base 2 r (ints x) from by
      obtain ⟨ga, ca, rfl, _⟩ := h.blk (fun e => by rw [e] at hx; simp at hx)
      exact ⟨ga, rfl, fun W hW => (h.below hW).row j x hx⟩))
    obtain ⟨A, c, rfl⟩ := h.form
    dsimp only at hcell
    clear h hlr hD
    obtain ⟨R, hR⟩ : ∃ R, R = pcode d n M := ⟨_, rfl⟩
    rw [← hR] at hpt hpf ⊢
    clear hR
    generalize hML : M.length = L at *
    replace hML := hid hML
    go_enter Try.func99, Try.ntmps99
    go_wp2_with (first
      | (go_at_call 145; (with_reducible refine (hsi.out _).mono ?_); rintro e w' ⟨rfl, rfl⟩))
    go_loopw [7] (fun i wr => ∃ j : Nat, j ≤ L ∧ i = .int .i64 j ∧ Hid (∀ i x, i < j → M[i]? = some x → IsP d n x) ∧ Hid (Below w.heap.size w wr)) (fun i _ => L - (intOf i).toNat)
    case atStart => exact ⟨0, Nat.zero_le _, rfl, fun i x h => absurd h (by omega), hS⟩
    case round =>
      obtain ⟨j, hj, rfl, hall, rS⟩ := hrel
      clear hS
      by_cases hlt : j < L
      · obtain ⟨x, hx⟩ : ∃ x, M[j]? = some x := ⟨_, List.getElem?_eq_getElem (by rw [hML.out]; exact hlt)⟩
        obtain ⟨ga, he, hce⟩ := hcell.out j x hx
        injection he with he
        subst he
        obtain ⟨rv, co, hO⟩ := hce _ rS.out
        have dj : decide ((j : Int) < (L : Int)) = true := decide_eq_true (by omega)
        have j0 : (0 : Int) ≤ (j : Int) := Int.natCast_nonneg _
        have j1 : (j : Int) < (L : Int) := by omega
        by_cases hr : IsP d n x
        · have hi2 := hid (his.out wr base rv x hO (List.mem_of_getElem? hx) true (decide_eq_true hr).symm)
          have hall2 := hid (fun i y (hi : i < j + 1) (hy : M[i]? = some y) => (show IsP d n y from by
            by_cases e : i < j
            · exact hall.out i y e hy
            · obtain rfl : i = j := by omega
              rw [hx] at hy; injection hy with hy; subst hy
              exact hr))
          clear hr hce hx hO
          go_wp2_with (first
            | (go_at_call 146; (with_reducible refine (hi2.out).mono ?_); rintro e w3 ⟨rfl, hb⟩; replace rS := hid (rS.out.trans (hb.mono rS.out.size)); clear hb))
          go_roundw
          case rel => exact ⟨j + 1, by omega, by go_num, hall2, rS⟩
          case measure => simp [intOf]; omega
        · have hi2 := hid (his.out wr base rv x hO (List.mem_of_getElem? hx) false (decide_eq_false hr).symm)
          have hRR := hid (hpf.out x (List.mem_of_getElem? hx) hr)
          clear hr hce hx hO
          go_wp2_with (first
            | (go_at_call 146; (with_reducible refine (hi2.out).mono ?_); rintro e w3 ⟨rfl, hb⟩; replace rS := hid (rS.out.trans (hb.mono rS.out.size)); clear hb))
          go_ret
          exact ⟨retI hRR.out.symm, rS.out⟩
      · obtain rfl : j = L := by omega
        have dj : decide ((j : Int) < (j : Int)) = false := decide_eq_false (by omega)
        have hRR := hid (hpt.out fun x hx => by
          obtain ⟨i, hi, rfl⟩ := List.getElem_of_mem hx
          exact hall.out i _ (by rw [← hML.out]; exact hi) (List.getElem?_eq_getElem hi))
        go_wp2
        go_ret
        exact ⟨retI hRR.out.symm, rS.out⟩
  · rw [decide_eq_false hD] at hsi
    have hpc := hid (show pcode d n M = 2 by unfold pcode; rw [if_neg hD])
    rw [hpc.out]
    clear hD hpc h
    go_enter Try.func99, Try.ntmps99
    go_wp2_with (first
      | (go_at_call 145; (with_reducible refine (hsi.out _).mono ?_); rintro e w' ⟨rfl, rfl⟩))
    go_ret
    exact ⟨rfl, hS.out⟩
set_option maxHeartbeats 1000000 in
theorem l03At_any (w : World) (d n : Nat) (hd : d = 2 ∨ d = 3) (hn : n ≤ 4) (base : Nat) (v : Value) (g : List Int) (h : Own w base 2 v (ints g)) (hg : IsP d n g) (u : List Nat) (hu : ∀ x ∈ u, x < d) (hlen : u.length < n) :
    Calls Try.prog 50 #[.int .i64 d, v, .string (wstr u)] w fun e w' => e = .returned (.int .i64 (gAt d g u)) ∧ w = w' := by
  have hil := ints_length g
  have hin := gAt_in hd hg u hu hlen
  obtain ⟨ga, ca, rfl, _⟩ := h.blk (fun e => by have h : g.length = 0 := (by rw [← hil, e]; rfl); have := hin.1; omega)
  rw [hil] at h ⊢
  have co := h.cellAt (start d u.length + num d u) (.int .i64 (gAt d g u)) (by simp only [ints, List.getElem?_map, hin.2]; rfl)
  have hst := hid (fun W => l03Start_any d u.length hd (by omega) W)
  have hnm := hid (fun W => l01NumberOf_any d (by omega) (by omega) u hu (by have := pw5 (n := u.length) hd (by omega); omega) (by omega) W)
  have hsz := wstr_size u
  have hi2 := hin.1
  have hb1 := (start_le hd (show u.length ≤ 4 by omega))
  have hb2 := num_lt d u.length u rfl hu
  generalize gAt d g u = R at *
  clear hin hu h
  have i0 : (0 : Int) ≤ (start d u.length : Int) + (num d u : Int) := by omega
  have i1 : (start d u.length : Int) + (num d u : Int) < (g.length : Int) := by omega
  generalize wstr u = ws at *
  generalize hLn : u.length = L at *
  generalize start d L = a at *
  generalize num d u = b at *
  have ew : IntKind.i64.wrap ((a : Int) + (b : Int)) = (a : Int) + (b : Int) := IntWalk.i64_in _ (by omega)
  have et : ((a : Int) + (b : Int)).toNat = a + b := by omega
  go_enter Try.func50, Try.ntmps50
  go_wp2_with (first
    | (go_at_call 101; (with_reducible refine (hst.out _).mono ?_); rintro e w' ⟨rfl, rfl⟩)
    | (go_at_call 102; (with_reducible refine (hnm.out _).mono ?_); rintro e w' ⟨rfl, rfl⟩))
  go_ret
  exact ⟨rfl, rfl⟩
open Classical in
/-- The code of a portrait and a word of at most so many letters. -/
noncomputable def wcode (d n : Int) (g : List Int) (ws : ByteArray) (most : Int) : Int :=
  if pcode d n [g] = 0 then (if IsWd d ws then (if (ws.size : Int) ≤ most then 0 else 2) else 1) else pcode d n [g]
set_option maxHeartbeats 2000000 in
theorem l03Wordy_any (w : World) (d n : Int) (base : Nat) (v : Value) (g : List Int) (h : Own w base 2 v (ints g)) (hl : g.length < 2000000) (ws : ByteArray) (hws : ws.size < 1000000000000) (most : Int) :
    Calls Try.prog 48 #[.int .i64 d, .int .i64 n, v, .string ws, .int .i64 most] w fun e w' => e = .returned (.int .i64 (wcode d n g ws most)) ∧ Below w.heap.size w w' := by
  classical
  obtain ⟨A0, cp0, rfl, _, _⟩ := h.form
  rw [ints_length] at h ⊢
  have hS := (St.arg w h).newOwn [(Value.slice A0 g.length cp0)] 22 (by simp)
  simp only [List.length_cons, List.length_nil, Nat.zero_add] at hS
  replace hS := hid hS
  have hpc := hid (fun W b vv (hO : Own W b 22 vv [(Value.slice A0 g.length cp0)]) (hr : Own W b 2 (Value.slice A0 g.length cp0) (ints g)) => l03Code_any W d n b vv [g] (mat1 hO hr) (by simp) (by simp; omega))
  rcases pcode_cases d n g with hp | hp | ⟨hp, a, b, rfl, rfl, hd, hn1, hn4, hgp⟩
  · have hR := hid (show wcode d n g ws most = 1 by unfold wcode; rw [hp]; rfl)
    rw [hp] at hpc
    rw [hR.out]
    replace h := hid h
    clear hR hp
    go_enter Try.func48, Try.ntmps48
    go_wp2_with (first
      | (go_at_call 99; (with_reducible refine (hpc.out _ _ _ (hS.out.o0.mono (Nat.zero_le _)) hS.out.o1).mono ?_); rintro e w1 ⟨rfl, hb⟩; replace hS := hid (hS.out.call hb); clear hb))
    go_ret
    exact ⟨rfl, hS.out.bel⟩
  · have hR := hid (show wcode d n g ws most = 2 by unfold wcode; rw [hp]; rfl)
    rw [hp] at hpc
    rw [hR.out]
    replace h := hid h
    clear hR hp
    go_enter Try.func48, Try.ntmps48
    go_wp2_with (first
      | (go_at_call 99; (with_reducible refine (hpc.out _ _ _ (hS.out.o0.mono (Nat.zero_le _)) hS.out.o1).mono ?_); rintro e w1 ⟨rfl, hb⟩; replace hS := hid (hS.out.call hb); clear hb))
    go_ret
    exact ⟨rfl, hS.out.bel⟩
  · have hR : wcode a b g ws most = if IsWd a ws then (if (ws.size : Int) ≤ most then 0 else 2) else 1 := by unfold wcode; rw [hp]; rfl
    rw [hp] at hpc
    rw [hR]
    clear hR hp
    by_cases hw : IsWd a ws
    · rw [if_pos hw]
      have hle := hid (fun W => l01Letters_any (a : Int) (by omega) (by omega) ws hws true ⟨fun _ => hw.2, fun _ => rfl⟩ W)
      have d40 : decide ((40 : Int) < (ws.size : Int)) = false := decide_eq_false (by have := hw.1; omega)
      have hw40 := hw.1
      replace h := hid h; replace hw := hid hw; replace hgp := hid hgp
      by_cases hm : (ws.size : Int) ≤ most
      · rw [if_pos hm]
        have dm : decide (most < (ws.size : Int)) = false := decide_eq_false (by omega)
        go_enter Try.func48, Try.ntmps48
        go_wp2_with (first
          | (go_at_call 99; (with_reducible refine (hpc.out _ _ _ (hS.out.o0.mono (Nat.zero_le _)) hS.out.o1).mono ?_); rintro e w1 ⟨rfl, hb⟩; replace hS := hid (hS.out.call hb); clear hb)
          | (go_at_call 100; (with_reducible refine (hle.out _).mono ?_); rintro e w' ⟨rfl, rfl⟩))
        go_ret
        exact ⟨rfl, hS.out.bel⟩
      · rw [if_neg hm]
        have dm : decide (most < (ws.size : Int)) = true := decide_eq_true (by omega)
        go_enter Try.func48, Try.ntmps48
        go_wp2_with (first
          | (go_at_call 99; (with_reducible refine (hpc.out _ _ _ (hS.out.o0.mono (Nat.zero_le _)) hS.out.o1).mono ?_); rintro e w1 ⟨rfl, hb⟩; replace hS := hid (hS.out.call hb); clear hb)
          | (go_at_call 100; (with_reducible refine (hle.out _).mono ?_); rintro e w' ⟨rfl, rfl⟩))
        go_ret
        exact ⟨rfl, hS.out.bel⟩
    · rw [if_neg hw]
      by_cases h40 : ws.size ≤ 40
      · have d40 : decide ((40 : Int) < (ws.size : Int)) = false := decide_eq_false (by omega)
        have hle := hid (fun W => l01Letters_any (a : Int) (by omega) (by omega) ws hws false ⟨fun h => (by cases h), fun h => absurd ⟨h40, h⟩ hw⟩ W)
        replace h := hid h; replace hw := hid hw; replace hgp := hid hgp
        go_enter Try.func48, Try.ntmps48
        go_wp2_with (first
          | (go_at_call 99; (with_reducible refine (hpc.out _ _ _ (hS.out.o0.mono (Nat.zero_le _)) hS.out.o1).mono ?_); rintro e w1 ⟨rfl, hb⟩; replace hS := hid (hS.out.call hb); clear hb)
          | (go_at_call 100; (with_reducible refine (hle.out _).mono ?_); rintro e w' ⟨rfl, rfl⟩))
        go_ret
        exact ⟨rfl, hS.out.bel⟩
      · have d40 : decide ((40 : Int) < (ws.size : Int)) = true := decide_eq_true (by omega)
        replace h := hid h; replace hw := hid hw; replace hgp := hid hgp
        go_enter Try.func48, Try.ntmps48
        go_wp2_with (first
          | (go_at_call 99; (with_reducible refine (hpc.out _ _ _ (hS.out.o0.mono (Nat.zero_le _)) hS.out.o1).mono ?_); rintro e w1 ⟨rfl, hb⟩; replace hS := hid (hS.out.call hb); clear hb))
        go_ret
        exact ⟨rfl, hS.out.bel⟩
end Go.Proofs.Ythempofohidlnaa
