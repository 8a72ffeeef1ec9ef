/- What the proof of FnLevels leans on, part 22 of 28. -/
import Derived.Test.YthmcdfjijkecfaaGreatZFnLevelsU
/- DiameterOf: what the program answers. -/
namespace Go.Proofs.YthmcdfjijkecfaaGreat
open Go.RowKit
set_option linter.unusedVariables false
set_option linter.unusedSimpArgs false
-- @LONG

/-- The greatest number so far; nothing if a word isn't reached. -/
def diaL (f : Nat → List Int) : Nat → Option Int
  | 0 => some 0
  | k + 1 => match diaL f k with
    | none => none
    | some o => if -1 ∈ f k then none else some ((f k).foldl max o)
theorem foldl_max_ge (l : List Int) : ∀ a, a ≤ l.foldl max a := by
  induction l with
  | nil => intro a; exact Int.le_refl _
  | cons x l ih => intro a; exact Int.le_trans (Int.le_max_left a x) (ih (max a x))
theorem foldl_max_le (l : List Int) (b : Int) : ∀ a, a ≤ b → (∀ x ∈ l, x ≤ b) → l.foldl max a ≤ b := by
  induction l with
  | nil => intro a h _; exact h
  | cons x l ih => intro a h hx; exact ih (max a x) (Int.max_le.2 ⟨h, hx x (by simp)⟩) fun y hy => hx y (by simp [hy])
theorem foldl_max_max (l : List Int) : ∀ a b, l.foldl max (max a b) = max a (l.foldl max b) := by
  induction l with
  | nil => intro a b; rfl
  | cons x l ih => intro a b; simp only [List.foldl_cons]; rw [Int.max_assoc, ih]
theorem diaL_none {f : Nat → List Int} {k : Nat} (h : diaL f k = none) : ∀ j, diaL f (k + j) = none
  | 0 => h
  | j + 1 => by show diaL f (k + j + 1) = none; rw [diaL, diaL_none h j]
theorem diaL_bad {f : Nat → List Int} {k n : Nat} (hk : k < n) (h : -1 ∈ f k) : diaL f n = none := by
  obtain ⟨j, rfl⟩ : ∃ j, n = k + 1 + j := ⟨n - (k + 1), by omega⟩
  refine diaL_none ?_ j
  rw [diaL]
  cases diaL f k with
  | none => rfl
  | some o => simp [h]
theorem diaL_step {f : Nat → List Int} {k : Nat} {o : Int} (h : diaL f k = some o) (hn : ¬ -1 ∈ f k) : diaL f (k + 1) = some ((f k).foldl max o) := by
  rw [diaL, h]; simp [hn]
theorem diaL_range {f : Nat → List Int} {b : Int} (hb : 0 ≤ b) : ∀ (k : Nat) (o : Int), (∀ j, j < k → ∀ x ∈ f j, x ≤ b) → diaL f k = some o → 0 ≤ o ∧ o ≤ b
  | 0, o, _, h => by rw [diaL] at h; injection h with h; omega
  | k + 1, o, hf, h => by
    rw [diaL] at h
    cases hd : diaL f k with
    | none => rw [hd] at h; cases h
    | some o' =>
      have ih := diaL_range hb k o' (fun j hj => hf j (by omega)) hd
      rw [hd] at h
      dsimp only at h
      split at h
      · cases h
      · injection h with h
        rw [← h]
        exact ⟨Int.le_trans ih.1 (foldl_max_ge _ _), foldl_max_le _ b _ ih.2 (hf k (by omega))⟩
def diaR : Option Int → Int × Int
  | none => (0, 5)
  | some o => (o, 0)
/-- The distances from a word of a level. -/
def farL (m : Mach) (d s n k : Nat) : List Int := (treeT (lvT m d s n) s (pw d n) k).far
open Classical in
/-- What DiameterOf answers. -/
noncomputable def diaAns (m : Mach) (n : Int) : Int × Int :=
  if levelI m n = 0 then diaR (diaL (farL m m.L.toNat m.S.toNat n.toNat) (pw m.L.toNat n.toNat)) else (0, levelI m n)
theorem diaAns_c {m : Mach} {n : Int} (h : levelI m n ≠ 0) : diaAns m n = (0, levelI m n) := by unfold diaAns; rw [if_neg h]
theorem diaAns_0 {m : Mach} {d s n : Nat} (g : Good m d s) (h : levelI m n = 0) : diaAns m n = diaR (diaL (farL m d s n) (pw d n)) := by
  unfold diaAns
  rw [if_pos h, g.L, g.S]
  rfl
theorem farL_ok {m : Mach} {d s n k : Nat} (g : Good m d s) (hk : k < pw d n) : TrOk (pw d n) (treeT (lvT m d s n) s (pw d n) k) := growT_ok hk (fun j fr hj hf => lvT_lt g j fr hj hf) _
theorem TrOk.far_cases {n : Nat} {t : Tr} (h : TrOk n t) {x : Int} (hx : x ∈ t.far) : x = -1 ∨ (0 ≤ x ∧ x ≤ n) := by
  obtain ⟨i, hi, rfl⟩ := List.getElem_of_mem hx
  rcases h.fb i _ (List.getElem?_eq_getElem hi) with ⟨h1, _⟩ | ⟨_, h1, h2⟩
  · exact .inl h1
  · have := h.ql; exact .inr ⟨h1, by omega⟩
theorem if_max (a b : Int) : (if a < b then b else a) = max a b := by rw [Int.max_def]; split <;> split <;> omega
set_option maxHeartbeats 1000000 in
set_option maxRecDepth 100000 in
theorem slMax_any (w : World) (b1 : Nat) (v1 : Value) (x0 : Int) (l : List Int) (h1 : Own w b1 2 v1 (ints (x0 :: l))) (hl : l.length < 1000000) :
    Calls Tryz.prog 117 #[v1] w fun e w' => e = .returned (.int .i64 (l.foldl max x0)) ∧ w = w' := by
  obtain ⟨g, c, rfl, _, _⟩ := h1.blk (by simp [ints])
  rw [ints_length] at h1 ⊢
  have c0 := h1.cellAt 0 (.int .i64 x0) (by simp [ints])
  have hc := hid (fun (j : Nat) (x : Int) (hx : l[j]? = some x) => h1.cellAt (j + 1) (.int .i64 x) (by simp [ints, hx]))
  rw [List.length_cons] at h1 ⊢
  have hst := hid (fun (j : Nat) (x : Int) (hx : l[j]? = some x) => (show (l.take (j + 1)).foldl max x0 = max ((l.take j).foldl max x0) x by
    rw [List.take_add_one, hx]; simp))
  have hfull := hid (List.take_length (l := l))
  have hget := hid (fun (j : Nat) (hj : j < l.length) => (show ∃ x, l[j]? = some x from ⟨_, List.getElem?_eq_getElem hj⟩))
  clear h1
  obtain ⟨F, hF⟩ : ∃ F : Nat → Int, F = fun j => (l.take j).foldl max x0 := ⟨_, rfl⟩
  have hF0 := hid (show F 0 = x0 by rw [hF]; rfl)
  have hFs := hid (fun (j : Nat) (x : Int) (hx : l[j]? = some x) => (show F (j + 1) = max (F j) x by rw [hF]; exact hst.out j x hx))
  have hFe := hid (show l.foldl max x0 = F l.length by rw [hF]; dsimp only; rw [hfull.out])
  rw [hFe.out]
  clear hst hF hFe hfull
  generalize l.length = n at *
  go_enter Tryz.func117, Tryz.ntmps117
  go_wp2
  go_loop [3, 4] (fun m i => ∃ k : Nat, k ≤ n ∧ i = .int .i64 (k + 1 : Nat) ∧ m = .int .i64 (F k)) (fun _ i => n + 1 - (intOf i).toNat)
  case atStart => exact ⟨0, Nat.zero_le _, rfl, by rw [hF0.out]⟩
  case round =>
    obtain ⟨k, hk, rfl, rfl⟩ := hrel
    clear c0
    by_cases hlt : k < n
    · obtain ⟨x, hx⟩ := hget.out k hlt
      have ck := hc.out k x hx
      have hf := hid (hFs.out k x hx)
      have dk : decide (((k + 1 : Nat) : Int) < ((n + 1 : Nat) : Int)) = true := decide_eq_true (by omega)
      have k0 : (0 : Int) ≤ ((k + 1 : Nat) : Int) := Int.natCast_nonneg _
      have k1 : ((k + 1 : Nat) : Int) < ((n + 1 : Nat) : Int) := by omega
      clear hx
      generalize hk1 : k + 1 = k' at *
      replace hk1 := hid hk1
      go_wp2
      go_round
      case rel => exact ⟨k + 1, by omega, by rw [hk1.out]; go_num, i64_eq (by rw [hk1.out, hf.out]; exact if_max _ _)⟩
      case measure => simp [intOf]; omega
    · obtain rfl : k = n := by omega
      go_wp2
      go_ret
      exact ⟨rfl, rfl⟩
set_option maxHeartbeats 4000000 in
set_option maxRecDepth 100000 in
theorem implDia_any (w : World) (m : Mach) (hk : m.Ok) (n : Int) :
    Calls Tryz.prog 24 #[.agg (mcells m), .int .i64 n] w fun e w' => e = .returned (.tuple #[.int .i64 (diaAns m n).1, .int .i64 (diaAns m n).2]) ∧ Below w.heap.size w w' := by
  have hS := hid ((St.start w).newMB m 27)
  have hcode := hid (fun W => levelCode_any W m hk n)
  by_cases h0 : levelI m n = 0
  · obtain ⟨d, s, n, gd, rfl, hn5, hnl, hpw⟩ := levelI_good h0
    rw [h0] at hcode
    have hgr := hid (fun W hW => graph_any w.heap.size W m hW d s gd n (by omega) (by omega))
    have htr := hid (fun k (hk' : k < pw d n) W G vA vB (hG : GB W G (pw d n) vA vB (tabA m d n s) (tabA (inv m d s) d n s)) => tree_any W G (pw d n) s k vA vB _ _ hG (pw_few gd.l2 gd.l3 hnl) hk' (tabA_length _ _ _ _) (tabA_length _ _ _ _) gd.s1 gd.s16 (lvT m d s n) (fun p hp => lvT_A p hp) (fun p hp => lvT_B p hp) (fun j fr hj hf => lvT_lt gd j fr hj hf))
    have hok := hid (fun k (hk' : k < pw d n) => farL_ok (m := m) gd hk')
    rw [diaAns_0 gd h0]
    have hfe := hid (fun k => (show (treeT (lvT m d s n) s (pw d n) k).far = farL m d s n k from rfl))
    have hpos := pw_pos d (by have := gd.l2; omega) n
    obtain ⟨R, hR⟩ : ∃ R : Int × Int, R = diaR (diaL (farL m d s n) (pw d n)) := ⟨_, rfl⟩
    have hRn := hid (fun k (hk' : k < pw d n) (hm : -1 ∈ farL m d s n k) => (show R = (0, 5) by rw [hR, diaL_bad hk' hm]; rfl))
    have hRs := hid (fun o (h : diaL (farL m d s n) (pw d n) = some o) => (show R = (o, 0) by rw [hR, h]; rfl))
    have hstep := hid (fun k o (h : diaL (farL m d s n) k = some o) (hn : ¬ -1 ∈ farL m d s n k) => diaL_step h hn)
    have hcas := hid (fun k (hk' : k < pw d n) x (hx : x ∈ farL m d s n k) => (farL_ok (m := m) gd hk').far_cases hx)
    have hlen := hid (fun k (hk' : k < pw d n) => (show (farL m d s n k).length = pw d n from (farL_ok (m := m) gd hk').fl))
    have hran := hid (fun k o (hk' : k ≤ pw d n) (h : diaL (farL m d s n) k = some o) => diaL_range (b := ((pw d n : Nat) : Int)) (by omega) k o (fun j hj x hx => by rcases (farL_ok (m := m) gd (show j < pw d n by omega)).far_cases hx with h | h <;> omega) h)
    rw [← hR]
    clear hR
    replace hk := hid hk; replace gd := hid gd
    clear h0
    generalize farL m d s n = F at *
    generalize hM : pw d n = M at *
    replace hM := hid hM
    go_enter Tryz.func24, Tryz.ntmps24
    go_wp2_with (first
      | ((with_reducible refine gate (N := 11) rfl ?_); refine load_mach rfl _ rfl w.heap.size rfl m hS.out.m0 ?_)
      | (go_at_call 108; (with_reducible refine (hcode.out _).mono ?_); rintro e w1 ⟨rfl, hb⟩; replace hS := hid (hS.out.call hb); clear hb hcode)
      | (go_at_call 109; (with_reducible refine (hgr.out _ hS.out.m0).mono ?_); rintro e w2 ⟨vA, vB, rfl, hG, hb⟩; (have hG1 := hG.c0); replace hS := hid (hS.out.call hb); replace hG := hid hG; clear hb hgr))
    go_loopw [8, 23] (fun o i wr => ∃ (k : Nat) (x : Int), k ≤ M ∧ i = .int .i64 k ∧ o = .int .i64 x ∧ Hid (diaL F k = some x) ∧ St w2.heap.size w2 [] wr) (fun _ i _ => M - (intOf i).toNat)
    case atStart => exact ⟨0, 0, Nat.zero_le _, rfl, rfl, rfl, St.start _⟩
    case round =>
      obtain ⟨k, x, hkM, rfl, rfl, hd, rS⟩ := hrel
      have hG0 := (hG.out.below rS.bel).c0
      have hGr := hid (hG.out.below rS.bel)
      replace rS := hid rS
      by_cases hlt : k < M
      · have dk : decide ((k : Int) < (M : Int)) = true := decide_eq_true (by omega)
        have htk := hid (htr.out k hlt _ _ _ _ hGr.out)
        have hf := hid (hfe.out k)
        have hl := hid (hlen.out k hlt)
        have hran2 := hran.out k x hkM hd.out
        have hcm := hid (fun W b v (hO : Own W b 2 v (ints (F k))) (r : Bool) (hr : Tells r (-1 ∈ F k)) => slContains_any W b v (F k) (-1) hO (by rw [hl.out]; omega) r hr)
        generalize treeT (lvT m d s n) s M k = t at *
        by_cases hm : -1 ∈ F k
        · have hRR := hid (hRn.out k hlt hm)
          replace hcm := hid (fun W b v (hO : Own W b 2 v (ints (F k))) => hcm.out W b v hO true ⟨fun _ => hm, fun _ => rfl⟩)
          clear hm hG1
          go_wp2_with (first
            | (go_at_call 111; (with_reducible refine (htk.out).mono ?_); rintro e w4 ⟨bt, gf, gw, vq, rows, rfl, hT⟩; (have q1 := (show w4.cell? ⟨bt, 1, none⟩ = some (Value.slice (some ⟨gf, 0, none⟩) M M) from cell_of_row _ _ 1 _ _ _ hT.k0)); (have hO := hT.o2); rw [hf.out] at hO; replace hO := hid hO; replace rS := hid (rS.out.outer hT); replace hT := hid hT)
            | (go_at_call 116; (with_reducible refine (hcm.out _ _ _ hO.out).mono ?_); rintro e w' ⟨rfl, rfl⟩))
          go_ret2
          exact ⟨by rw [hRR.out]; rfl, hS.out.bel.trans (rS.out.bel.mono hS.out.le)⟩
        · obtain ⟨y, l, hyl⟩ : ∃ y l, F k = y :: l := by
            cases he : F k with
            | nil => have := hl.out; rw [he] at this; simp at this; omega
            | cons y l => exact ⟨y, l, rfl⟩
          have hmx := hid (fun W b v (hO : Own W b 2 v (ints (F k))) => slMax_any W b v y l (by rw [← hyl]; exact hO) (by have := hl.out; rw [hyl] at this; simp at this; omega))
          have hst := hid ((hstep.out k x hd.out hm).trans (show some ((F k).foldl max x) = some (max x (l.foldl max y)) by rw [hyl]; simp only [List.foldl_cons]; rw [foldl_max_max]))
          replace hcm := hid (fun W b v (hO : Own W b 2 v (ints (F k))) => hcm.out W b v hO false ⟨fun h => (by cases h), fun h => absurd h hm⟩)
          clear hm hyl hG1
          generalize l.foldl max y = mx at *
          go_wp2_with (first
            | (go_at_call 111; (with_reducible refine (htk.out).mono ?_); rintro e w4 ⟨bt, gf, gw, vq, rows, rfl, hT⟩; (have q1 := (show w4.cell? ⟨bt, 1, none⟩ = some (Value.slice (some ⟨gf, 0, none⟩) M M) from cell_of_row _ _ 1 _ _ _ hT.k0)); (have hO := hT.o2); rw [hf.out] at hO; replace hO := hid hO; replace rS := hid (rS.out.outer hT); replace hT := hid hT)
            | (go_at_call 116; (with_reducible refine (hcm.out _ _ _ hO.out).mono ?_); rintro e w' ⟨rfl, rfl⟩)
            | (go_at_call 117; (with_reducible refine (hmx.out _ _ _ hO.out).mono ?_); rintro e w' ⟨rfl, rfl⟩))
          go_roundw
          case rel => exact ⟨k + 1, _, by omega, by go_num, rfl, hid (hst.out.trans (by rw [if_max])), rS.out⟩
          case measure => simp [intOf]; omega
      · obtain rfl : k = M := by omega
        have hRR := hid (hRs.out x hd.out)
        clear hG1
        have dk : decide ((k : Int) < (k : Int)) = false := decide_eq_false (by omega)
        go_wp2
        go_ret2
        exact ⟨by rw [hRR.out]; rfl, hS.out.bel.trans (rS.out.bel.mono hS.out.le)⟩
  · rw [diaAns_c h0]
    have dn : ((levelI m n) != 0) = true := by simpa using h0
    generalize levelI m n = cd at *
    replace hk := hid hk
    clear h0
    go_enter Tryz.func24, Tryz.ntmps24
    go_wp2_with (first
      | ((with_reducible refine gate (N := 11) rfl ?_); refine load_mach rfl _ rfl w.heap.size rfl m hS.out.m0 ?_)
      | (go_at_call 108; (with_reducible refine (hcode.out _).mono ?_); rintro e w1 ⟨rfl, hb⟩; replace hS := hid (hS.out.call hb); clear hb hcode))
    go_ret2
    exact ⟨rfl, hS.out.bel⟩
end Go.Proofs.YthmcdfjijkecfaaGreat
