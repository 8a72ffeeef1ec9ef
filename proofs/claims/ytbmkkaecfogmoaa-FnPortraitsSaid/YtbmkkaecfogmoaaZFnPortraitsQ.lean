/- What the proof of FnPortraits leans on, part 17 of 26. -/
import Derived.Test.YtbmkkaecfogmoaaZFnPortraitsP
/- Portraits: the reference's small functions. -/
namespace Go.Proofs.Ytbmkkaecfogmoaa
open Go.RowKit
set_option linter.unusedVariables false
set_option linter.unusedSimpArgs false
-- @LONG

theorem l03Sizes_any (d n : Int) (r : Bool) (hr : r = decide (IsD d n)) (w : World) :
    Calls Try.prog 126 #[.int .i64 d, .int .i64 n] w fun e w' => e = .returned (.bool r) ∧ w = w' := by
  have hl := hid (fun W => l01In_any d 2 3 (decide (2 ≤ d ∧ d ≤ 3)) rfl W)
  have hw := hid (fun W => l01In_any n 1 4 (decide (1 ≤ n ∧ n ≤ 4)) rfl W)
  by_cases h1 : 2 ≤ d ∧ d ≤ 3
  · have hr2 := hid (show r = decide (1 ≤ n ∧ n ≤ 4) by rw [hr]; unfold IsD; simp [h1])
    rw [decide_eq_true h1] at hl
    generalize decide (1 ≤ n ∧ n ≤ 4) = c at *
    clear h1 hr
    go_enter Try.func126, Try.ntmps126
    go_wp2_with (first
      | (go_at_call 91; (first | (with_reducible refine (hl.out _).mono ?_) | (with_reducible refine (hw.out _).mono ?_)); rintro e w' ⟨rfl, rfl⟩))
    go_ret
    exact ⟨retB hr2.out.symm, rfl⟩
  · have hr2 := hid (show r = false by rw [hr]; unfold IsD; simp [h1])
    rw [decide_eq_false h1] at hl
    clear h1 hr
    go_enter Try.func126, Try.ntmps126
    go_wp2_with (first
      | (go_at_call 91; (with_reducible refine (hl.out _).mono ?_); rintro e w' ⟨rfl, rfl⟩))
    go_ret
    exact ⟨retB hr2.out.symm, rfl⟩
theorem l03Count_any (d : Nat) (hd : d = 2 ∨ d = 3) (w : World) :
    Calls Try.prog 141 #[.int .i64 d] w fun e w' => e = .returned (.int .i64 (cnt d : Nat)) ∧ w = w' := by
  rcases hd with rfl | rfl
  · go_enter Try.func141, Try.ntmps141
    go_wp2
    go_ret
    exact ⟨rfl, rfl⟩
  · go_enter Try.func141, Try.ntmps141
    go_wp2
    go_ret
    exact ⟨rfl, rfl⟩
theorem l03Start_any (d n : Nat) (hd : d = 2 ∨ d = 3) (hn : n ≤ 5) (w : World) :
    Calls Try.prog 205 #[.int .i64 d, .int .i64 n] w fun e w' => e = .returned (.int .i64 (start d n : Nat)) ∧ w = w' := by
  have hp := hid (fun k (hk : k < n) W => l01Power_any d k (by omega) (by have := pw5 (n := k) hd (by omega); omega) (by omega) W)
  have hp5 := hid (fun k (hk : k < n) => pw5 (n := k) hd (by omega))
  have hst := hid (fun k (hk : k < n) => (show start d k ≤ 243 by
    have := start_pw d (by omega) k
    have h2 : start d k ≤ start d k * (d - 1) := Nat.le_mul_of_pos_right _ (by omega)
    have h3 := pw5 (n := k) hd (by omega)
    omega))
  have hsn := hid (fun k => (show start d (k + 1) = start d k + pw d k from rfl))
  clear hd
  go_enter Try.func205, Try.ntmps205
  go_wp2
  go_loop [5, 6] (fun p i => ∃ k : Nat, k ≤ n ∧ i = .int .i64 k ∧ p = .int .i64 (start d k : Nat)) (fun _ i => n - (intOf i).toNat)
  case atStart => exact ⟨0, by omega, rfl, rfl⟩
  case round =>
    obtain ⟨k, hk, rfl, rfl⟩ := hrel
    by_cases hlt : k < n
    · have dk : decide ((k : Int) < (n : Int)) = true := decide_eq_true (by omega)
      have hpk := hid (hp.out k hlt)
      have h1 := hp5.out k hlt
      have h2 := hst.out k hlt
      have h3 := hid (hsn.out k)
      generalize start d k = a at *
      generalize pw d k = b at *
      go_wp2_with (first
        | (go_at_call 196; (with_reducible refine (hpk.out _).mono ?_); rintro e w' ⟨rfl, rfl⟩))
      go_round
      case rel => exact ⟨k + 1, by omega, by go_num, by rw [h3.out]; go_num⟩
      case measure => simp [intOf]; omega
    · obtain rfl : k = n := by omega
      have dk : decide ((k : Int) < (k : Int)) = false := decide_eq_false (by omega)
      go_wp2
      go_ret
      exact ⟨rfl, rfl⟩
set_option maxHeartbeats 1000000 in
set_option maxRecDepth 100000 in
theorem l03Is_any (w : World) (d n : Nat) (hd : d = 2 ∨ d = 3) (hn : n ≤ 4) (base : Nat) (v : Value) (g : List Int) (h : Own w base 2 v (ints g)) (hl : g.length < 2000000) (r : Bool) (hr : r = decide (IsP d n g)) :
    Calls Try.prog 127 #[.int .i64 d, .int .i64 n, v] w fun e w' => e = .returned (.bool r) ∧ Below w.heap.size w w' := by
  have hil := ints_length g
  obtain ⟨A, c, rfl, _, hA⟩ := h.form
  rw [hil] at h ⊢
  have hst := hid (fun W => l03Start_any d n hd (by omega) W)
  have hct := hid (fun W => l03Count_any d hd W)
  have hc6 : cnt d ≤ 6 ∧ 2 ≤ cnt d := by rcases hd with rfl | rfl <;> decide
  have hsl := (start_le hd hn).1
  have hS := hid (Below.refl w.heap.size w)
  by_cases he : g.length = start d n
  · have e1 : ((g.length : Int) != ((start d n : Nat) : Int)) = false := by simp [he]
    have hrt := hid (fun (hh : ∀ k ∈ g, 0 ≤ k ∧ k ≤ (cnt d : Int) - 1) => (show r = true by rw [hr]; exact decide_eq_true ⟨he, fun k hk => by have := hh k hk; omega⟩))
    have hrf := hid (fun k (hk : k ∈ g) (hb : ¬ (0 ≤ k ∧ k ≤ (cnt d : Int) - 1)) => (show r = false by rw [hr]; exact decide_eq_false fun hp => by have := hp.2 k hk; omega))
    have hin := hid (fun x W => l01In_any x 0 ((cnt d : Int) - 1) (decide (0 ≤ x ∧ x ≤ (cnt d : Int) - 1)) rfl W)
    have ew : IntKind.i64.wrap ((cnt d : Int) - 1) = (cnt d : Int) - 1 := IntWalk.i64_in _ (by omega)
    have hcell := hid (fun (j : Nat) (x : Int) (hx : g[j]? = some x) => (show ∃ ga, A = some ⟨ga, 0, none⟩ ∧ ∀ W, Below w.heap.size w W → W.cell? ⟨ga, j, none⟩ = some (.int .i64 x) from by
      rcases hA with ⟨_, h1, _⟩ | ⟨ga, rfl, _⟩
      · have h2 : g.length = 0 := by rw [← hil, h1]; rfl
        have h3 := (List.getElem?_eq_some_iff.1 hx).1
        omega
      · exact ⟨ga, rfl, fun W hW => (h.below hW).cellAt j _ (by simp [ints, hx])⟩))
    clear hr h hA he
    generalize start d n = R at *
    generalize cnt d = C at *
    generalize hgl : g.length = L at *
    replace hgl := hid hgl
    go_enter Try.func127, Try.ntmps127
    go_wp2_with (first
      | (go_at_call 205; (with_reducible refine (hst.out _).mono ?_); rintro e w' ⟨rfl, rfl⟩))
    go_loopw [7] (fun i wr => ∃ j : Nat, j ≤ L ∧ i = .int .i64 j ∧ Hid (∀ i x, i < j → g[i]? = some x → 0 ≤ x ∧ x ≤ (C : Int) - 1) ∧ Hid (Below w.heap.size w wr)) (fun i _ => L - (intOf i).toNat)
    case atStart => exact ⟨0, Nat.zero_le _, rfl, fun i x h => absurd h (by omega), hS⟩
    case round =>
      obtain ⟨j, hj, rfl, hall, rS⟩ := hrel
      clear hS
      by_cases hlt : j < L
      · obtain ⟨x, hx⟩ : ∃ x, g[j]? = some x := ⟨_, List.getElem?_eq_getElem (by rw [hgl.out]; exact hlt)⟩
        obtain ⟨ga, rfl, hce⟩ := hcell.out j x hx
        have co := hce _ rS.out
        have dj : decide ((j : Int) < (L : Int)) = true := decide_eq_true (by omega)
        have j0 : (0 : Int) ≤ (j : Int) := Int.natCast_nonneg _
        have j1 : (j : Int) < (L : Int) := by omega
        by_cases hr : 0 ≤ x ∧ x ≤ (C : Int) - 1
        · have hin2 := hid (fun W => by have h := hin.out x W; rw [decide_eq_true hr] at h; exact h)
          have hall2 := hid (fun i y (hi : i < j + 1) (hy : g[i]? = some y) => (show 0 ≤ y ∧ y ≤ (C : Int) - 1 from by
            by_cases e : i < j
            · exact hall.out i y e hy
            · obtain rfl : i = j := by omega
              rw [hx] at hy; injection hy with hy; subst hy
              exact hr))
          clear hr hce hx
          go_upto_region 6 with (fail)
          go_quiet (first
            | (go_at_call 141; exact quiet_same (hct.out _))
            | (go_at_call 91; exact quiet_same (hin2.out _)))
          go_wp2
          go_roundw
          case rel => exact ⟨j + 1, by omega, by go_num, hall2, below_drewN rS.out _⟩
          case measure => simp [intOf]; omega
        · have hin2 := hid (fun W => by have h := hin.out x W; rw [decide_eq_false hr] at h; exact h)
          have hR := hid (hrf.out x (List.mem_of_getElem? hx) hr)
          clear hr hce hx
          go_upto_region 6 with (fail)
          go_quiet (first
            | (go_at_call 141; exact quiet_same (hct.out _))
            | (go_at_call 91; exact quiet_same (hin2.out _)))
          go_wp2
          go_ret
          exact ⟨retB hR.out.symm, below_drewN rS.out _⟩
      · obtain rfl : j = L := by omega
        have dj : decide ((j : Int) < (j : Int)) = false := decide_eq_false (by omega)
        have hR := hid (hrt.out fun x hx => by
          obtain ⟨i, hi, rfl⟩ := List.getElem_of_mem hx
          exact hall.out i _ (by rw [← hgl.out]; exact hi) (List.getElem?_eq_getElem hi))
        go_wp2
        go_ret
        exact ⟨retB hR.out.symm, rS.out⟩
  · have e1 : ((g.length : Int) != ((start d n : Nat) : Int)) = true := by simp; omega
    have hr2 := hid (show r = false by rw [hr]; exact decide_eq_false fun h => he h.1)
    clear hr h hA he
    generalize start d n = R at *
    generalize g.length = L at *
    go_enter Try.func127, Try.ntmps127
    go_wp2_with (first
      | (go_at_call 205; (with_reducible refine (hst.out _).mono ?_); rintro e w' ⟨rfl, rfl⟩))
    go_ret
    exact ⟨retB hr2.out.symm, hS.out⟩
set_option maxHeartbeats 1000000 in
set_option maxRecDepth 100000 in
theorem l03Code_any (w : World) (d n : Int) (base : Nat) (v : Value) (M : List (List Int)) (h : Mat w base v M) (hl : M.length < 2000000) (hlr : ∀ row ∈ M, row.length < 2000000) :
    Calls Try.prog 118 #[.int .i64 d, .int .i64 n, v] w fun e w' => e = .returned (.int .i64 (pcode d n M)) ∧ Below w.heap.size w w' := by
  have hsi := hid (fun W => l03Sizes_any d n (decide (IsD d n)) rfl W)
  have hS := hid (Below.refl w.heap.size w)
  by_cases hD : IsD d n
  · rw [decide_eq_true hD] at hsi
    have hpt := hid (fun (hh : ∀ g ∈ M, IsP d.toNat n.toNat g) => (show pcode d n M = 0 by unfold pcode; rw [if_pos hD, if_pos hh]))
    have hpf := hid (fun g (hg : g ∈ M) (hb : ¬ IsP d.toNat n.toNat g) => (show pcode d n M = 1 by unfold pcode; rw [if_pos hD, if_neg fun hh => hb (hh g hg)]))
    obtain ⟨d, n, rfl, rfl, hd, hn1, hn4⟩ := hD.nat
    simp only [Int.toNat_natCast] at hpt hpf
    have his := hid (fun W b v g (hO : Own W b 2 v (ints g)) (hm : g ∈ M) (r : Bool) (hr : r = decide (IsP d n g)) => l03Is_any W d n hd hn4 b v g hO (hlr g hm) r hr)
    have hcell := hid (fun (j : Nat) (x : List Int) (hx : M[j]? = some x) => (show ∃ ga, v = .slice (some ⟨ga, 0, none⟩) M.length (match v with | .slice _ _ c => c | _ => 0) ∧ ∀ W, Below w.heap.size w W → ∃ r, W.cell? ⟨ga, j, none⟩ = some r ∧ Own W base 2 r (ints x) from by
      obtain ⟨ga, ca, rfl, _⟩ := h.blk (fun e => by rw [e] at hx; simp at hx)
      exact ⟨ga, rfl, fun W hW => (h.below hW).row j x hx⟩))
    obtain ⟨A, c, rfl⟩ := h.form
    dsimp only at hcell
    clear h hlr hD
    obtain ⟨R, hR⟩ : ∃ R, R = pcode d n M := ⟨_, rfl⟩
    rw [← hR] at hpt hpf ⊢
    clear hR
    generalize hML : M.length = L at *
    replace hML := hid hML
    go_enter Try.func118, Try.ntmps118
    go_wp2_with (first
      | (go_at_call 126; (with_reducible refine (hsi.out _).mono ?_); rintro e w' ⟨rfl, rfl⟩))
    go_loopw [7] (fun i wr => ∃ j : Nat, j ≤ L ∧ i = .int .i64 j ∧ Hid (∀ i x, i < j → M[i]? = some x → IsP d n x) ∧ Hid (Below w.heap.size w wr)) (fun i _ => L - (intOf i).toNat)
    case atStart => exact ⟨0, Nat.zero_le _, rfl, fun i x h => absurd h (by omega), hS⟩
    case round =>
      obtain ⟨j, hj, rfl, hall, rS⟩ := hrel
      clear hS
      by_cases hlt : j < L
      · obtain ⟨x, hx⟩ : ∃ x, M[j]? = some x := ⟨_, List.getElem?_eq_getElem (by rw [hML.out]; exact hlt)⟩
        obtain ⟨ga, he, hce⟩ := hcell.out j x hx
        injection he with he
        subst he
        obtain ⟨rv, co, hO⟩ := hce _ rS.out
        have dj : decide ((j : Int) < (L : Int)) = true := decide_eq_true (by omega)
        have j0 : (0 : Int) ≤ (j : Int) := Int.natCast_nonneg _
        have j1 : (j : Int) < (L : Int) := by omega
        by_cases hr : IsP d n x
        · have hi2 := hid (his.out wr base rv x hO (List.mem_of_getElem? hx) true (decide_eq_true hr).symm)
          have hall2 := hid (fun i y (hi : i < j + 1) (hy : M[i]? = some y) => (show IsP d n y from by
            by_cases e : i < j
            · exact hall.out i y e hy
            · obtain rfl : i = j := by omega
              rw [hx] at hy; injection hy with hy; subst hy
              exact hr))
          clear hr hce hx hO
          go_wp2_with (first
            | (go_at_call 127; (with_reducible refine (hi2.out).mono ?_); rintro e w3 ⟨rfl, hb⟩; replace rS := hid (rS.out.trans (hb.mono rS.out.size)); clear hb))
          go_roundw
          case rel => exact ⟨j + 1, by omega, by go_num, hall2, rS⟩
          case measure => simp [intOf]; omega
        · have hi2 := hid (his.out wr base rv x hO (List.mem_of_getElem? hx) false (decide_eq_false hr).symm)
          have hRR := hid (hpf.out x (List.mem_of_getElem? hx) hr)
          clear hr hce hx hO
          go_wp2_with (first
            | (go_at_call 127; (with_reducible refine (hi2.out).mono ?_); rintro e w3 ⟨rfl, hb⟩; replace rS := hid (rS.out.trans (hb.mono rS.out.size)); clear hb))
          go_ret
          exact ⟨retI hRR.out.symm, rS.out⟩
      · obtain rfl : j = L := by omega
        have dj : decide ((j : Int) < (j : Int)) = false := decide_eq_false (by omega)
        have hRR := hid (hpt.out fun x hx => by
          obtain ⟨i, hi, rfl⟩ := List.getElem_of_mem hx
          exact hall.out i _ (by rw [← hML.out]; exact hi) (List.getElem?_eq_getElem hi))
        go_wp2
        go_ret
        exact ⟨retI hRR.out.symm, rS.out⟩
  · rw [decide_eq_false hD] at hsi
    have hpc := hid (show pcode d n M = 2 by unfold pcode; rw [if_neg hD])
    rw [hpc.out]
    clear hD hpc h
    go_enter Try.func118, Try.ntmps118
    go_wp2_with (first
      | (go_at_call 126; (with_reducible refine (hsi.out _).mono ?_); rintro e w' ⟨rfl, rfl⟩))
    go_ret
    exact ⟨rfl, hS.out⟩
set_option maxHeartbeats 1000000 in
theorem l03At_any (w : World) (d n : Nat) (hd : d = 2 ∨ d = 3) (hn : n ≤ 4) (base : Nat) (v : Value) (g : List Int) (h : Own w base 2 v (ints g)) (hg : IsP d n g) (u : List Nat) (hu : ∀ x ∈ u, x < d) (hlen : u.length < n) :
    Calls Try.prog 217 #[.int .i64 d, v, .string (wstr u)] w fun e w' => e = .returned (.int .i64 (gAt d g u)) ∧ w = w' := by
  have hil := ints_length g
  have hin := gAt_in hd hg u hu hlen
  obtain ⟨ga, ca, rfl, _⟩ := h.blk (fun e => by have h : g.length = 0 := (by rw [← hil, e]; rfl); have := hin.1; omega)
  rw [hil] at h ⊢
  have co := h.cellAt (start d u.length + num d u) (.int .i64 (gAt d g u)) (by simp only [ints, List.getElem?_map, hin.2]; rfl)
  have hst := hid (fun W => l03Start_any d u.length hd (by omega) W)
  have hnm := hid (fun W => l01NumberOf_any d (by omega) (by omega) u hu (by have := pw5 (n := u.length) hd (by omega); omega) (by omega) W)
  have hsz := wstr_size u
  have hi2 := hin.1
  have hb1 := (start_le hd (show u.length ≤ 4 by omega))
  have hb2 := num_lt d u.length u rfl hu
  generalize gAt d g u = R at *
  clear hin hu h
  have i0 : (0 : Int) ≤ (start d u.length : Int) + (num d u : Int) := by omega
  have i1 : (start d u.length : Int) + (num d u : Int) < (g.length : Int) := by omega
  generalize wstr u = ws at *
  generalize hLn : u.length = L at *
  generalize start d L = a at *
  generalize num d u = b at *
  have ew : IntKind.i64.wrap ((a : Int) + (b : Int)) = (a : Int) + (b : Int) := IntWalk.i64_in _ (by omega)
  have et : ((a : Int) + (b : Int)).toNat = a + b := by omega
  go_enter Try.func217, Try.ntmps217
  go_wp2_with (first
    | (go_at_call 205; (with_reducible refine (hst.out _).mono ?_); rintro e w' ⟨rfl, rfl⟩)
    | (go_at_call 220; (with_reducible refine (hnm.out _).mono ?_); rintro e w' ⟨rfl, rfl⟩))
  go_ret
  exact ⟨rfl, rfl⟩
open Classical in
/-- The code of a portrait and a word of at most so many letters. -/
noncomputable def wcode (d n : Int) (g : List Int) (ws : ByteArray) (most : Int) : Int :=
  if pcode d n [g] = 0 then (if IsWd d ws then (if (ws.size : Int) ≤ most then 0 else 2) else 1) else pcode d n [g]
set_option maxHeartbeats 2000000 in
theorem l03Wordy_any (w : World) (d n : Int) (base : Nat) (v : Value) (g : List Int) (h : Own w base 2 v (ints g)) (hl : g.length < 2000000) (ws : ByteArray) (hws : ws.size < 1000000000000) (most : Int) :
    Calls Try.prog 138 #[.int .i64 d, .int .i64 n, v, .string ws, .int .i64 most] w fun e w' => e = .returned (.int .i64 (wcode d n g ws most)) ∧ Below w.heap.size w w' := by
  classical
  obtain ⟨A0, cp0, rfl, _, _⟩ := h.form
  rw [ints_length] at h ⊢
  have hS := (St.arg w h).newOwn [(Value.slice A0 g.length cp0)] 29 (by simp)
  simp only [List.length_cons, List.length_nil, Nat.zero_add] at hS
  replace hS := hid hS
  have hpc := hid (fun W b vv (hO : Own W b 29 vv [(Value.slice A0 g.length cp0)]) (hr : Own W b 2 (Value.slice A0 g.length cp0) (ints g)) => l03Code_any W d n b vv [g] (mat1 hO hr) (by simp) (by simp; omega))
  rcases pcode_cases d n g with hp | hp | ⟨hp, a, b, rfl, rfl, hd, hn1, hn4, hgp⟩
  · have hR := hid (show wcode d n g ws most = 1 by unfold wcode; rw [hp]; rfl)
    rw [hp] at hpc
    rw [hR.out]
    replace h := hid h
    clear hR hp
    go_enter Try.func138, Try.ntmps138
    go_wp2_with (first
      | (go_at_call 118; (with_reducible refine (hpc.out _ _ _ (hS.out.o0.mono (Nat.zero_le _)) hS.out.o1).mono ?_); rintro e w1 ⟨rfl, hb⟩; replace hS := hid (hS.out.call hb); clear hb))
    go_ret
    exact ⟨rfl, hS.out.bel⟩
  · have hR := hid (show wcode d n g ws most = 2 by unfold wcode; rw [hp]; rfl)
    rw [hp] at hpc
    rw [hR.out]
    replace h := hid h
    clear hR hp
    go_enter Try.func138, Try.ntmps138
    go_wp2_with (first
      | (go_at_call 118; (with_reducible refine (hpc.out _ _ _ (hS.out.o0.mono (Nat.zero_le _)) hS.out.o1).mono ?_); rintro e w1 ⟨rfl, hb⟩; replace hS := hid (hS.out.call hb); clear hb))
    go_ret
    exact ⟨rfl, hS.out.bel⟩
  · have hR : wcode a b g ws most = if IsWd a ws then (if (ws.size : Int) ≤ most then 0 else 2) else 1 := by unfold wcode; rw [hp]; rfl
    rw [hp] at hpc
    rw [hR]
    clear hR hp
    by_cases hw : IsWd a ws
    · rw [if_pos hw]
      have hle := hid (fun W => l01Letters_any (a : Int) (by omega) (by omega) ws hws true ⟨fun _ => hw.2, fun _ => rfl⟩ W)
      have d40 : decide ((40 : Int) < (ws.size : Int)) = false := decide_eq_false (by have := hw.1; omega)
      have hw40 := hw.1
      replace h := hid h; replace hw := hid hw; replace hgp := hid hgp
      by_cases hm : (ws.size : Int) ≤ most
      · rw [if_pos hm]
        have dm : decide (most < (ws.size : Int)) = false := decide_eq_false (by omega)
        go_enter Try.func138, Try.ntmps138
        go_wp2_with (first
          | (go_at_call 118; (with_reducible refine (hpc.out _ _ _ (hS.out.o0.mono (Nat.zero_le _)) hS.out.o1).mono ?_); rintro e w1 ⟨rfl, hb⟩; replace hS := hid (hS.out.call hb); clear hb)
          | (go_at_call 222; (with_reducible refine (hle.out _).mono ?_); rintro e w' ⟨rfl, rfl⟩))
        go_ret
        exact ⟨rfl, hS.out.bel⟩
      · rw [if_neg hm]
        have dm : decide (most < (ws.size : Int)) = true := decide_eq_true (by omega)
        go_enter Try.func138, Try.ntmps138
        go_wp2_with (first
          | (go_at_call 118; (with_reducible refine (hpc.out _ _ _ (hS.out.o0.mono (Nat.zero_le _)) hS.out.o1).mono ?_); rintro e w1 ⟨rfl, hb⟩; replace hS := hid (hS.out.call hb); clear hb)
          | (go_at_call 222; (with_reducible refine (hle.out _).mono ?_); rintro e w' ⟨rfl, rfl⟩))
        go_ret
        exact ⟨rfl, hS.out.bel⟩
    · rw [if_neg hw]
      by_cases h40 : ws.size ≤ 40
      · have d40 : decide ((40 : Int) < (ws.size : Int)) = false := decide_eq_false (by omega)
        have hle := hid (fun W => l01Letters_any (a : Int) (by omega) (by omega) ws hws false ⟨fun h => (by cases h), fun h => absurd ⟨h40, h⟩ hw⟩ W)
        replace h := hid h; replace hw := hid hw; replace hgp := hid hgp
        go_enter Try.func138, Try.ntmps138
        go_wp2_with (first
          | (go_at_call 118; (with_reducible refine (hpc.out _ _ _ (hS.out.o0.mono (Nat.zero_le _)) hS.out.o1).mono ?_); rintro e w1 ⟨rfl, hb⟩; replace hS := hid (hS.out.call hb); clear hb)
          | (go_at_call 222; (with_reducible refine (hle.out _).mono ?_); rintro e w' ⟨rfl, rfl⟩))
        go_ret
        exact ⟨rfl, hS.out.bel⟩
      · have d40 : decide ((40 : Int) < (ws.size : Int)) = true := decide_eq_true (by omega)
        replace h := hid h; replace hw := hid hw; replace hgp := hid hgp
        go_enter Try.func138, Try.ntmps138
        go_wp2_with (first
          | (go_at_call 118; (with_reducible refine (hpc.out _ _ _ (hS.out.o0.mono (Nat.zero_le _)) hS.out.o1).mono ?_); rintro e w1 ⟨rfl, hb⟩; replace hS := hid (hS.out.call hb); clear hb))
        go_ret
        exact ⟨rfl, hS.out.bel⟩
end Go.Proofs.Ytbmkkaecfogmoaa

/- The reference's least equal states of a large machine. -/
namespace Go.Proofs.Ytbmkkaecfogmoaa
open Go.RowKit
set_option linter.unusedVariables false
set_option linter.unusedSimpArgs false

/-- Equal rows of bytes. -/
theorem rc1_iff (f : Nat → Nat → Nat) (L a b : Nat) (hL : L ≤ 3) : rc1 .u8 f L a = rc1 .u8 f L b ↔ (alls L fun x => f a x == f b x) = true := by
  rw [alls_iff]
  constructor
  · intro h x hx
    have h1 := rc1_get .u8 f L a x (by omega)
    rw [h, rc1_get .u8 f L b x (by omega), if_pos hx, if_pos hx] at h1
    simp at h1; simp; omega
  · intro h
    unfold rc1
    apply List.map_congr_left
    intro x _
    by_cases hx : x < L
    · have := h x hx
      simp at this
      rw [if_pos hx, if_pos hx, this]
    · rw [if_neg hx, if_neg hx]
theorem lit3_iff {a b c a' b' c' : Nat} : ([Value.int .u8 (a : Int), .int .u8 (b : Int), .int .u8 (c : Int)] = [.int .u8 (a' : Int), .int .u8 (b' : Int), .int .u8 (c' : Int)]) ↔ a = a' ∧ b = b' ∧ c = c' := by
  constructor
  · intro h; simp at h; omega
  · rintro ⟨rfl, rfl, rfl⟩; rfl
theorem rc1_lit256 (f : Nat → Nat → Nat) (L q : Nat) (h : ∀ x, x < L → f q x < 256) : ∃ a b c : Nat, rc1 .u8 f L q = [.int .u8 (a : Int), .int .u8 (b : Int), .int .u8 (c : Int)] ∧ a < 256 ∧ b < 256 ∧ c < 256 := by
  have hx : ∀ x, (if x < L then f q x else 0) < 256 := fun x => by
    by_cases hx : x < L
    · rw [if_pos hx]; exact h x hx
    · rw [if_neg hx]; omega
  exact ⟨_, _, _, rfl, hx 0, hx 1, hx 2⟩
theorem clsL_stable {T : Tab} {k : Nat} (h : Stable T k) : clsL T (k + 1) T.n = clsL T k T.n := by
  unfold clsL
  apply List.map_congr_left
  intro q hq
  exact h q (List.mem_range.1 hq)
/-- A list filled up to q, with x at q. -/
theorem filL_at (f : Nat → Nat) (q n x : Nat) (hq : q < n) : ∀ j, j < n → ((nats (filL f q n)).set q (.int .i64 (x : Int)))[j]? = some (.int .i64 ((if j = q then x else if j < q then f j else 0 : Nat) : Int)) := fun j hj => by
  rw [List.getElem?_set]
  by_cases e : q = j
  · subst e; rw [if_pos rfl, if_pos (by rw [nats_length, filL_length]; exact hj), if_pos rfl]
  · rw [if_neg e, if_neg (Ne.symm e)]
    simp [nats, filL, hj]
theorem filL_done (f : Nat → Nat) (q n x : Nat) (h : x = f q) : (nats (filL f q n)).set q (.int .i64 (x : Int)) = nats (filL f (q + 1) n) := by subst h; exact filL_set f q n

set_option maxHeartbeats 8000000 in
set_option maxRecDepth 100000 in
theorem l07Classes_any (w : World) (base : Nat) (vN vO : Value) (T : Tab) (hT : T.Ok) (hL : T.L ≤ 3) (hL0 : 0 < T.L) (hn : T.n < 100000) (hot : ∀ q x, q < T.n → x < T.L → T.ot q x < 256) (hG : LG w base vN vO T) :
    Calls Try.prog 246 #[.agg #[.int .i64 T.L, vN, vO]] w fun e w' => ∃ v, e = .returned v ∧ Own w' w.heap.size 2 v (nats ((List.range T.n).map (fix T))) ∧ Below w.heap.size w w' := by
  have hpos := hT.pos
  obtain ⟨gN, cN, rfl⟩ := hG.1.blk hpos
  obtain ⟨gO, cO, rfl⟩ := hG.2.blk hpos
  have hGW := hid (fun W (hb : Below w.heap.size w W) => hG.below hb)
  have hcN := hid (fun W (hb : Below w.heap.size w W) q x (hq : q < T.n) (hx : x < T.L) => (hG.below hb).1.cellAt (q * 3 + x) _ (rcs_in .i64 T.nx T.L T.n q x hq hx hL))
  have hrO := hid (fun W (hb : Below w.heap.size w W) q (hq : q < T.n) => (hG.below hb).2.range (q * 3) (rc1 .u8 T.ot T.L q) (rcs_row .u8 T.ot T.L T.n q hq))
  have hrw := hid (fun a b => rc1_iff T.ot T.L a b hL)
  have hS := hid ((St.start w).newBlk #[.int .i64 T.L, .slice (some ⟨gN, 0, none⟩) T.n cN, .slice (some ⟨gO, 0, none⟩) T.n cO] 232)
  have hmk := fun W : World => run_make_row' (P := Try.prog) 29 2 (.int .i64 0) 8 Try.underlying29 info_i64 rfl .i64 .i64 T.n (by omega) (by omega) W
  have hmc := hid (toList_madeCells_one (.int .i64 0) T.n)
  generalize madeCells #[.int .i64 0] T.n = mc at *
  have hmcs := hid (show mc.size = T.n by rw [← Array.length_toList, hmc.out, List.length_replicate])
  have hcb := hid (fun k => cnt1_le T (k + 1) T.n)
  have hcp := hid (fun k => cnt1_pos T k T.n hpos)
  have hst := hid (fun k => stable_or T k)
  have hsc := hid (fun k (h : Stable T (k + 1)) => stable_cnt h)
  have hfx := hid (fun k hk h => clsL_fix hT (k := k) hk h)
  have hnx := hid (fun q x (hq : q < T.n) (hx : x < T.L) => hT.nx q x hq hx)
  have hc0 := hid (show clsL T 0 T.n = filL (cls T 0) 0 T.n by unfold clsL filL; apply List.map_congr_left; intro j _; simp [cls])
  have hlk := hid (fun k r q => like_iff T (cls T k) r q)
  have hci := hid (fun k r q => cls_iff T k r q)
  have hcle := hid (fun k q => cls_le T k q)
  have hcs' := hid (fun k q (h : ∀ j, j < q → like T (cls T k) j q = false) => (show cls T (k + 1) q = q from by rw [cls_succ]; exact fst_eq _ _ _ (Nat.le_refl _) h (fun h' => absurd h' (Nat.lt_irrefl _))))
  have hlit := hid (fun q (hq : q < T.n) => rc1_lit256 T.ot T.L q (fun x hx => hot q x hq hx))
  have hcst := hid (fun k (h : Stable T k) => clsL_stable h)
  have hgd := guard_b3
  have hall := hid (fun L' p => alls_iff L' p)
  replace hT := hid hT
  clear hG
  generalize hnn : T.n = n at *
  replace hnn := hid hnn
  generalize hLL : T.L = L at *
  replace hLL := hid hLL
  have hcl : w.heap.size < w.heap.size + 1 := Nat.lt_succ_self _
  have e0 : (w.alloc (.cells #[.int .i64 L, .slice (some ⟨gN, 0, none⟩) n cN, .slice (some ⟨gO, 0, none⟩) n cO] 232)).cell? ⟨w.heap.size, 1, none⟩ = some (.slice (some ⟨gN, 0, none⟩) n cN) := cell_of_row _ _ 1 _ _ _ hS.out.k0
  go_enter Try.func246, Try.ntmps246
  go_wp2
  have yS := hid (hS.out.newArr mc n hmcs.out 2 (by omega))
  rw [hmc.out, filL_zero (cls T 0) n, ← hc0.out, heap_alloc_size] at yS
  clear hS e0
  generalize (w.alloc (.cells #[.int .i64 L, .slice (some ⟨gN, 0, none⟩) n cN, .slice (some ⟨gO, 0, none⟩) n cO] 232)).alloc (.cells mc 2) = w1 at *
  go_loopg [4, 5] n (fun gk v ks wr => ∃ k K : Nat, ks = .int .i64 K ∧ k ≤ K ∧ (k = 0 → K = 0) ∧ (k ≠ 0 → K = cnt1 T k n) ∧ gk = n - k ∧ St w.heap.size w [Asn.own w.heap.size 2 v (nats (clsL T k n)), Asn.blk w.heap.size #[.int .i64 L, .slice (some ⟨gN, 0, none⟩) n cN, .slice (some ⟨gO, 0, none⟩) n cO] 232] wr)
  case atStart => exact ⟨0, 0, rfl, Nat.le_refl _, fun _ => rfl, fun h => absurd rfl h, rfl, yS.out⟩
  case round =>
    obtain ⟨k, K, rfl, hkK, hK0, hK1, rfl, rS⟩ := hrel
    clear yS
    replace hK0 := hid hK0; replace hK1 := hid hK1
    obtain ⟨g1, c1, rfl, _, _⟩ := rS.o0.blk (fun e => by have h1 := congrArg List.length e; rw [nats_length, clsL_length, List.length_nil] at h1; omega)
    rw [nats_length, clsL_length] at rS ⊢
    have yS := hid (rS.newArr mc n hmcs.out 2 (by omega))
    rw [hmc.out, filL_zero (cls T (k + 1)) n] at yS
    clear rS
    go_wp2
    generalize wr.alloc (.cells mc 2) = wa at *
    generalize wr.heap.size = g2 at *
    go_loopw [7, 8] (fun ct i wr => ∃ q : Nat, q ≤ n ∧ i = .int .i64 q ∧ ct = .int .i64 (cnt1 T (k + 1) q : Nat) ∧ St w.heap.size w [Asn.own w.heap.size 2 (.slice (some ⟨g2, 0, none⟩) n n) (nats (filL (cls T (k + 1)) q n)), Asn.own w.heap.size 2 (.slice (some ⟨g1, 0, none⟩) n c1) (nats (clsL T k n)), Asn.blk w.heap.size #[.int .i64 L, .slice (some ⟨gN, 0, none⟩) n cN, .slice (some ⟨gO, 0, none⟩) n cO] 232] wr) (fun _ i _ => n - (intOf i).toNat)
    case atStart => exact ⟨0, Nat.zero_le _, rfl, rfl, yS.out⟩
    case round =>
      obtain ⟨q, hq, rfl, rfl, zS⟩ := hrel
      clear yS
      replace zS := hid zS
      by_cases hqn : q < n
      · have dq : decide ((q : Int) < (n : Int)) = true := decide_eq_true (by omega)
        obtain ⟨u, hu⟩ := filL_get (cls T (k + 1)) q n q hqn
        have co := Own.cellAt zS.out.o0 q u hu
        have fo := Own.frozenAt zS.out.o0 (by rw [nats_length, filL_length]) q
        have tS := hid (zS.out.setOwn (by rw [nats_length, filL_length]) q (.int .i64 (q : Int)) hqn)
        have hct := cnt1_le T (k + 1) q
        have hcs := hid (show cnt1 T (k + 1) (q + 1) = cnt1 T (k + 1) q + if cls T (k + 1) q = q then 1 else 0 from rfl)
        clear hu zS
        generalize cnt1 T (k + 1) q = ct at *
        go_upto_region 8 with (fail)
        clear co fo
        generalize wr.setCell ⟨g2, q, none⟩ (.int .i64 (q : Int)) = wb at *
        go_wp2
        go_loopw [9] (fun i wr => ∃ r : Nat, r ≤ q ∧ i = .int .i64 r ∧ Hid (∀ j, j < r → like T (cls T k) j q = false) ∧ St w.heap.size w [Asn.own w.heap.size 2 (.slice (some ⟨g2, 0, none⟩) n n) ((nats (filL (cls T (k + 1)) q n)).set q (.int .i64 (q : Int))), Asn.own w.heap.size 2 (.slice (some ⟨g1, 0, none⟩) n c1) (nats (clsL T k n)), Asn.blk w.heap.size #[.int .i64 L, .slice (some ⟨gN, 0, none⟩) n cN, .slice (some ⟨gO, 0, none⟩) n cO] 232] wr) (fun i _ => q - (intOf i).toNat)
        case atStart => exact ⟨0, Nat.zero_le _, rfl, fun j hj => absurd hj (by omega), tS.out⟩
        case round =>
          obtain ⟨r, hr, rfl, hno, uS⟩ := hrel
          clear tS
          replace uS := hid uS
          have hat := hid (filL_at (cls T (k + 1)) q n q hqn)
          by_cases hrq : r < q
          · have hrn : r < n := by omega
            have e1 := Own.cellAt uS.out.o1 q _ (clsL_get T k n q hqn)
            have e2 := Own.cellAt uS.out.o1 r _ (clsL_get T k n r hrn)
            have e3 : wr.cell? ⟨w.heap.size, 2, none⟩ = some (.slice (some ⟨gO, 0, none⟩) n cO) := cell_of_row _ _ 2 _ _ _ uS.out.k2
            have rq := hid (hrO.out wr uS.out.bel q hqn)
            have rr := hid (hrO.out wr uS.out.bel r hrn)
            have hoe := hid (hrw.out r q)
            have hl := hid (hlk.out k r q)
            obtain ⟨a0, a1, a2, hra, ha⟩ := hlit.out q hqn
            obtain ⟨b0, b1, b2, hrb, hb⟩ := hlit.out r hrn
            rw [hra, hrb, lit3_iff] at hoe
            rw [hra] at rq
            rw [hrb] at rr
            clear hra hrb
            have ea0 : wr.cell? ⟨gO, q * 3, none⟩ = some (.int .u8 (a0 : Int)) := rq.out 0 _ rfl
            have ea1 : wr.cell? ⟨gO, q * 3 + 1, none⟩ = some (.int .u8 (a1 : Int)) := rq.out 1 _ rfl
            have ea2 : wr.cell? ⟨gO, q * 3 + 2, none⟩ = some (.int .u8 (a2 : Int)) := rq.out 2 _ rfl
            have eb0 : wr.cell? ⟨gO, r * 3, none⟩ = some (.int .u8 (b0 : Int)) := rr.out 0 _ rfl
            have eb1 : wr.cell? ⟨gO, r * 3 + 1, none⟩ = some (.int .u8 (b1 : Int)) := rr.out 1 _ rfl
            have eb2 : wr.cell? ⟨gO, r * 3 + 2, none⟩ = some (.int .u8 (b2 : Int)) := rr.out 2 _ rfl
            generalize hcq : cls T k q = cq at *
            generalize hcr : cls T k r = cr at *
            replace hcq := hid hcq; replace hcr := hid hcr
            have hnext : Hid (like T (cls T k) r q = false → ∀ j, j < r + 1 → like T (cls T k) j q = false) := fun h j hj => by
              by_cases e : j = r
              · subst e; exact h
              · exact hno.out j (by omega)
            have dr : decide ((r : Int) < (q : Int)) = true := decide_eq_true (by omega)
            by_cases hcc : cq = cr
            · subst hcc
              have hbz : ((cq : Int) == (cq : Int)) = true := by simp
              obtain ⟨ro, hro⟩ : ∃ ro : Bool, Hid (Tells ro (a0 = b0 ∧ a1 = b1 ∧ a2 = b2)) := ⟨decide _, decide_eq_true_iff⟩
              have heq := fun W : World => eq_b3 W a0 a1 a2 b0 b1 b2 ha hb ro hro.out
              clear ha hb
              go_upto_region 11 with (fail)
              go_quiet (fail)
              clear ea0 ea1 ea2 eb0 eb1 eb2 e1 e2 e3 heq rq rr hbz
              replace uS := hid (uS.out.drewN nq)
              generalize wr.drewN nq = wc at *
              go_wp2
              go_loopw [10, 11] (fun sm i wr => ∃ x : Nat, x ≤ L ∧ i = .int .i64 x ∧ sm = .bool (ro && alls x fun y => cls T k (T.nx q y) == cls T k (T.nx r y)) ∧ St w.heap.size w [Asn.own w.heap.size 2 (.slice (some ⟨g2, 0, none⟩) n n) ((nats (filL (cls T (k + 1)) q n)).set q (.int .i64 (q : Int))), Asn.own w.heap.size 2 (.slice (some ⟨g1, 0, none⟩) n c1) (nats (clsL T k n)), Asn.blk w.heap.size #[.int .i64 L, .slice (some ⟨gN, 0, none⟩) n cN, .slice (some ⟨gO, 0, none⟩) n cO] 232] wr) (fun _ i _ => L - (intOf i).toNat)
              case atStart => exact ⟨0, Nat.zero_le _, rfl, by simp [alls], uS.out⟩
              case round =>
                obtain ⟨x, hx, rfl, rfl, vS⟩ := hrel
                clear uS
                replace vS := hid vS
                have e0 : wr.cell? ⟨w.heap.size, 0, none⟩ = some (.int .i64 (L : Int)) := cell_of_row _ _ 0 _ _ _ vS.out.k2
                have hsx := hid (alls_succ x fun y => cls T k (T.nx q y) == cls T k (T.nx r y))
                cases hsv : (ro && alls x fun y => cls T k (T.nx q y) == cls T k (T.nx r y)) with
                | false =>
                  have hlf := hid (hnext.out (by
                    cases hlv : like T (cls T k) r q with
                    | false => rfl
                    | true =>
                      obtain ⟨_, ho1, hx1⟩ := hl.out.1 hlv
                      have h1 : ro = true := hro.out.out.2 (by
                        obtain ⟨u1, u2, u3⟩ := hoe.out.2 ((hall.out _ _).2 fun x hx => by simpa using ho1 x hx)
                        exact ⟨u1.symm, u2.symm, u3.symm⟩)
                      have h2 : (alls x fun y => cls T k (T.nx q y) == cls T k (T.nx r y)) = true := (hall.out _ _).2 fun y hy => by simpa using (hx1 y (by omega)).symm
                      rw [h1, h2] at hsv
                      cases hsv))
                  clear hsv
                  by_cases hxL : x < L
                  · have dx : decide ((x : Int) < (L : Int)) = true := decide_eq_true (by omega)
                    go_wp2
                    go_roundw
                    case rel => exact ⟨r + 1, by omega, by go_num, hlf, vS.out⟩
                    case measure => simp [intOf]; omega
                  · have dx : decide ((x : Int) < (L : Int)) = false := decide_eq_false (by omega)
                    go_wp2
                    go_roundw
                    case rel => exact ⟨r + 1, by omega, by go_num, hlf, vS.out⟩
                    case measure => simp [intOf]; omega
                | true =>
                  rw [Bool.and_eq_true] at hsv
                  have hro1 := hsv.1
                  subst hro1
                  by_cases hxL : x < L
                  · have dx : decide ((x : Int) < (L : Int)) = true := decide_eq_true (by omega)
                    rw [hsv.2] at hsx
                    clear hsv
                    have e1 : wr.cell? ⟨w.heap.size, 1, none⟩ = some (.slice (some ⟨gN, 0, none⟩) n cN) := cell_of_row _ _ 1 _ _ _ vS.out.k2
                    have e2 := hcN.out wr vS.out.bel q x hqn hxL
                    have e3 := hcN.out wr vS.out.bel r x hrn hxL
                    have h1 := hnx.out q x hqn hxL
                    have h2 := hnx.out r x hrn hxL
                    have e4 := Own.cellAt vS.out.o1 _ _ (clsL_get T k n _ h1)
                    have e5 := Own.cellAt vS.out.o1 _ _ (clsL_get T k n _ h2)
                    generalize T.nx q x = a at *
                    generalize T.nx r x = b at *
                    generalize cls T k a = ca at *
                    generalize cls T k b = cb at *
                    have hbeq : (((ca : Nat) : Int) == ((cb : Nat) : Int)) = (ca == cb) := by
                      by_cases e : ca = cb
                      · subst e; simp
                      · have h1 : (ca == cb) = false := by simpa using e
                        rw [h1]
                        have : ((ca : Nat) : Int) ≠ ((cb : Nat) : Int) := by omega
                        simpa using this
                    replace hbeq := hid hbeq
                    have x3 : (x : Int) < 3 := by omega
                    have x0 : (0 : Int) ≤ (x : Int) := Int.natCast_nonneg _
                    go_upto_region 15 with (fail)
                    go_quiet (fail)
                    go_wp2
                    go_roundw
                    case rel => exact ⟨x + 1, by omega, by go_num, by rw [hsx.out]; simp; first | exact hbeq.out | (rw [← hbeq.out]; simp), vS.out.drewN _⟩
                    case measure => simp [intOf]; omega
                  · obtain rfl : L = x := by omega
                    have dx : decide ((L : Int) < (L : Int)) = false := decide_eq_false (by omega)
                    have hlv := hid (show like T (cls T k) r q = true from hl.out.2 ⟨by first | trivial | rfl, fun x hx => by
                        obtain ⟨u1, u2, u3⟩ := hro.out.out.1 rfl
                        have := (hall.out _ _).1 (hoe.out.1 ⟨u1.symm, u2.symm, u3.symm⟩) x hx
                        simpa using this, fun x hx => by have := (hall.out _ _).1 hsv.2 x hx; simpa using (by simpa using this : cls T k (T.nx q x) = cls T k (T.nx r x)).symm⟩)
                    clear hsv
                    have hce := hid ((hci.out k r q).2 hlv.out)
                    have hrr := hid (hcle.out (k + 1) r)
                    have e1 := Own.cellAt vS.out.o0 r _ (hat.out r hrn)
                    rw [if_neg (show ¬ r = q by omega), if_pos hrq] at e1
                    have e2 := Own.cellAt vS.out.o0 q _ (hat.out q hqn)
                    rw [if_pos rfl] at e2
                    have fo := Own.frozenAt vS.out.o0 (by rw [List.length_set, nats_length, filL_length]) q
                    have hdn := hid (filL_done (cls T (k + 1)) q n (cls T (k + 1) r) hce.out)
                    have hsk := hid (show cls T (k + 1) q ≠ q from by have h1 := hce.out; have h2 := hrr.out; omega)
                    have hcrr : cls T (k + 1) r < q := by have h2 := hrr.out; omega
                    generalize hcv : cls T (k + 1) r = cv at *
                    replace hcv := hid hcv
                    have vS2 := hid (vS.out.setOwn (by rw [List.length_set, nats_length, filL_length]) q (.int .i64 (cv : Int)) hqn)
                    rw [List.set_set, hdn.out] at vS2
                    rw [if_neg hsk.out] at hcs
                    have hne : ((cv : Int) == (q : Int)) = false := by simp; omega
                    go_wp2
                    go_roundw
                    case rel => exact ⟨q + 1, by omega, by go_num, by rw [hcs.out]; rfl, vS2.out⟩
                    case measure => simp [intOf]; omega
            · have hcz : ((cq : Int) == (cr : Int)) = false := by simp; omega
              have hlf := hid (hnext.out (by
                cases hlv : like T (cls T k) r q with
                | false => rfl
                | true => exact absurd (hl.out.1 hlv).1.symm hcc))
              have e0 : ∀ d, (wr.drewN d).cell? ⟨w.heap.size, 0, none⟩ = some (.int .i64 (L : Int)) := fun d => cell_of_row _ _ 0 _ _ _ uS.out.k2
              replace e0 := hid e0
              go_upto_region 11 with (fail)
              go_quiet (fail)
              have e00 := e0.out nq
              clear e1 e2 e3 ea0 ea1 ea2 eb0 eb1 eb2 ha hb rq rr hcc
              replace uS := hid (uS.out.drewN nq)
              generalize wr.drewN nq = wc at *
              go_wp2
              go_loopw [10, 11] (fun sm i wr => i = .int .i64 0 ∧ sm = .bool false ∧ wr = wc) (fun _ _ _ => 0)
              case atStart => exact ⟨rfl, rfl, rfl⟩
              case round =>
                obtain ⟨rfl, rfl, rfl⟩ := hrel
                go_wp2
                go_roundw
                case rel => exact ⟨r + 1, by omega, by go_num, hlf, uS.out⟩
                case measure => simp [intOf]; omega
          · obtain rfl : q = r := by omega
            have dr : decide ((q : Int) < (q : Int)) = false := decide_eq_false (by omega)
            have hqq := hid (hcs'.out k q hno.out)
            have e2 := Own.cellAt uS.out.o0 q _ (hat.out q hqn)
            rw [if_pos rfl] at e2
            have hdn := hid (filL_done (cls T (k + 1)) q n q hqq.out.symm)
            rw [hdn.out] at uS
            rw [if_pos hqq.out] at hcs
            have hne : ((q : Int) == (q : Int)) = true := by simp
            go_wp2
            go_roundw
            case rel => exact ⟨q + 1, by omega, by go_num, by rw [hcs.out]; go_num, uS.out⟩
            case measure => simp [intOf]; omega
      · obtain rfl : n = q := by omega
        have dq : decide ((n : Int) < (n : Int)) = false := decide_eq_false (by omega)
        have hS2 := zS.out
        rw [← hnn.out, filL_all, hnn.out] at hS2
        replace hS2 := hid hS2
        clear zS
        have hcn1 := hcb.out k
        have hcn2 := hcp.out k
        by_cases hcK : cnt1 T (k + 1) n = K
        · have hk0 : k ≠ 0 := fun e => by have := hK0.out e; omega
          have hKk := hK1.out hk0
          have hstab := hid (show Stable T k from by
            obtain ⟨k', rfl⟩ : ∃ k', k = k' + 1 := ⟨k - 1, by omega⟩
            apply Classical.byContradiction
            intro h
            have h1 := hst.out k' h
            have h2 : cnt1 T (k' + 2) n = K := hcK
            omega)
          have hf := hid (hfx.out k (by omega) hstab.out)
          have hf2 := hid (hcst.out k hstab.out)
          have hz : ((K : Int) == (K : Int)) = true := by simp
          subst hcK
          have hres := hid (show clsL T (k + 1) n = (List.range n).map (fix T) by rw [hf2.out, hf.out])
          generalize cnt1 T (k + 1) n = K at *
          clear hKk
          go_wp2
          go_ret
          exact ⟨_, rfl, by rw [← hres.out]; exact hS2.out.o0, hS2.out.bel⟩
        · have hz : (((cnt1 T (k + 1) n : Nat) : Int) == (K : Int)) = false := by simp; omega
          have hk1 : k + 1 ≤ cnt1 T (k + 1) n := by
            by_cases hk0 : k = 0
            · omega
            · have hKk := hK1.out hk0
              obtain ⟨k', rfl⟩ : ∃ k', k = k' + 1 := ⟨k - 1, by omega⟩
              by_cases hs : Stable T (k' + 1)
              · have h1 := hsc.out k' hs
                have h2 : cnt1 T (k' + 1 + 1) n ≠ K := hcK
                have h3 : cnt1 T (k' + 1 + 1) n = cnt1 T (k' + 1) n := h1
                omega
              · have h1 := hst.out k' hs
                have h3 : cnt1 T (k' + 1) n < cnt1 T (k' + 1 + 1) n := h1
                omega
          have hmm : n - (k + 1) < n - k := by omega
          replace hk1 := hid hk1
          generalize hKK : cnt1 T (k + 1) n = K2 at *
          replace hKK := hid hKK
          clear hcK
          go_wp2
          go_roundg (n - (k + 1))
          case measure => exact hmm
          case rel => exact ⟨k + 1, K2, rfl, hk1.out, fun h => absurd h (by omega), fun _ => hKK.out.symm, rfl, hS2.out.f1.drop⟩
end Go.Proofs.Ytbmkkaecfogmoaa

/- The reference's permutations of letters. -/
namespace Go.Proofs.Ytbmkkaecfogmoaa
open Go.RowKit
set_option linter.unusedVariables false
set_option linter.unusedSimpArgs false
-- @LONG

/-- Where permutation k leads the letter x. -/
def pim (d k x : Nat) : Nat := (((prms d).getD k []).getD x 0).toNat
theorem pim_lt (d k x : Nat) (hd : d = 2 ∨ d = 3) (hk : k < cnt d) (hx : x < d) : pim d k x < d := by
  rcases hd with rfl | rfl
  · have : k = 0 ∨ k = 1 := by have : cnt 2 = 2 := rfl; omega
    have h2 : x = 0 ∨ x = 1 := by omega
    rcases this with rfl | rfl <;> rcases h2 with rfl | rfl <;> decide
  · have : k = 0 ∨ k = 1 ∨ k = 2 ∨ k = 3 ∨ k = 4 ∨ k = 5 := by have : cnt 3 = 6 := rfl; omega
    have h2 : x = 0 ∨ x = 1 ∨ x = 2 := by omega
    rcases this with rfl | rfl | rfl | rfl | rfl | rfl <;> rcases h2 with rfl | rfl | rfl <;> decide
/-- Three bytes in a block of their own. -/
theorem row_new3 (w : World) (f : Nat → Nat) (a b c : Int) (ha : a = (f 0 : Nat)) (hb : b = (f 1 : Nat)) (hc : c = (f 2 : Nat)) :
    (w.alloc (.cells #[.int .u8 a, .int .u8 b, .int .u8 c] 24)).rowIs w.heap.size 24 3 (byt f) := by
  subst ha; subst hb; subst hc
  exact rowIs_new w 3 24 (byt f)
set_option maxHeartbeats 1000000 in
set_option maxRecDepth 100000 in
theorem l03Images_20 (w : World) :
    Calls Try.prog 140 #[.int .i64 2, .int .i64 0] w fun e w' => e = .returned (.agg (rowL 3 (byt (pim 2 0))).toArray) ∧ Below w.heap.size w w' := by
  go_enter Try.func140, Try.ntmps140
  go_wp2
  exact ret_row (ty := 24) (p := 4) rfl (g := w.heap.size) (t := 24) (n := 3) rfl (row_new3 w (pim 2 0) _ _ _ (by decide) (by decide) (by decide)) Try.underlying24 rfl sz_b3 rfl ⟨rfl, below_alloc (Below.refl _ _) (Nat.le_refl _) _⟩
set_option maxHeartbeats 1000000 in
set_option maxRecDepth 100000 in
theorem l03Images_21 (w : World) :
    Calls Try.prog 140 #[.int .i64 2, .int .i64 1] w fun e w' => e = .returned (.agg (rowL 3 (byt (pim 2 1))).toArray) ∧ Below w.heap.size w w' := by
  go_enter Try.func140, Try.ntmps140
  go_wp2
  exact ret_row (ty := 24) (p := 4) rfl (g := w.heap.size) (t := 24) (n := 3) rfl (row_new3 w (pim 2 1) _ _ _ (by decide) (by decide) (by decide)) Try.underlying24 rfl sz_b3 rfl ⟨rfl, below_alloc (Below.refl _ _) (Nat.le_refl _) _⟩
theorem row_is3 {W : World} {b t : Nat} {f : Nat → Nat} (h : W.heap[b]? = some (.cells (rowL 3 (byt f)).toArray t (0, 0))) : W.rowIs b t 3 (byt f) :=
  ⟨_, h, rfl, fun i hi => by have := rowL_get 3 (byt f) i hi; simpa using this⟩
theorem sz_63 : (Try.prog.info? 217).map (·.size) = some 18 := by kernel_rfl
theorem zero_63 (w : World) : (zeroValue 217).run Try.prog w = .ok (.agg (rowL 18 (byt fun _ => 0)).toArray) w := by kernel_rfl
def all6 : Array Value := #[.int .u8 0, .int .u8 1, .int .u8 2, .int .u8 0, .int .u8 2, .int .u8 1, .int .u8 1, .int .u8 0, .int .u8 2, .int .u8 1, .int .u8 2, .int .u8 0, .int .u8 2, .int .u8 0, .int .u8 1, .int .u8 2, .int .u8 1, .int .u8 0]
theorem all6_get (k : Nat) (hk : k < 6) (j : Nat) (v : Value) (hv : (rowL 3 (byt (pim 3 k)))[j]? = some v) : all6[k * 3 + j]? = some v := by
  have hj : j < 3 := by have := (List.getElem?_eq_some_iff.1 hv).1; rwa [rowL_length] at this
  rw [rowL_get 3 _ j hj] at hv
  rw [← hv]
  have : k = 0 ∨ k = 1 ∨ k = 2 ∨ k = 3 ∨ k = 4 ∨ k = 5 := by omega
  have h2 : j = 0 ∨ j = 1 ∨ j = 2 := by omega
  rcases this with rfl | rfl | rfl | rfl | rfl | rfl <;> rcases h2 with rfl | rfl | rfl <;> rfl
theorem built6 : Try.prog.built 217 [(0, Value.agg #[.int .u8 0, .int .u8 1, .int .u8 2]), (1, Value.agg #[.int .u8 0, .int .u8 2, .int .u8 1]), (2, Value.agg #[.int .u8 1, .int .u8 0, .int .u8 2]), (3, Value.agg #[.int .u8 1, .int .u8 2, .int .u8 0]), (4, Value.agg #[.int .u8 2, .int .u8 0, .int .u8 1]), (5, Value.agg #[.int .u8 2, .int .u8 1, .int .u8 0])] = some all6 := by kernel_rfl
theorem build_all6 {ops : Array Oper} {rest : List Oper} {o : Oper} {a : Act} {w : World} {Q : Exit → Act → World → Prop} (hgd : o.guard = none) (ho : o.op = .build 217 #[(0, Operand.tmp 12), (1, Operand.tmp 13), (2, Operand.tmp 14), (3, Operand.tmp 15), (4, Operand.tmp 16), (5, Operand.tmp 17)])
    (e0 : a.eval (.tmp 12) = .agg #[.int .u8 0, .int .u8 1, .int .u8 2]) (e1 : a.eval (.tmp 13) = .agg #[.int .u8 0, .int .u8 2, .int .u8 1]) (e2 : a.eval (.tmp 14) = .agg #[.int .u8 1, .int .u8 0, .int .u8 2]) (e3 : a.eval (.tmp 15) = .agg #[.int .u8 1, .int .u8 2, .int .u8 0]) (e4 : a.eval (.tmp 16) = .agg #[.int .u8 2, .int .u8 0, .int .u8 1]) (e5 : a.eval (.tmp 17) = .agg #[.int .u8 2, .int .u8 1, .int .u8 0])
    (h : wpList Try.prog ops Q rest (a.put o.dst (.agg all6)) w) : wpList Try.prog ops Q (o :: rest) a w := by
  have h0 : ((#[(0, Operand.tmp 12), (1, Operand.tmp 13), (2, Operand.tmp 14), (3, Operand.tmp 15), (4, Operand.tmp 16), (5, Operand.tmp 17)] : Array (Nat × Operand)).map fun (i, x) => (i, a.eval x)).toList = [(0, Value.agg #[.int .u8 0, .int .u8 1, .int .u8 2]), (1, Value.agg #[.int .u8 0, .int .u8 2, .int .u8 1]), (2, Value.agg #[.int .u8 1, .int .u8 0, .int .u8 2]), (3, Value.agg #[.int .u8 1, .int .u8 2, .int .u8 0]), (4, Value.agg #[.int .u8 2, .int .u8 0, .int .u8 1]), (5, Value.agg #[.int .u8 2, .int .u8 1, .int .u8 0])] := by
    simp only [List.map_toArray, List.map_cons, List.map_nil, e0, e1, e2, e3, e4, e5]
  have e : Try.prog.built 217 ((#[(0, Operand.tmp 12), (1, Operand.tmp 13), (2, Operand.tmp 14), (3, Operand.tmp 15), (4, Operand.tmp 16), (5, Operand.tmp 17)] : Array (Nat × Operand)).map fun (i, x) => (i, a.eval x)).toList = some all6 := by
    rw [h0]; exact built6
  refine wpList_build hgd 217 _ ho (by rw [e]; rfl) ?_
  rw [e]
  exact h
set_option maxHeartbeats 2000000 in
set_option maxRecDepth 100000 in
theorem l03Images_3 (k : Nat) (hk : k < 6) (w : World) :
    Calls Try.prog 140 #[.int .i64 3, .int .i64 k] w fun e w' => e = .returned (.agg (rowL 3 (byt (pim 3 k))).toArray) ∧ Below w.heap.size w w' := by
  have hS := ((St.start w).newBlk #[.int .u8 0, .int .u8 0, .int .u8 0] 24).newBlk (rowL 18 (byt fun _ => 0)).toArray 217
  rw [heap_alloc_size] at hS
  replace hS := hid hS
  have hz := zero_63
  have hbig : all6.all (·.oneCell') = true := by simp [all6, Value.oneCell']
  have hss := hid sz_63
  have hzs := hid (show (rowL 18 (byt fun _ => 0)).toArray.size = 18 from rfl)
  have h6s := hid (show all6.size = 18 from rfl)
  have hget := hid (all6_get k hk)
  have hl := hid (rowL_length 3 (byt (pim 3 k)))
  have k0 : (0 : Int) ≤ (k : Int) := Int.natCast_nonneg _
  have k1 : (k : Int) < 6 := by omega
  replace hbig := hid hbig
  generalize (rowL 18 (byt fun _ => 0)).toArray = zs at *
  go_enter Try.func140, Try.ntmps140
  go_upto_region 6 with (first
    | ((with_reducible refine gate (N := 18) rfl ?_); refine build_all6 rfl rfl rfl rfl rfl rfl rfl rfl ?_)
    | ((with_reducible refine gateOp (op := .store 217 (.tmp 5) (.tmp 18)) rfl ?_); refine wpList_store_row rfl _ _ _ rfl (w.heap.size + 1) _ rfl rfl _ _ hS.out.k0 (by rw [h6s.out]; exact hss.out) (by rw [hzs.out, h6s.out]) hbig.out ?_))
  replace hS := hid (hS.out.setRow (Nat.le_succ _) all6)
  generalize World.setRow _ _ all6 = w2 at *
  have hrg := hid (show w2.rangeAt (w.heap.size + 1) (k * 3) (rowL 3 (byt (pim 3 k))) from fun j v hv => (cell_of_row _ _ (k * 3 + j) _ _ _ hS.out.k0).trans (hget.out j v hv))
  have h1c := hid (show ((rowL 3 (byt (pim 3 k))).toArray.all (·.oneCell') = true) from one_byt 3 (pim 3 k))
  have hls := hid (show (rowL 3 (byt (pim 3 k))).toArray.size = 3 from rfl)
  have hrr := hid (fun (W : World) (b : Nat) (h : W.heap[b]? = some (.cells (rowL 3 (byt (pim 3 k))).toArray 24 (0, 0))) => (show W.rowIs b 24 3 (byt (pim 3 k)) from row_is3 h))
  have hRR := hid (show rowL 3 (byt (pim 3 k)) = rowL 3 (byt (pim 3 k)) from rfl)
  generalize hR : rowL 3 (byt (pim 3 k)) = R at *
  replace hR := hid hR
  clear hRR
  have hRR := hid hR.out
  go_wp2_with (first
    | ((with_reducible refine gate (N := 21) rfl ?_); refine wpList_load_mid rfl 24 _ rfl (w.heap.size + 1) (k * 3) rfl _ _ hrg.out Try.underlying24 rfl (by rw [hl.out]; exact sz_b3) ?_)
    | ((with_reducible refine gateOp (op := .store 24 (.tmp 4) (.tmp 21)) rfl ?_); refine wpList_store_row rfl _ _ _ rfl w.heap.size _ rfl rfl _ _ hS.out.k1 (by rw [hls.out]; exact sz_b3) (by rw [hls.out]; rfl) h1c.out ?_; replace hS := hid (hS.out.f1.setRow (Nat.le_refl _) R.toArray)))
  exact ret_row (ty := 24) (p := 4) rfl (g := w.heap.size) (t := 24) (n := 3) rfl (hrr.out _ _ hS.out.k0) Try.underlying24 rfl sz_b3 rfl ⟨by rw [hRR.out], hS.out.bel⟩
theorem l03Images_any (d k : Nat) (hd : d = 2 ∨ d = 3) (hk : k < cnt d) (w : World) :
    Calls Try.prog 140 #[.int .i64 d, .int .i64 k] w fun e w' => e = .returned (.agg (rowL 3 (byt (pim d k))).toArray) ∧ Below w.heap.size w w' := by
  rcases hd with rfl | rfl
  · have : k = 0 ∨ k = 1 := by have : cnt 2 = 2 := rfl; omega
    rcases this with rfl | rfl
    · exact l03Images_20 w
    · exact l03Images_21 w
  · exact l03Images_3 k (by have : cnt 3 = 6 := rfl; omega) w
end Go.Proofs.Ytbmkkaecfogmoaa

/- What a portrait makes of words. -/
namespace Go.Proofs.Ytbmkkaecfogmoaa
open Go.RowKit
set_option linter.unusedVariables false
set_option linter.unusedSimpArgs false
-- @LONG

/-- The word to which a portrait leads a word. -/
def actP (d : Nat) (g : List Int) (u : List Nat) : List Nat := (List.range u.length).map fun i => pim d (gAt d g (u.take i)).toNat (u.getD i 0)
theorem actP_length (d : Nat) (g : List Int) (u : List Nat) : (actP d g u).length = u.length := by simp [actP]
theorem actP_snoc (d : Nat) (g : List Int) (u : List Nat) (x : Nat) : actP d g (u ++ [x]) = actP d g u ++ [pim d (gAt d g u).toNat x] := by
  unfold actP
  rw [List.length_append, List.length_singleton, List.range_succ, List.map_append]
  congr 1
  · refine List.map_congr_left fun i hi => ?_
    have hi := List.mem_range.1 hi
    rw [List.take_append_of_le_length (by omega)]
    congr 1
    simp [List.getD_eq_getElem?_getD, List.getElem?_append_left hi]
  · simp
theorem actP_take (d : Nat) (g : List Int) (u : List Nat) (k : Nat) (hk : k < u.length) : actP d g (u.take (k + 1)) = actP d g (u.take k) ++ [pim d (gAt d g (u.take k)).toNat (u.getD k 0)] := by
  rw [take_snoc' u k hk, actP_snoc]
theorem gAt_nat {d n : Nat} {g : List Int} (hd : d = 2 ∨ d = 3) (hg : IsP d n g) (u : List Nat) (hu : ∀ x ∈ u, x < d) (hn : u.length < n) : ((gAt d g u).toNat : Int) = gAt d g u ∧ (gAt d g u).toNat < cnt d := by
  have := gAt_range hd hg u hu hn
  omega
theorem actP_lt {d n : Nat} {g : List Int} (hd : d = 2 ∨ d = 3) (hg : IsP d n g) (u : List Nat) (hu : ∀ x ∈ u, x < d) (hn : u.length ≤ n) : ∀ y ∈ actP d g u, y < d := fun y hy => by
  obtain ⟨i, hi, rfl⟩ := List.mem_map.1 hy
  have hi := List.mem_range.1 hi
  refine pim_lt d _ _ hd (gAt_nat hd hg _ (fun x hx => hu x (List.mem_of_mem_take hx)) (by rw [List.length_take]; omega)).2 (hu _ (getD_mem u i hi))
theorem pim_injx (d k x y : Nat) (hd : d = 2 ∨ d = 3) (hk : k < cnt d) (hx : x < d) (hy : y < d) (h : pim d k x = pim d k y) : x = y := by
  rcases hd with rfl | rfl
  · have h1 : k = 0 ∨ k = 1 := by have : cnt 2 = 2 := rfl; omega
    have h2 : x = 0 ∨ x = 1 := by omega
    have h3 : y = 0 ∨ y = 1 := by omega
    rcases h1 with rfl | rfl <;> rcases h2 with rfl | rfl <;> rcases h3 with rfl | rfl <;> first | rfl | (exact absurd h (by decide))
  · have h1 : k = 0 ∨ k = 1 ∨ k = 2 ∨ k = 3 ∨ k = 4 ∨ k = 5 := by have : cnt 3 = 6 := rfl; omega
    have h2 : x = 0 ∨ x = 1 ∨ x = 2 := by omega
    have h3 : y = 0 ∨ y = 1 ∨ y = 2 := by omega
    rcases h1 with rfl | rfl | rfl | rfl | rfl | rfl <;> rcases h2 with rfl | rfl | rfl <;> rcases h3 with rfl | rfl | rfl <;> first | rfl | (exact absurd h (by decide))
theorem actP_inj {d n : Nat} {g : List Int} (hd : d = 2 ∨ d = 3) (hg : IsP d n g) : ∀ (k : Nat) (u v : List Nat), u.length = k → v.length = k → k ≤ n → (∀ x ∈ u, x < d) → (∀ x ∈ v, x < d) → actP d g u = actP d g v → u = v
  | 0, u, v, hu, hv, _, _, _, _ => by rw [List.length_eq_zero_iff.1 hu, List.length_eq_zero_iff.1 hv]
  | k + 1, u, v, hu, hv, hk, hul, hvl, e => by
    obtain ⟨u', x, rfl⟩ : ∃ u' x, u = u' ++ [x] := ⟨u.dropLast, u.getLast (by intro e; rw [e] at hu; simp at hu), (List.dropLast_concat_getLast _).symm⟩
    obtain ⟨v', y, rfl⟩ : ∃ v' y, v = v' ++ [y] := ⟨v.dropLast, v.getLast (by intro e; rw [e] at hv; simp at hv), (List.dropLast_concat_getLast _).symm⟩
    have hu' : u'.length = k := by simpa using hu
    have hv' : v'.length = k := by simpa using hv
    rw [actP_snoc, actP_snoc] at e
    obtain ⟨e1, e2⟩ := List.append_inj e (by rw [actP_length, actP_length, hu', hv'])
    have euv := actP_inj hd hg k u' v' hu' hv' (by omega) (fun z hz => hul z (List.mem_append.2 (.inl hz))) (fun z hz => hvl z (List.mem_append.2 (.inl hz))) e1
    subst euv
    have e3 : pim d (gAt d g u').toNat x = pim d (gAt d g u').toNat y := by simpa using e2
    rw [pim_injx d _ x y hd (gAt_nat hd hg u' (fun z hz => hul z (List.mem_append.2 (.inl hz))) (by omega)).2 (hul x (by simp)) (hvl y (by simp)) e3]
theorem aut_act {d n : Nat} {g : List Int} (hd : d = 2 ∨ d = 3) (hg : IsP d n g) : Aut d (actP d g) n where
  len := fun u _ _ => actP_length d g u
  lt := fun u hu hl => actP_lt hd hg u hu hl
  pre := fun u x _ _ _ => ⟨_, actP_snoc d g u x⟩
  inj := fun u v hu hv hl he e => actP_inj hd hg u.length u v rfl he.symm hl hu hv e
theorem wstr_take (u : List Nat) (k : Nat) : (wstr u).extract 0 k = wstr (u.take k) := by
  apply ByteArray.ext
  rw [ByteArray.data_extract]
  apply Array.toList_inj.1
  simp [wstr, strOfNums, List.map_take]
theorem prms_row (d k : Nat) (hd : d = 2 ∨ d = 3) (hk : k < cnt d) : ∃ row, (prms d)[k]? = some row ∧ row.length = d ∧ ∀ x, x < d → row[x]? = some ((pim d k x : Nat) : Int) := by
  rcases hd with rfl | rfl
  · have h1 : k = 0 ∨ k = 1 := by have : cnt 2 = 2 := rfl; omega
    rcases h1 with rfl | rfl <;> refine ⟨_, rfl, rfl, fun x hx => ?_⟩ <;> (have h2 : x = 0 ∨ x = 1 := by omega) <;> rcases h2 with rfl | rfl <;> decide
  · have h1 : k = 0 ∨ k = 1 ∨ k = 2 ∨ k = 3 ∨ k = 4 ∨ k = 5 := by have : cnt 3 = 6 := rfl; omega
    rcases h1 with rfl | rfl | rfl | rfl | rfl | rfl <;> refine ⟨_, rfl, rfl, fun x hx => ?_⟩ <;> (have h2 : x = 0 ∨ x = 1 ∨ x = 2 := by omega) <;> rcases h2 with rfl | rfl | rfl <;> decide
set_option maxHeartbeats 4000000 in
set_option maxRecDepth 100000 in
theorem act_any (w : World) (d n : Nat) (hd : d = 2 ∨ d = 3) (hn : n ≤ 4) (b0 : Nat) (v : Value) (g : List Int) (hO : Own w b0 2 v (ints g)) (hg : IsP d n g) (u : List Nat) (hu : ∀ x ∈ u, x < d) (hl : u.length ≤ n) :
    Calls Try.prog 117 #[.int .i64 d, v, .string (wstr u)] w fun e w' => e = .returned (.string (wstr (actP d g u))) ∧ Below w.heap.size w w' := by
  have hgl := ints_length g
  obtain ⟨A, cp, rfl, _, hA⟩ := hO.form
  rw [hgl] at hO ⊢
  have hsz := wstr_size u
  have hmk := fun W : World => run_make_row' (P := Try.prog) 22 5 (.int .u8 0) 1 Try.underlying22 info_u8 rfl .i64 .i64 u.length (by omega) (by omega) W
  have hbyte := hid (fun k hk => wstr_byte u k hk (fun x hx => by have := hu x hx; omega))
  have hS := hid ((St.arg w hO).newDig u.length)
  have hpm := hid (fun W => permutations_any d hd W)
  have hc2 : 2 ≤ cnt d ∧ cnt d ≤ 6 := by rcases hd with rfl | rfl <;> decide
  have hpml := hid (prms_length d)
  have hpl := hid (fun i (hi : i < u.length) W => place_any d hd (u.take i) (fun x hx => hu x (List.mem_of_mem_take hx)) (by rw [List.length_take]; omega) W)
  -- what a round asks
  have hrd := hid (fun k (hk : k < u.length) => (show ∃ (ix kk : Nat) (row : List Int), start d (u.take k).length + num d (u.take k) = ix ∧ ix < g.length ∧ (ints g)[ix]? = some (.int .i64 (kk : Nat)) ∧ kk < cnt d ∧ (prms d)[kk]? = some row ∧ row.length = d ∧ (ints row)[u.getD k 0]? = some (.int .i64 (pim d kk (u.getD k 0) : Nat)) ∧ u.getD k 0 < d ∧ pim d kk (u.getD k 0) < d ∧ actP d g (u.take (k + 1)) = actP d g (u.take k) ++ [pim d kk (u.getD k 0)] from by
    have htl : (u.take k).length = k := by rw [List.length_take]; omega
    have hm : ∀ x ∈ u.take k, x < d := fun x hx => hu x (List.mem_of_mem_take hx)
    have hgi := gAt_in hd hg (u.take k) hm (by omega)
    have hgn := gAt_nat hd hg (u.take k) hm (by omega)
    have hx := hu _ (getD_mem u k hk)
    obtain ⟨row, h1, h2, h3⟩ := prms_row d _ hd hgn.2
    exact ⟨_, (gAt d g (u.take k)).toNat, row, rfl, hgi.1, by rw [hgn.1]; simp only [ints, List.getElem?_map, hgi.2]; rfl, hgn.2, h1, h2, by simp only [ints, List.getElem?_map, h3 _ hx]; rfl, hx, pim_lt d _ _ hd hgn.2 hx, actP_take d g u k hk⟩))
  have hal := hid (fun k (hk : k ≤ u.length) => (show (actP d g (u.take k)).length = k by rw [actP_length, List.length_take]; omega))
  have hfu := hid (show actP d g u = actP d g (u.take u.length) by rw [List.take_length])
  have hws := hid (fun k => wstr_take u k)
  have hd3 : d ≤ 3 ∧ 2 ≤ d := by rcases hd with h | h <;> rw [h] <;> decide
  rw [hfu.out]
  have hA2 := hid (fun (h : 0 < g.length) => (show ∃ ga, A = some ⟨ga, 0, none⟩ from by
    rcases hA with ⟨_, h1, _⟩ | ⟨ga, h1, _⟩
    · have : g.length = 0 := by rw [← hgl, h1]; rfl
      omega
    · exact ⟨ga, h1⟩))
  replace hg := hid hg; replace hu := hid hu; replace hd := hid hd
  clear hA hfu
  generalize hwe : wstr u = ws at *
  replace hwe := hid hwe
  generalize madeCells #[.int .u8 0] u.length = mc at *
  generalize hN : u.length = N at *
  replace hN := hid hN
  go_enter Try.func117, Try.ntmps117
  go_upto_region 2 with (fail)
  generalize w.alloc (.cells mc 5) = W1 at *
  go_wp2
  clear hmk
  go_loopw [15] (fun i wr => ∃ k : Nat, k ≤ N ∧ i = .int .i64 k ∧ St w.heap.size w [Asn.dig w.heap.size N (actP d g (u.take k)), Asn.own 0 2 (.slice A g.length cp) (ints g)] wr) (fun i _ => N - (intOf i).toNat)
  case atStart => exact ⟨0, Nat.zero_le _, rfl, hS.out⟩
  case round =>
    obtain ⟨k, hk, rfl, rS⟩ := hrel
    clear hS
    replace rS := hid rS
    by_cases hkN : k < N
    · have dk : decide ((k : Int) < (N : Int)) = true := decide_eq_true (by omega)
      have hks : k ≤ ws.size := by omega
      have hks2 : k < ws.size := by omega
      have hpk := hid (hpl.out k hkN)
      obtain ⟨ix, kk, row, e1, hix, hgk, hkk, hrow, hrl, hrx, hx, hy, hsn⟩ := hrd.out k hkN
      rw [e1] at hpk
      obtain ⟨ga, rfl⟩ := hA2.out (by omega)
      have hby := hbyte.out k hks2
      have hlk := hid (hal.out k hk)
      have hwk := hid (hws.out k)
      have hil := hid (ints_length row)
      have ix0 : (0 : Int) ≤ (ix : Int) := Int.natCast_nonneg _
      have ix1 : (ix : Int) < (g.length : Int) := by omega
      have kk0 : (0 : Int) ≤ (kk : Int) := Int.natCast_nonneg _
      have kk1 : (kk : Int) < (cnt d : Int) := by omega
      have hco := hid (fun (W : World) (hW : W.rowIs w.heap.size 5 N (dgs (actP d g (u.take k)))) => (show ∃ c0, W.cell? ⟨w.heap.size, k, none⟩ = some c0 ∧ W.frozen? ⟨w.heap.size, k, none⟩ = false from ⟨_, hW.cell hkN, hW.frozen k⟩))
      replace hgk := hid hgk; replace hrow := hid hrow; replace hrx := hid hrx; replace hsn := hid hsn
      clear e1 hix
      generalize wstr (u.take k) = wk at *
      generalize u.getD k 0 = x at *
      generalize pim d kk x = y at *
      generalize actP d g (u.take k) = ak at *
      generalize cnt d = C at *
      have e3 : 48 + (x : Int) - 48 = x := by omega
      have e4 : ((x : Nat) : Int) % 256 = (x : Nat) := by omega
      have x0 : (0 : Int) ≤ (x : Int) := Int.natCast_nonneg _
      have x1 : (x : Int) < (d : Int) := by omega
      go_upto_region 5 with (fail)
      replace rS := hid rS.out.drew
      refine wp_region_heldL (L := [(7, (fun w' : World => True))]) (by kernel_rfl) (HeldL.cons (fun _ => trivial) HeldL.nil) (fun hHeld => ?_)
      generalize wr.drew = wa at *
      refine wpAnyL_take0 (i := 0) (v := ?_) rfl (by kernel_rfl) (by kernel_rfl) (by kernel_rfl) (by rfl) (fun _ _ _ h => h) (Or.inl ⟨by rfl, ?_⟩) (by assumption) ?_
      rotate_left
      · (intro W _; go_simp; (with_reducible rfl))
      intro hHeld'
      clear hHeld; have hHeld := hHeld'; clear hHeld'
      try simp only [Act.put, List.getElem_toArray, List.getElem_cons_succ, List.getElem_cons_zero, List.setIfInBounds_toArray, List.set_cons_zero, List.set_cons_succ]
      refine wpAnyL_take0 (i := 2) (v := ?_) rfl (by kernel_rfl) (by kernel_rfl) (by kernel_rfl) (by rfl) (fun _ _ _ h => h) (Or.inl ⟨by rfl, ?_⟩) (by assumption) ?_
      rotate_left
      · (intro W _; go_simp; (with_reducible rfl))
      intro hHeld'
      clear hHeld; have hHeld := hHeld'; clear hHeld'
      try simp only [Act.put, List.getElem_toArray, List.getElem_cons_succ, List.getElem_cons_zero, List.setIfInBounds_toArray, List.set_cons_zero, List.set_cons_succ]
      refine wpAnyL_take0 (i := 3) (v := ?_) rfl (by kernel_rfl) (by kernel_rfl) (by kernel_rfl) (by rfl) (fun _ _ _ h => h) (Or.inl ⟨by rfl, ?_⟩) (by assumption) ?_
      rotate_left
      · (intro W _; go_simp; (with_reducible rfl))
      intro hHeld'
      clear hHeld; have hHeld := hHeld'; clear hHeld'
      try simp only [Act.put, List.getElem_toArray, List.getElem_cons_succ, List.getElem_cons_zero, List.setIfInBounds_toArray, List.set_cons_zero, List.set_cons_succ]
      refine wpAnyL_take0 (i := 4) (v := ?_) rfl (by kernel_rfl) (by kernel_rfl) (by kernel_rfl) (by rfl) (fun _ _ _ h => h) (Or.inl ⟨by rfl, ?_⟩) (by assumption) ?_
      rotate_left
      · (intro W _; go_simp; (with_reducible rfl))
      intro hHeld'
      clear hHeld; have hHeld := hHeld'; clear hHeld'
      try simp only [Act.put, List.getElem_toArray, List.getElem_cons_succ, List.getElem_cons_zero, List.setIfInBounds_toArray, List.set_cons_zero, List.set_cons_succ]
      refine wpAnyL_take0 (i := 5) (v := ?_) rfl (by kernel_rfl) (by kernel_rfl) (by kernel_rfl) (by rfl) (fun _ _ _ h => h) (Or.inl ⟨by rfl, ?_⟩) (by assumption) ?_
      rotate_left
      · (intro W _; go_simp; (with_reducible rfl))
      intro hHeld'
      clear hHeld; have hHeld := hHeld'; clear hHeld'
      try simp only [Act.put, List.getElem_toArray, List.getElem_cons_succ, List.getElem_cons_zero, List.setIfInBounds_toArray, List.set_cons_zero, List.set_cons_succ]
      refine wpAnyL_take0 (i := 6) (v := (.string wk)) rfl (by kernel_rfl) (by kernel_rfl) (by kernel_rfl) (by rfl) (fun _ _ _ h => h) (Or.inl ⟨by rfl, ?_⟩) (by assumption) ?_
      · (intro W _; go_simp; exact hwk.out)
      intro hHeld'
      clear hHeld; have hHeld := hHeld'; clear hHeld'
      try simp only [Act.put, List.getElem_toArray, List.getElem_cons_succ, List.getElem_cons_zero, List.setIfInBounds_toArray, List.set_cons_zero, List.set_cons_succ]
      refine wpAnyL_ready (rs := [1]) (by kernel_rfl) (by simp) ?_
      refine AllReadyL.cons rfl (fun K hK => ?_) AllReadyL.nil
      go_simp
      (with_reducible refine (hpm.out _).mono ?_)
      rintro e w3 ⟨vp, rfl, hM, hb⟩
      replace rS := hid (rS.out.call hb)
      clear hb
      obtain ⟨gp, cpp, rfl, _, _⟩ := hM.blk (fun e => by have h := hpml.out; rw [e] at h; simp at h; omega)
      rw [hpml.out] at hM ⊢
      replace hM := hid hM
      go_simp
      refine hK.out _ _ (HeldL.cons (fun _ => trivial) HeldL.nil) (fun hHeld' => ?_)
      clear hK K hHeld; have hHeld := hHeld'; clear hHeld'
      try simp only [Act.put, List.getElem_toArray, List.getElem_cons_succ, List.getElem_cons_zero, List.setIfInBounds_toArray, List.set_cons_zero, List.set_cons_succ]
      refine wpAnyL_ready (rs := [7]) (by kernel_rfl) (by simp) ?_
      refine AllReadyL.cons rfl (fun K hK => ?_) AllReadyL.nil
      go_simp
      (with_reducible refine (hpk.out _).mono ?_)
      rintro e w4 ⟨rfl, rfl⟩
      go_simp
      refine hK.out _ _ (HeldL.cons (fun h => absurd h (by decide +kernel)) HeldL.nil) (fun hHeld' => ?_)
      clear hK K hHeld; have hHeld := hHeld'; clear hHeld'
      try simp only [Act.put, List.getElem_toArray, List.getElem_cons_succ, List.getElem_cons_zero, List.setIfInBounds_toArray, List.set_cons_zero, List.set_cons_succ]
      have cg := rS.out.o1.cellAt _ _ hgk.out
      obtain ⟨rr, cr, hrO⟩ := hM.out.row _ _ hrow.out
      obtain ⟨gr, cpr, rfl, _, _⟩ := hrO.blk (fun e => by have h := congrArg List.length e; rw [hil.out, hrl] at h; simp at h; omega)
      rw [hil.out, hrl] at hrO cr
      have cx := hrO.cellAt _ _ hrx.out
      replace hrO := hid hrO
      refine wpAnyL_take0 (i := 8) (v := ?_) rfl (by kernel_rfl) (by kernel_rfl) (by kernel_rfl) (by rfl) (fun _ _ _ h => h) (Or.inl ⟨by rfl, ?_⟩) (by assumption) ?_
      rotate_left
      · (intro W _; go_simp; (with_reducible rfl))
      intro hHeld'
      clear hHeld; have hHeld := hHeld'; clear hHeld'
      try simp only [Act.put, List.getElem_toArray, List.getElem_cons_succ, List.getElem_cons_zero, List.setIfInBounds_toArray, List.set_cons_zero, List.set_cons_succ]
      refine wpAnyL_ready (rs := [9]) (by kernel_rfl) (by simp) ?_
      refine AllReadyL.cons rfl (fun K hK => ?_) AllReadyL.nil
      go_simp
      refine hK.out _ _ (HeldL.cons (fun h => absurd h (by decide +kernel)) HeldL.nil) (fun hHeld' => ?_)
      clear hK K hHeld; have hHeld := hHeld'; clear hHeld'
      try simp only [Act.put, List.getElem_toArray, List.getElem_cons_succ, List.getElem_cons_zero, List.setIfInBounds_toArray, List.set_cons_zero, List.set_cons_succ]
      refine wpAnyL_take0 (i := 10) (v := ?_) rfl (by kernel_rfl) (by kernel_rfl) (by kernel_rfl) (by rfl) (fun _ _ _ h => h) (Or.inl ⟨by rfl, ?_⟩) (by assumption) ?_
      rotate_left
      · (intro W _; go_simp; (with_reducible rfl))
      intro hHeld'
      clear hHeld; have hHeld := hHeld'; clear hHeld'
      try simp only [Act.put, List.getElem_toArray, List.getElem_cons_succ, List.getElem_cons_zero, List.setIfInBounds_toArray, List.set_cons_zero, List.set_cons_succ]
      refine wpAnyL_ready (rs := [11]) (by kernel_rfl) (by simp) ?_
      refine AllReadyL.cons rfl (fun K hK => ?_) AllReadyL.nil
      go_simp
      refine hK.out _ _ (HeldL.cons (fun h => absurd h (by decide +kernel)) HeldL.nil) (fun hHeld' => ?_)
      clear hK K hHeld; have hHeld := hHeld'; clear hHeld'
      try simp only [Act.put, List.getElem_toArray, List.getElem_cons_succ, List.getElem_cons_zero, List.setIfInBounds_toArray, List.set_cons_zero, List.set_cons_succ]
      refine wpAnyL_take0 (i := 12) (v := ?_) rfl (by kernel_rfl) (by kernel_rfl) (by kernel_rfl) (by rfl) (fun _ _ _ h => h) (Or.inl ⟨by rfl, ?_⟩) (by assumption) ?_
      rotate_left
      · (intro W _; go_simp; (with_reducible rfl))
      intro hHeld'
      clear hHeld; have hHeld := hHeld'; clear hHeld'
      try simp only [Act.put, List.getElem_toArray, List.getElem_cons_succ, List.getElem_cons_zero, List.setIfInBounds_toArray, List.set_cons_zero, List.set_cons_succ]
      refine wpAnyL_done (by kernel_rfl) ?_ _
      obtain ⟨c0, co, fo⟩ := hco.out _ rS.out.d0
      go_wp2_with (first
        | (go_at_call 189; (with_reducible refine (letter_any y (by omega) _).mono ?_); rintro e w5 ⟨rfl, rfl⟩))
      replace rS := hid (rS.out.setDig (Nat.le_of_eq rfl) y k hlk.out)
      rw [← hsn.out] at rS
      go_roundw
      case rel => exact ⟨k + 1, by omega, by go_num, rS.out⟩
      case measure => simp [intOf]; omega
    · obtain rfl : k = N := by omega
      have dk : decide ((k : Int) < (k : Int)) = false := decide_eq_false (by omega)
      have hconv := conv_dgs (hal.out k (Nat.le_refl _)) rS.out.d0
      go_wp2
      go_ret
      exact ⟨rfl, rS.out.bel⟩
end Go.Proofs.Ytbmkkaecfogmoaa

/- The portrait of a map that respects beginnings, and how it is read from the map of a level. -/
namespace Go.Proofs.Ytbmkkaecfogmoaa
open Go.RowKit
set_option linter.unusedVariables false
set_option linter.unusedSimpArgs false
-- @LONG

/-- What a map makes of the letters behind a word. -/
def lrow (d : Nat) (F : List Nat → List Nat) (u : List Nat) : List Int := (List.range d).map fun x => (((F (u ++ [x])).getD u.length 0 : Nat) : Int)
/-- The portrait of a map. -/
def prtF (d : Nat) (F : List Nat → List Nat) (n : Nat) : List Int := byL d (fun u => pnm (lrow d F u)) n
theorem pq_two (a b : Nat) (ha : a < 2) (hb : b < 2) (h : a ≠ b) : ∃ i, i < cnt 2 ∧ pnm [(a : Int), (b : Int)] = (i : Nat) ∧ pim 2 i 0 = a ∧ pim 2 i 1 = b := by
  have h1 : (a = 0 ∧ b = 1) ∨ (a = 1 ∧ b = 0) := by omega
  rcases h1 with ⟨rfl, rfl⟩ | ⟨rfl, rfl⟩
  · exact ⟨0, by decide, by decide, by decide, by decide⟩
  · exact ⟨1, by decide, by decide, by decide, by decide⟩
theorem pq_three (a b c : Nat) (ha : a < 3) (hb : b < 3) (hc : c < 3) (h : a ≠ b) (h2 : a ≠ c) (h3 : b ≠ c) : ∃ i, i < cnt 3 ∧ pnm [(a : Int), (b : Int), (c : Int)] = (i : Nat) ∧ pim 3 i 0 = a ∧ pim 3 i 1 = b ∧ pim 3 i 2 = c := by
  have h1 : (a = 0 ∧ b = 1 ∧ c = 2) ∨ (a = 0 ∧ b = 2 ∧ c = 1) ∨ (a = 1 ∧ b = 0 ∧ c = 2) ∨ (a = 1 ∧ b = 2 ∧ c = 0) ∨ (a = 2 ∧ b = 0 ∧ c = 1) ∨ (a = 2 ∧ b = 1 ∧ c = 0) := by omega
  rcases h1 with ⟨rfl, rfl, rfl⟩ | ⟨rfl, rfl, rfl⟩ | ⟨rfl, rfl, rfl⟩ | ⟨rfl, rfl, rfl⟩ | ⟨rfl, rfl, rfl⟩ | ⟨rfl, rfl, rfl⟩
  · exact ⟨0, by decide, by decide, by decide, by decide, by decide⟩
  · exact ⟨1, by decide, by decide, by decide, by decide, by decide⟩
  · exact ⟨2, by decide, by decide, by decide, by decide, by decide⟩
  · exact ⟨3, by decide, by decide, by decide, by decide, by decide⟩
  · exact ⟨4, by decide, by decide, by decide, by decide, by decide⟩
  · exact ⟨5, by decide, by decide, by decide, by decide, by decide⟩
section
variable {d n : Nat} {F : List Nat → List Nat}
theorem snoc_lt {u : List Nat} {x : Nat} (hu : ∀ y ∈ u, y < d) (hx : x < d) : ∀ y ∈ u ++ [x], y < d := fun y hy => (List.mem_append.1 hy).elim (hu y) fun hy => by rw [List.mem_singleton.1 hy]; exact hx
/-- The letter that is put out behind a word. -/
theorem Aut.last (h : Aut d F n) {u : List Nat} {x : Nat} (hu : ∀ y ∈ u, y < d) (hx : x < d) (hn : u.length < n) : F (u ++ [x]) = F u ++ [(F (u ++ [x])).getD u.length 0] ∧ (F (u ++ [x])).getD u.length 0 < d := by
  obtain ⟨y, hy⟩ := h.pre u x hu hx hn
  have hl := h.len u hu (by omega)
  have e : (F (u ++ [x])).getD u.length 0 = y := by
    rw [hy, List.getD_eq_getElem?_getD, ← hl, List.getElem?_append_right (Nat.le_refl _)]; simp
  refine ⟨by rw [e]; exact hy, ?_⟩
  rw [e]
  exact h.lt (u ++ [x]) (snoc_lt hu hx) (by simp; omega) y (by rw [hy]; simp)
theorem Aut.last_ne (h : Aut d F n) {u : List Nat} {x y : Nat} (hu : ∀ z ∈ u, z < d) (hx : x < d) (hy : y < d) (hn : u.length < n) (hne : x ≠ y) : (F (u ++ [x])).getD u.length 0 ≠ (F (u ++ [y])).getD u.length 0 := fun e => by
  have h1 := (h.last hu hx hn).1
  have h2 := (h.last hu hy hn).1
  rw [e] at h1
  have h3 := h.inj _ _ (snoc_lt hu hx) (snoc_lt hu hy) (by simp; omega) (by simp) (h1.trans h2.symm)
  have h4 := List.append_cancel_left h3
  exact hne (by simpa using h4)
theorem lrow_length (u : List Nat) : (lrow d F u).length = d := by simp [lrow]
/-- The number of what is made of the letters behind a word. -/
theorem lrow_num (hd : d = 2 ∨ d = 3) (h : Aut d F n) {u : List Nat} (hu : ∀ y ∈ u, y < d) (hn : u.length < n) : ∃ i, i < cnt d ∧ pnm (lrow d F u) = (i : Nat) ∧ ∀ x, x < d → pim d i x = (F (u ++ [x])).getD u.length 0 := by
  rcases hd with rfl | rfl
  · obtain ⟨i, h1, h2, h3, h4⟩ := pq_two _ _ (h.last hu (show 0 < 2 by omega) hn).2 (h.last hu (show 1 < 2 by omega) hn).2 (h.last_ne hu (show 0 < 2 by omega) (show 1 < 2 by omega) hn (by omega))
    refine ⟨i, h1, h2, fun x hx => ?_⟩
    have : x = 0 ∨ x = 1 := by omega
    rcases this with rfl | rfl
    · exact h3
    · exact h4
  · obtain ⟨i, h1, h2, h3, h4, h5⟩ := pq_three _ _ _ (h.last hu (show 0 < 3 by omega) hn).2 (h.last hu (show 1 < 3 by omega) hn).2 (h.last hu (show 2 < 3 by omega) hn).2 (h.last_ne hu (show 0 < 3 by omega) (show 1 < 3 by omega) hn (by omega)) (h.last_ne hu (show 0 < 3 by omega) (show 2 < 3 by omega) hn (by omega)) (h.last_ne hu (show 1 < 3 by omega) (show 2 < 3 by omega) hn (by omega))
    refine ⟨i, h1, h2, fun x hx => ?_⟩
    have : x = 0 ∨ x = 1 ∨ x = 2 := by omega
    rcases this with rfl | rfl | rfl
    · exact h3
    · exact h4
    · exact h5
theorem byL_all {G : List Nat → Int} {P : Int → Prop} : ∀ n, (∀ k, k < n → ∀ j, j < pw d k → P (G (wrd d k j))) → ∀ x ∈ byL d G n, P x
  | 0, _, x, hx => by cases hx
  | n + 1, h, x, hx => by
    rcases List.mem_append.1 hx with hx | hx
    · exact byL_all n (fun k hk => h k (by omega)) x hx
    · obtain ⟨j, hj, rfl⟩ := List.mem_map.1 hx
      exact h n (by omega) j (List.mem_range.1 hj)
theorem prtF_isP (hd : d = 2 ∨ d = 3) (h : Aut d F n) : IsP d n (prtF d F n) := by
  refine ⟨byL_length _ _ _, byL_all n fun k hk j hj => ?_⟩
  obtain ⟨i, h1, h2, _⟩ := lrow_num hd h (u := wrd d k j) (wrd_lt d (by omega) k j) (by rw [wrd_length]; exact hk)
  rw [h2]; omega
theorem prtF_gAt (hd : d = 2 ∨ d = 3) {u : List Nat} (hu : ∀ y ∈ u, y < d) (hn : u.length < n) : gAt d (prtF d F n) u = pnm (lrow d F u) := by
  have h1 := num_lt d u.length u rfl hu
  have h2 := byL_get d (fun u => pnm (lrow d F u)) u.length (num d u) h1 n hn
  unfold gAt prtF
  rw [List.getD_eq_getElem?_getD, h2, wrd_num d (by omega) _ u rfl hu]; rfl
/-- The portrait of a map leads words to where the map leads them. -/
theorem act_prtF (hd : d = 2 ∨ d = 3) (h : Aut d F n) : ∀ (k : Nat) (u : List Nat), u.length = k → k ≤ n → (∀ y ∈ u, y < d) → actP d (prtF d F n) u = F u
  | 0, u, hk, _, hu => by
    have h1 := h.len u hu (by omega)
    rw [List.length_eq_zero_iff.1 hk] at h1 ⊢
    exact (List.length_eq_zero_iff.1 h1).symm
  | k + 1, u, hk, hkn, hu => by
    obtain ⟨v, x, rfl⟩ : ∃ v x, u = v ++ [x] := ⟨u.dropLast, u.getLast (by intro e; rw [e] at hk; simp at hk), (List.dropLast_concat_getLast _).symm⟩
    have hv : ∀ y ∈ v, y < d := fun y hy => hu y (List.mem_append.2 (.inl hy))
    have hx : x < d := hu x (by simp)
    have hvk : v.length = k := by simpa using hk
    obtain ⟨i, h1, h2, h3⟩ := lrow_num hd h hv (by omega)
    rw [actP_snoc, act_prtF hd h k v hvk (by omega) hv, prtF_gAt hd hv (by omega), h2, Int.toNat_natCast, h3 x hx]
    exact (h.last hv hx (by omega)).1.symm
theorem pmF_congr {G : List Nat → List Nat} (hd : 0 < d) (h : ∀ u, u.length = n → (∀ y ∈ u, y < d) → F u = G u) : pmF d F n = pmF d G n :=
  List.map_congr_left fun k _ => by rw [h _ (wrd_length d n k) (wrd_lt d hd n k)]
theorem prtF_congr {G : List Nat → List Nat} (hd : 0 < d) (h : ∀ u, u.length ≤ n → (∀ y ∈ u, y < d) → F u = G u) : prtF d F n = prtF d G n := by
  refine byL_congr d _ _ n fun k hk j hj => congrArg pnm ?_
  refine List.map_congr_left fun x hx => ?_
  rw [h _ (by simp [wrd_length]; omega) (snoc_lt (wrd_lt d hd k j) (List.mem_range.1 hx))]
/-- What stands at a place of a word, read from its number. -/
theorem num_at (hd : 0 < d) : ∀ (j : Nat) (v : List Nat) (k : Nat), v.length = k + j + 1 → (∀ y ∈ v, y < d) → num d v / pw d j % d = v.getD k 0
  | 0, v, k, hl, hv => by
    obtain ⟨u, x, rfl⟩ : ∃ u x, v = u ++ [x] := ⟨v.dropLast, v.getLast (by intro e; rw [e] at hl; simp at hl), (List.dropLast_concat_getLast _).symm⟩
    have hk : u.length = k := by simpa using hl
    have hx : x < d := hv x (by simp)
    rw [show pw d 0 = 1 from rfl, Nat.div_one, num_snoc, Nat.mul_comm, Nat.mul_add_mod, Nat.mod_eq_of_lt hx, ← hk]
    simp [List.getD_eq_getElem?_getD]
  | j + 1, v, k, hl, hv => by
    obtain ⟨u, x, rfl⟩ : ∃ u x, v = u ++ [x] := ⟨v.dropLast, v.getLast (by intro e; rw [e] at hl; simp at hl), (List.dropLast_concat_getLast _).symm⟩
    have hk : u.length = k + j + 1 := by
      have : u.length + 1 = k + (j + 1) + 1 := by simpa using hl
      omega
    have hx : x < d := hv x (by simp)
    have h1 : (num d u * d + x) / d = num d u := by rw [Nat.mul_comm, Nat.mul_add_div hd, Nat.div_eq_of_lt hx, Nat.add_zero]
    rw [num_snoc, show pw d (j + 1) = pw d j * d from rfl, Nat.mul_comm (pw d j) d, ← Nat.div_div_eq_div_mul, h1, num_at hd j u k hk fun y hy => hv y (List.mem_append.2 (.inl hy))]
    rw [List.getD_eq_getElem?_getD, List.getD_eq_getElem?_getD, List.getElem?_append_left (by omega)]
/-- The number of a word with zeros behind it. -/
theorem num_zeros (u : List Nat) : ∀ j, num d (u ++ List.replicate j 0) = num d u * pw d j
  | 0 => by rw [List.replicate_zero, List.append_nil]; exact (Nat.mul_one _).symm
  | j + 1 => by
    rw [List.replicate_succ', ← List.append_assoc, num_snoc, num_zeros u j, Nat.add_zero, Nat.mul_assoc]; rfl
theorem zeros_lt (hd : 0 < d) {u : List Nat} (hu : ∀ y ∈ u, y < d) (j : Nat) : ∀ y ∈ u ++ List.replicate j 0, y < d := fun y hy => (List.mem_append.1 hy).elim (hu y) fun hy => by rw [List.eq_of_mem_replicate hy]; exact hd
/-- What a map makes of the beginning of a word. -/
theorem Aut.begin (hd : 0 < d) (h : Aut d F n) {u : List Nat} (hu : ∀ y ∈ u, y < d) : ∀ j, u.length + j ≤ n → ∃ v, F (u ++ List.replicate j 0) = F u ++ v ∧ v.length = j
  | 0, _ => ⟨[], by simp, rfl⟩
  | j + 1, hj => by
    obtain ⟨v, hv, hvl⟩ := Aut.begin hd h hu j (by omega)
    obtain ⟨y, hy⟩ := h.pre (u ++ List.replicate j 0) 0 (zeros_lt hd hu j) hd (by simp; omega)
    exact ⟨v ++ [y], by rw [List.replicate_succ', ← List.append_assoc, hy, hv, List.append_assoc], by simp [hvl]⟩
/-- How the letter behind a word is read from the numbers of a level. -/
theorem pmF_read (hd : d = 2 ∨ d = 3) (h : Aut d F n) {u : List Nat} (hu : ∀ y ∈ u, y < d) (hn : u.length < n) {x : Nat} (hx : x < d) : num d u * pw d (n - u.length) + x * pw d (n - u.length - 1) < pw d n ∧ (pmF d F n).getD (num d u * pw d (n - u.length) + x * pw d (n - u.length - 1)) 0 / pw d (n - u.length - 1) % d = (F (u ++ [x])).getD u.length 0 := by
  have d0 : 0 < d := by omega
  obtain ⟨j, hj⟩ : ∃ j, n = u.length + j + 1 := ⟨n - u.length - 1, by omega⟩
  have e1 : n - u.length = j + 1 := by omega
  have e2 : n - u.length - 1 = j := by omega
  rw [e2, e1]
  have hux := snoc_lt hu hx
  have e3 : num d u * pw d (j + 1) + x * pw d j = num d ((u ++ [x]) ++ List.replicate j 0) := by
    rw [num_zeros, num_snoc, Nat.add_mul, Nat.mul_assoc, show pw d (j + 1) = pw d j * d from rfl, Nat.mul_comm (pw d j) d]
  have hl : ((u ++ [x]) ++ List.replicate j 0).length = n := by simp; omega
  have hz := zeros_lt d0 hux j
  have hlt := num_lt d n _ hl hz
  rw [e3]
  refine ⟨hlt, ?_⟩
  rw [pmF_get hlt, wrd_num d d0 n _ hl hz]
  obtain ⟨v, hv, hvl⟩ := h.begin d0 hux j (by simp; omega)
  have hFl := h.len (u ++ [x]) hux (by simp; omega)
  have hF2 := h.len _ hz (by omega)
  rw [num_at d0 j _ u.length (by rw [hF2, hl]; omega) (h.lt _ hz (by omega)), hv]
  rw [List.getD_eq_getElem?_getD, List.getD_eq_getElem?_getD, List.getElem?_append_left (by rw [hFl]; simp)]
end
end Go.Proofs.Ytbmkkaecfogmoaa
