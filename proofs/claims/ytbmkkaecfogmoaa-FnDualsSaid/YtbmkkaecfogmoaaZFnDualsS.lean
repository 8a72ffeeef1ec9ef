/- What the proof of FnDuals leans on, part 19 of 26. -/
import Derived.Test.YtbmkkaecfogmoaaZFnDualsR
/- Portraits: the reference's small functions. -/
namespace Go.Proofs.Ytbmkkaecfogmoaa
open Go.RowKit
set_option linter.unusedVariables false
set_option linter.unusedSimpArgs false
-- @LONG

theorem l03Sizes_any (d n : Int) (r : Bool) (hr : r = decide (IsD d n)) (w : World) :
    Calls Try.prog 126 #[.int .i64 d, .int .i64 n] w fun e w' => e = .returned (.bool r) ∧ w = w' := by
  have hl := hid (fun W => l01In_any d 2 3 (decide (2 ≤ d ∧ d ≤ 3)) rfl W)
  have hw := hid (fun W => l01In_any n 1 4 (decide (1 ≤ n ∧ n ≤ 4)) rfl W)
  by_cases h1 : 2 ≤ d ∧ d ≤ 3
  · have hr2 := hid (show r = decide (1 ≤ n ∧ n ≤ 4) by rw [hr]; unfold IsD; simp [h1])
    rw [decide_eq_true h1] at hl
    generalize decide (1 ≤ n ∧ n ≤ 4) = c at *
    clear h1 hr
    go_enter Try.func126, Try.ntmps126
    go_wp2_with (first
      | (go_at_call 91; (first | (with_reducible refine (hl.out _).mono ?_) | (with_reducible refine (hw.out _).mono ?_)); rintro e w' ⟨rfl, rfl⟩))
    go_ret
    exact ⟨retB hr2.out.symm, rfl⟩
  · have hr2 := hid (show r = false by rw [hr]; unfold IsD; simp [h1])
    rw [decide_eq_false h1] at hl
    clear h1 hr
    go_enter Try.func126, Try.ntmps126
    go_wp2_with (first
      | (go_at_call 91; (with_reducible refine (hl.out _).mono ?_); rintro e w' ⟨rfl, rfl⟩))
    go_ret
    exact ⟨retB hr2.out.symm, rfl⟩
theorem l03Count_any (d : Nat) (hd : d = 2 ∨ d = 3) (w : World) :
    Calls Try.prog 141 #[.int .i64 d] w fun e w' => e = .returned (.int .i64 (cnt d : Nat)) ∧ w = w' := by
  rcases hd with rfl | rfl
  · go_enter Try.func141, Try.ntmps141
    go_wp2
    go_ret
    exact ⟨rfl, rfl⟩
  · go_enter Try.func141, Try.ntmps141
    go_wp2
    go_ret
    exact ⟨rfl, rfl⟩
theorem l03Start_any (d n : Nat) (hd : d = 2 ∨ d = 3) (hn : n ≤ 5) (w : World) :
    Calls Try.prog 205 #[.int .i64 d, .int .i64 n] w fun e w' => e = .returned (.int .i64 (start d n : Nat)) ∧ w = w' := by
  have hp := hid (fun k (hk : k < n) W => l01Power_any d k (by omega) (by have := pw5 (n := k) hd (by omega); omega) (by omega) W)
  have hp5 := hid (fun k (hk : k < n) => pw5 (n := k) hd (by omega))
  have hst := hid (fun k (hk : k < n) => (show start d k ≤ 243 by
    have := start_pw d (by omega) k
    have h2 : start d k ≤ start d k * (d - 1) := Nat.le_mul_of_pos_right _ (by omega)
    have h3 := pw5 (n := k) hd (by omega)
    omega))
  have hsn := hid (fun k => (show start d (k + 1) = start d k + pw d k from rfl))
  clear hd
  go_enter Try.func205, Try.ntmps205
  go_wp2
  go_loop [5, 6] (fun p i => ∃ k : Nat, k ≤ n ∧ i = .int .i64 k ∧ p = .int .i64 (start d k : Nat)) (fun _ i => n - (intOf i).toNat)
  case atStart => exact ⟨0, by omega, rfl, rfl⟩
  case round =>
    obtain ⟨k, hk, rfl, rfl⟩ := hrel
    by_cases hlt : k < n
    · have dk : decide ((k : Int) < (n : Int)) = true := decide_eq_true (by omega)
      have hpk := hid (hp.out k hlt)
      have h1 := hp5.out k hlt
      have h2 := hst.out k hlt
      have h3 := hid (hsn.out k)
      generalize start d k = a at *
      generalize pw d k = b at *
      go_wp2_with (first
        | (go_at_call 196; (with_reducible refine (hpk.out _).mono ?_); rintro e w' ⟨rfl, rfl⟩))
      go_round
      case rel => exact ⟨k + 1, by omega, by go_num, by rw [h3.out]; go_num⟩
      case measure => simp [intOf]; omega
    · obtain rfl : k = n := by omega
      have dk : decide ((k : Int) < (k : Int)) = false := decide_eq_false (by omega)
      go_wp2
      go_ret
      exact ⟨rfl, rfl⟩
set_option maxHeartbeats 1000000 in
set_option maxRecDepth 100000 in
theorem l03Is_any (w : World) (d n : Nat) (hd : d = 2 ∨ d = 3) (hn : n ≤ 4) (base : Nat) (v : Value) (g : List Int) (h : Own w base 2 v (ints g)) (hl : g.length < 2000000) (r : Bool) (hr : r = decide (IsP d n g)) :
    Calls Try.prog 127 #[.int .i64 d, .int .i64 n, v] w fun e w' => e = .returned (.bool r) ∧ Below w.heap.size w w' := by
  have hil := ints_length g
  obtain ⟨A, c, rfl, _, hA⟩ := h.form
  rw [hil] at h ⊢
  have hst := hid (fun W => l03Start_any d n hd (by omega) W)
  have hct := hid (fun W => l03Count_any d hd W)
  have hc6 : cnt d ≤ 6 ∧ 2 ≤ cnt d := by rcases hd with rfl | rfl <;> decide
  have hsl := (start_le hd hn).1
  have hS := hid (Below.refl w.heap.size w)
  by_cases he : g.length = start d n
  · have e1 : ((g.length : Int) != ((start d n : Nat) : Int)) = false := by simp [he]
    have hrt := hid (fun (hh : ∀ k ∈ g, 0 ≤ k ∧ k ≤ (cnt d : Int) - 1) => (show r = true by rw [hr]; exact decide_eq_true ⟨he, fun k hk => by have := hh k hk; omega⟩))
    have hrf := hid (fun k (hk : k ∈ g) (hb : ¬ (0 ≤ k ∧ k ≤ (cnt d : Int) - 1)) => (show r = false by rw [hr]; exact decide_eq_false fun hp => by have := hp.2 k hk; omega))
    have hin := hid (fun x W => l01In_any x 0 ((cnt d : Int) - 1) (decide (0 ≤ x ∧ x ≤ (cnt d : Int) - 1)) rfl W)
    have ew : IntKind.i64.wrap ((cnt d : Int) - 1) = (cnt d : Int) - 1 := IntWalk.i64_in _ (by omega)
    have hcell := hid (fun (j : Nat) (x : Int) (hx : g[j]? = some x) => (show ∃ ga, A = some ⟨ga, 0, none⟩ ∧ ∀ W, Below w.heap.size w W → W.cell? ⟨ga, j, none⟩ = some (.int .i64 x) from by
      rcases hA with ⟨_, h1, _⟩ | ⟨ga, rfl, _⟩
      · have h2 : g.length = 0 := by rw [← hil, h1]; rfl
        have h3 := (List.getElem?_eq_some_iff.1 hx).1
        omega
      · exact ⟨ga, rfl, fun W hW => (h.below hW).cellAt j _ (by simp [ints, hx])⟩))
    clear hr h hA he
    generalize start d n = R at *
    generalize cnt d = C at *
    generalize hgl : g.length = L at *
    replace hgl := hid hgl
    go_enter Try.func127, Try.ntmps127
    go_wp2_with (first
      | (go_at_call 205; (with_reducible refine (hst.out _).mono ?_); rintro e w' ⟨rfl, rfl⟩))
    go_loopw [7] (fun i wr => ∃ j : Nat, j ≤ L ∧ i = .int .i64 j ∧ Hid (∀ i x, i < j → g[i]? = some x → 0 ≤ x ∧ x ≤ (C : Int) - 1) ∧ Hid (Below w.heap.size w wr)) (fun i _ => L - (intOf i).toNat)
    case atStart => exact ⟨0, Nat.zero_le _, rfl, fun i x h => absurd h (by omega), hS⟩
    case round =>
      obtain ⟨j, hj, rfl, hall, rS⟩ := hrel
      clear hS
      by_cases hlt : j < L
      · obtain ⟨x, hx⟩ : ∃ x, g[j]? = some x := ⟨_, List.getElem?_eq_getElem (by rw [hgl.out]; exact hlt)⟩
        obtain ⟨ga, rfl, hce⟩ := hcell.out j x hx
        have co := hce _ rS.out
        have dj : decide ((j : Int) < (L : Int)) = true := decide_eq_true (by omega)
        have j0 : (0 : Int) ≤ (j : Int) := Int.natCast_nonneg _
        have j1 : (j : Int) < (L : Int) := by omega
        by_cases hr : 0 ≤ x ∧ x ≤ (C : Int) - 1
        · have hin2 := hid (fun W => by have h := hin.out x W; rw [decide_eq_true hr] at h; exact h)
          have hall2 := hid (fun i y (hi : i < j + 1) (hy : g[i]? = some y) => (show 0 ≤ y ∧ y ≤ (C : Int) - 1 from by
            by_cases e : i < j
            · exact hall.out i y e hy
            · obtain rfl : i = j := by omega
              rw [hx] at hy; injection hy with hy; subst hy
              exact hr))
          clear hr hce hx
          go_upto_region 6 with (fail)
          go_quiet (first
            | (go_at_call 141; exact quiet_same (hct.out _))
            | (go_at_call 91; exact quiet_same (hin2.out _)))
          go_wp2
          go_roundw
          case rel => exact ⟨j + 1, by omega, by go_num, hall2, below_drewN rS.out _⟩
          case measure => simp [intOf]; omega
        · have hin2 := hid (fun W => by have h := hin.out x W; rw [decide_eq_false hr] at h; exact h)
          have hR := hid (hrf.out x (List.mem_of_getElem? hx) hr)
          clear hr hce hx
          go_upto_region 6 with (fail)
          go_quiet (first
            | (go_at_call 141; exact quiet_same (hct.out _))
            | (go_at_call 91; exact quiet_same (hin2.out _)))
          go_wp2
          go_ret
          exact ⟨retB hR.out.symm, below_drewN rS.out _⟩
      · obtain rfl : j = L := by omega
        have dj : decide ((j : Int) < (j : Int)) = false := decide_eq_false (by omega)
        have hR := hid (hrt.out fun x hx => by
          obtain ⟨i, hi, rfl⟩ := List.getElem_of_mem hx
          exact hall.out i _ (by rw [← hgl.out]; exact hi) (List.getElem?_eq_getElem hi))
        go_wp2
        go_ret
        exact ⟨retB hR.out.symm, rS.out⟩
  · have e1 : ((g.length : Int) != ((start d n : Nat) : Int)) = true := by simp; omega
    have hr2 := hid (show r = false by rw [hr]; exact decide_eq_false fun h => he h.1)
    clear hr h hA he
    generalize start d n = R at *
    generalize g.length = L at *
    go_enter Try.func127, Try.ntmps127
    go_wp2_with (first
      | (go_at_call 205; (with_reducible refine (hst.out _).mono ?_); rintro e w' ⟨rfl, rfl⟩))
    go_ret
    exact ⟨retB hr2.out.symm, hS.out⟩
set_option maxHeartbeats 1000000 in
set_option maxRecDepth 100000 in
theorem l03Code_any (w : World) (d n : Int) (base : Nat) (v : Value) (M : List (List Int)) (h : Mat w base v M) (hl : M.length < 2000000) (hlr : ∀ row ∈ M, row.length < 2000000) :
    Calls Try.prog 118 #[.int .i64 d, .int .i64 n, v] w fun e w' => e = .returned (.int .i64 (pcode d n M)) ∧ Below w.heap.size w w' := by
  have hsi := hid (fun W => l03Sizes_any d n (decide (IsD d n)) rfl W)
  have hS := hid (Below.refl w.heap.size w)
  by_cases hD : IsD d n
  · rw [decide_eq_true hD] at hsi
    have hpt := hid (fun (hh : ∀ g ∈ M, IsP d.toNat n.toNat g) => (show pcode d n M = 0 by unfold pcode; rw [if_pos hD, if_pos hh]))
    have hpf := hid (fun g (hg : g ∈ M) (hb : ¬ IsP d.toNat n.toNat g) => (show pcode d n M = 1 by unfold pcode; rw [if_pos hD, if_neg fun hh => hb (hh g hg)]))
    obtain ⟨d, n, rfl, rfl, hd, hn1, hn4⟩ := hD.nat
    simp only [Int.toNat_natCast] at hpt hpf
    have his := hid (fun W b v g (hO : Own W b 2 v (ints g)) (hm : g ∈ M) (r : Bool) (hr : r = decide (IsP d n g)) => l03Is_any W d n hd hn4 b v g hO (hlr g hm) r hr)
    have hcell := hid (fun (j : Nat) (x : List Int) (hx : M[j]? = some x) => (show ∃ ga, v = .slice (some ⟨ga, 0, none⟩) M.length (match v with | .slice _ _ c => c | _ => 0) ∧ ∀ W, Below w.heap.size w W → ∃ r, W.cell? ⟨ga, j, none⟩ = some r ∧ Own W base 2 r (ints x) from by
      obtain ⟨ga, ca, rfl, _⟩ := h.blk (fun e => by rw [e] at hx; simp at hx)
      exact ⟨ga, rfl, fun W hW => (h.below hW).row j x hx⟩))
    obtain ⟨A, c, rfl⟩ := h.form
    dsimp only at hcell
    clear h hlr hD
    obtain ⟨R, hR⟩ : ∃ R, R = pcode d n M := ⟨_, rfl⟩
    rw [← hR] at hpt hpf ⊢
    clear hR
    generalize hML : M.length = L at *
    replace hML := hid hML
    go_enter Try.func118, Try.ntmps118
    go_wp2_with (first
      | (go_at_call 126; (with_reducible refine (hsi.out _).mono ?_); rintro e w' ⟨rfl, rfl⟩))
    go_loopw [7] (fun i wr => ∃ j : Nat, j ≤ L ∧ i = .int .i64 j ∧ Hid (∀ i x, i < j → M[i]? = some x → IsP d n x) ∧ Hid (Below w.heap.size w wr)) (fun i _ => L - (intOf i).toNat)
    case atStart => exact ⟨0, Nat.zero_le _, rfl, fun i x h => absurd h (by omega), hS⟩
    case round =>
      obtain ⟨j, hj, rfl, hall, rS⟩ := hrel
      clear hS
      by_cases hlt : j < L
      · obtain ⟨x, hx⟩ : ∃ x, M[j]? = some x := ⟨_, List.getElem?_eq_getElem (by rw [hML.out]; exact hlt)⟩
        obtain ⟨ga, he, hce⟩ := hcell.out j x hx
        injection he with he
        subst he
        obtain ⟨rv, co, hO⟩ := hce _ rS.out
        have dj : decide ((j : Int) < (L : Int)) = true := decide_eq_true (by omega)
        have j0 : (0 : Int) ≤ (j : Int) := Int.natCast_nonneg _
        have j1 : (j : Int) < (L : Int) := by omega
        by_cases hr : IsP d n x
        · have hi2 := hid (his.out wr base rv x hO (List.mem_of_getElem? hx) true (decide_eq_true hr).symm)
          have hall2 := hid (fun i y (hi : i < j + 1) (hy : M[i]? = some y) => (show IsP d n y from by
            by_cases e : i < j
            · exact hall.out i y e hy
            · obtain rfl : i = j := by omega
              rw [hx] at hy; injection hy with hy; subst hy
              exact hr))
          clear hr hce hx hO
          go_wp2_with (first
            | (go_at_call 127; (with_reducible refine (hi2.out).mono ?_); rintro e w3 ⟨rfl, hb⟩; replace rS := hid (rS.out.trans (hb.mono rS.out.size)); clear hb))
          go_roundw
          case rel => exact ⟨j + 1, by omega, by go_num, hall2, rS⟩
          case measure => simp [intOf]; omega
        · have hi2 := hid (his.out wr base rv x hO (List.mem_of_getElem? hx) false (decide_eq_false hr).symm)
          have hRR := hid (hpf.out x (List.mem_of_getElem? hx) hr)
          clear hr hce hx hO
          go_wp2_with (first
            | (go_at_call 127; (with_reducible refine (hi2.out).mono ?_); rintro e w3 ⟨rfl, hb⟩; replace rS := hid (rS.out.trans (hb.mono rS.out.size)); clear hb))
          go_ret
          exact ⟨retI hRR.out.symm, rS.out⟩
      · obtain rfl : j = L := by omega
        have dj : decide ((j : Int) < (j : Int)) = false := decide_eq_false (by omega)
        have hRR := hid (hpt.out fun x hx => by
          obtain ⟨i, hi, rfl⟩ := List.getElem_of_mem hx
          exact hall.out i _ (by rw [← hML.out]; exact hi) (List.getElem?_eq_getElem hi))
        go_wp2
        go_ret
        exact ⟨retI hRR.out.symm, rS.out⟩
  · rw [decide_eq_false hD] at hsi
    have hpc := hid (show pcode d n M = 2 by unfold pcode; rw [if_neg hD])
    rw [hpc.out]
    clear hD hpc h
    go_enter Try.func118, Try.ntmps118
    go_wp2_with (first
      | (go_at_call 126; (with_reducible refine (hsi.out _).mono ?_); rintro e w' ⟨rfl, rfl⟩))
    go_ret
    exact ⟨rfl, hS.out⟩
set_option maxHeartbeats 1000000 in
theorem l03At_any (w : World) (d n : Nat) (hd : d = 2 ∨ d = 3) (hn : n ≤ 4) (base : Nat) (v : Value) (g : List Int) (h : Own w base 2 v (ints g)) (hg : IsP d n g) (u : List Nat) (hu : ∀ x ∈ u, x < d) (hlen : u.length < n) :
    Calls Try.prog 217 #[.int .i64 d, v, .string (wstr u)] w fun e w' => e = .returned (.int .i64 (gAt d g u)) ∧ w = w' := by
  have hil := ints_length g
  have hin := gAt_in hd hg u hu hlen
  obtain ⟨ga, ca, rfl, _⟩ := h.blk (fun e => by have h : g.length = 0 := (by rw [← hil, e]; rfl); have := hin.1; omega)
  rw [hil] at h ⊢
  have co := h.cellAt (start d u.length + num d u) (.int .i64 (gAt d g u)) (by simp only [ints, List.getElem?_map, hin.2]; rfl)
  have hst := hid (fun W => l03Start_any d u.length hd (by omega) W)
  have hnm := hid (fun W => l01NumberOf_any d (by omega) (by omega) u hu (by have := pw5 (n := u.length) hd (by omega); omega) (by omega) W)
  have hsz := wstr_size u
  have hi2 := hin.1
  have hb1 := (start_le hd (show u.length ≤ 4 by omega))
  have hb2 := num_lt d u.length u rfl hu
  generalize gAt d g u = R at *
  clear hin hu h
  have i0 : (0 : Int) ≤ (start d u.length : Int) + (num d u : Int) := by omega
  have i1 : (start d u.length : Int) + (num d u : Int) < (g.length : Int) := by omega
  generalize wstr u = ws at *
  generalize hLn : u.length = L at *
  generalize start d L = a at *
  generalize num d u = b at *
  have ew : IntKind.i64.wrap ((a : Int) + (b : Int)) = (a : Int) + (b : Int) := IntWalk.i64_in _ (by omega)
  have et : ((a : Int) + (b : Int)).toNat = a + b := by omega
  go_enter Try.func217, Try.ntmps217
  go_wp2_with (first
    | (go_at_call 205; (with_reducible refine (hst.out _).mono ?_); rintro e w' ⟨rfl, rfl⟩)
    | (go_at_call 220; (with_reducible refine (hnm.out _).mono ?_); rintro e w' ⟨rfl, rfl⟩))
  go_ret
  exact ⟨rfl, rfl⟩
open Classical in
/-- The code of a portrait and a word of at most so many letters. -/
noncomputable def wcode (d n : Int) (g : List Int) (ws : ByteArray) (most : Int) : Int :=
  if pcode d n [g] = 0 then (if IsWd d ws then (if (ws.size : Int) ≤ most then 0 else 2) else 1) else pcode d n [g]
set_option maxHeartbeats 2000000 in
theorem l03Wordy_any (w : World) (d n : Int) (base : Nat) (v : Value) (g : List Int) (h : Own w base 2 v (ints g)) (hl : g.length < 2000000) (ws : ByteArray) (hws : ws.size < 1000000000000) (most : Int) :
    Calls Try.prog 138 #[.int .i64 d, .int .i64 n, v, .string ws, .int .i64 most] w fun e w' => e = .returned (.int .i64 (wcode d n g ws most)) ∧ Below w.heap.size w w' := by
  classical
  obtain ⟨A0, cp0, rfl, _, _⟩ := h.form
  rw [ints_length] at h ⊢
  have hS := (St.arg w h).newOwn [(Value.slice A0 g.length cp0)] 29 (by simp)
  simp only [List.length_cons, List.length_nil, Nat.zero_add] at hS
  replace hS := hid hS
  have hpc := hid (fun W b vv (hO : Own W b 29 vv [(Value.slice A0 g.length cp0)]) (hr : Own W b 2 (Value.slice A0 g.length cp0) (ints g)) => l03Code_any W d n b vv [g] (mat1 hO hr) (by simp) (by simp; omega))
  rcases pcode_cases d n g with hp | hp | ⟨hp, a, b, rfl, rfl, hd, hn1, hn4, hgp⟩
  · have hR := hid (show wcode d n g ws most = 1 by unfold wcode; rw [hp]; rfl)
    rw [hp] at hpc
    rw [hR.out]
    replace h := hid h
    clear hR hp
    go_enter Try.func138, Try.ntmps138
    go_wp2_with (first
      | (go_at_call 118; (with_reducible refine (hpc.out _ _ _ (hS.out.o0.mono (Nat.zero_le _)) hS.out.o1).mono ?_); rintro e w1 ⟨rfl, hb⟩; replace hS := hid (hS.out.call hb); clear hb))
    go_ret
    exact ⟨rfl, hS.out.bel⟩
  · have hR := hid (show wcode d n g ws most = 2 by unfold wcode; rw [hp]; rfl)
    rw [hp] at hpc
    rw [hR.out]
    replace h := hid h
    clear hR hp
    go_enter Try.func138, Try.ntmps138
    go_wp2_with (first
      | (go_at_call 118; (with_reducible refine (hpc.out _ _ _ (hS.out.o0.mono (Nat.zero_le _)) hS.out.o1).mono ?_); rintro e w1 ⟨rfl, hb⟩; replace hS := hid (hS.out.call hb); clear hb))
    go_ret
    exact ⟨rfl, hS.out.bel⟩
  · have hR : wcode a b g ws most = if IsWd a ws then (if (ws.size : Int) ≤ most then 0 else 2) else 1 := by unfold wcode; rw [hp]; rfl
    rw [hp] at hpc
    rw [hR]
    clear hR hp
    by_cases hw : IsWd a ws
    · rw [if_pos hw]
      have hle := hid (fun W => l01Letters_any (a : Int) (by omega) (by omega) ws hws true ⟨fun _ => hw.2, fun _ => rfl⟩ W)
      have d40 : decide ((40 : Int) < (ws.size : Int)) = false := decide_eq_false (by have := hw.1; omega)
      have hw40 := hw.1
      replace h := hid h; replace hw := hid hw; replace hgp := hid hgp
      by_cases hm : (ws.size : Int) ≤ most
      · rw [if_pos hm]
        have dm : decide (most < (ws.size : Int)) = false := decide_eq_false (by omega)
        go_enter Try.func138, Try.ntmps138
        go_wp2_with (first
          | (go_at_call 118; (with_reducible refine (hpc.out _ _ _ (hS.out.o0.mono (Nat.zero_le _)) hS.out.o1).mono ?_); rintro e w1 ⟨rfl, hb⟩; replace hS := hid (hS.out.call hb); clear hb)
          | (go_at_call 222; (with_reducible refine (hle.out _).mono ?_); rintro e w' ⟨rfl, rfl⟩))
        go_ret
        exact ⟨rfl, hS.out.bel⟩
      · rw [if_neg hm]
        have dm : decide (most < (ws.size : Int)) = true := decide_eq_true (by omega)
        go_enter Try.func138, Try.ntmps138
        go_wp2_with (first
          | (go_at_call 118; (with_reducible refine (hpc.out _ _ _ (hS.out.o0.mono (Nat.zero_le _)) hS.out.o1).mono ?_); rintro e w1 ⟨rfl, hb⟩; replace hS := hid (hS.out.call hb); clear hb)
          | (go_at_call 222; (with_reducible refine (hle.out _).mono ?_); rintro e w' ⟨rfl, rfl⟩))
        go_ret
        exact ⟨rfl, hS.out.bel⟩
    · rw [if_neg hw]
      by_cases h40 : ws.size ≤ 40
      · have d40 : decide ((40 : Int) < (ws.size : Int)) = false := decide_eq_false (by omega)
        have hle := hid (fun W => l01Letters_any (a : Int) (by omega) (by omega) ws hws false ⟨fun h => (by cases h), fun h => absurd ⟨h40, h⟩ hw⟩ W)
        replace h := hid h; replace hw := hid hw; replace hgp := hid hgp
        go_enter Try.func138, Try.ntmps138
        go_wp2_with (first
          | (go_at_call 118; (with_reducible refine (hpc.out _ _ _ (hS.out.o0.mono (Nat.zero_le _)) hS.out.o1).mono ?_); rintro e w1 ⟨rfl, hb⟩; replace hS := hid (hS.out.call hb); clear hb)
          | (go_at_call 222; (with_reducible refine (hle.out _).mono ?_); rintro e w' ⟨rfl, rfl⟩))
        go_ret
        exact ⟨rfl, hS.out.bel⟩
      · have d40 : decide ((40 : Int) < (ws.size : Int)) = true := decide_eq_true (by omega)
        replace h := hid h; replace hw := hid hw; replace hgp := hid hgp
        go_enter Try.func138, Try.ntmps138
        go_wp2_with (first
          | (go_at_call 118; (with_reducible refine (hpc.out _ _ _ (hS.out.o0.mono (Nat.zero_le _)) hS.out.o1).mono ?_); rintro e w1 ⟨rfl, hb⟩; replace hS := hid (hS.out.call hb); clear hb))
        go_ret
        exact ⟨rfl, hS.out.bel⟩
end Go.Proofs.Ytbmkkaecfogmoaa

/- The reference's permutations of letters. -/
namespace Go.Proofs.Ytbmkkaecfogmoaa
open Go.RowKit
set_option linter.unusedVariables false
set_option linter.unusedSimpArgs false
-- @LONG

/-- Where permutation k leads the letter x. -/
def pim (d k x : Nat) : Nat := (((prms d).getD k []).getD x 0).toNat
theorem pim_lt (d k x : Nat) (hd : d = 2 ∨ d = 3) (hk : k < cnt d) (hx : x < d) : pim d k x < d := by
  rcases hd with rfl | rfl
  · have : k = 0 ∨ k = 1 := by have : cnt 2 = 2 := rfl; omega
    have h2 : x = 0 ∨ x = 1 := by omega
    rcases this with rfl | rfl <;> rcases h2 with rfl | rfl <;> decide
  · have : k = 0 ∨ k = 1 ∨ k = 2 ∨ k = 3 ∨ k = 4 ∨ k = 5 := by have : cnt 3 = 6 := rfl; omega
    have h2 : x = 0 ∨ x = 1 ∨ x = 2 := by omega
    rcases this with rfl | rfl | rfl | rfl | rfl | rfl <;> rcases h2 with rfl | rfl | rfl <;> decide
/-- Three bytes in a block of their own. -/
theorem row_new3 (w : World) (f : Nat → Nat) (a b c : Int) (ha : a = (f 0 : Nat)) (hb : b = (f 1 : Nat)) (hc : c = (f 2 : Nat)) :
    (w.alloc (.cells #[.int .u8 a, .int .u8 b, .int .u8 c] 24)).rowIs w.heap.size 24 3 (byt f) := by
  subst ha; subst hb; subst hc
  exact rowIs_new w 3 24 (byt f)
set_option maxHeartbeats 1000000 in
set_option maxRecDepth 100000 in
theorem l03Images_20 (w : World) :
    Calls Try.prog 140 #[.int .i64 2, .int .i64 0] w fun e w' => e = .returned (.agg (rowL 3 (byt (pim 2 0))).toArray) ∧ Below w.heap.size w w' := by
  go_enter Try.func140, Try.ntmps140
  go_wp2
  exact ret_row (ty := 24) (p := 4) rfl (g := w.heap.size) (t := 24) (n := 3) rfl (row_new3 w (pim 2 0) _ _ _ (by decide) (by decide) (by decide)) Try.underlying24 rfl sz_b3 rfl ⟨rfl, below_alloc (Below.refl _ _) (Nat.le_refl _) _⟩
set_option maxHeartbeats 1000000 in
set_option maxRecDepth 100000 in
theorem l03Images_21 (w : World) :
    Calls Try.prog 140 #[.int .i64 2, .int .i64 1] w fun e w' => e = .returned (.agg (rowL 3 (byt (pim 2 1))).toArray) ∧ Below w.heap.size w w' := by
  go_enter Try.func140, Try.ntmps140
  go_wp2
  exact ret_row (ty := 24) (p := 4) rfl (g := w.heap.size) (t := 24) (n := 3) rfl (row_new3 w (pim 2 1) _ _ _ (by decide) (by decide) (by decide)) Try.underlying24 rfl sz_b3 rfl ⟨rfl, below_alloc (Below.refl _ _) (Nat.le_refl _) _⟩
theorem row_is3 {W : World} {b t : Nat} {f : Nat → Nat} (h : W.heap[b]? = some (.cells (rowL 3 (byt f)).toArray t (0, 0))) : W.rowIs b t 3 (byt f) :=
  ⟨_, h, rfl, fun i hi => by have := rowL_get 3 (byt f) i hi; simpa using this⟩
theorem sz_63 : (Try.prog.info? 217).map (·.size) = some 18 := by kernel_rfl
theorem zero_63 (w : World) : (zeroValue 217).run Try.prog w = .ok (.agg (rowL 18 (byt fun _ => 0)).toArray) w := by kernel_rfl
def all6 : Array Value := #[.int .u8 0, .int .u8 1, .int .u8 2, .int .u8 0, .int .u8 2, .int .u8 1, .int .u8 1, .int .u8 0, .int .u8 2, .int .u8 1, .int .u8 2, .int .u8 0, .int .u8 2, .int .u8 0, .int .u8 1, .int .u8 2, .int .u8 1, .int .u8 0]
theorem all6_get (k : Nat) (hk : k < 6) (j : Nat) (v : Value) (hv : (rowL 3 (byt (pim 3 k)))[j]? = some v) : all6[k * 3 + j]? = some v := by
  have hj : j < 3 := by have := (List.getElem?_eq_some_iff.1 hv).1; rwa [rowL_length] at this
  rw [rowL_get 3 _ j hj] at hv
  rw [← hv]
  have : k = 0 ∨ k = 1 ∨ k = 2 ∨ k = 3 ∨ k = 4 ∨ k = 5 := by omega
  have h2 : j = 0 ∨ j = 1 ∨ j = 2 := by omega
  rcases this with rfl | rfl | rfl | rfl | rfl | rfl <;> rcases h2 with rfl | rfl | rfl <;> rfl
theorem built6 : Try.prog.built 217 [(0, Value.agg #[.int .u8 0, .int .u8 1, .int .u8 2]), (1, Value.agg #[.int .u8 0, .int .u8 2, .int .u8 1]), (2, Value.agg #[.int .u8 1, .int .u8 0, .int .u8 2]), (3, Value.agg #[.int .u8 1, .int .u8 2, .int .u8 0]), (4, Value.agg #[.int .u8 2, .int .u8 0, .int .u8 1]), (5, Value.agg #[.int .u8 2, .int .u8 1, .int .u8 0])] = some all6 := by kernel_rfl
theorem build_all6 {ops : Array Oper} {rest : List Oper} {o : Oper} {a : Act} {w : World} {Q : Exit → Act → World → Prop} (hgd : o.guard = none) (ho : o.op = .build 217 #[(0, Operand.tmp 12), (1, Operand.tmp 13), (2, Operand.tmp 14), (3, Operand.tmp 15), (4, Operand.tmp 16), (5, Operand.tmp 17)])
    (e0 : a.eval (.tmp 12) = .agg #[.int .u8 0, .int .u8 1, .int .u8 2]) (e1 : a.eval (.tmp 13) = .agg #[.int .u8 0, .int .u8 2, .int .u8 1]) (e2 : a.eval (.tmp 14) = .agg #[.int .u8 1, .int .u8 0, .int .u8 2]) (e3 : a.eval (.tmp 15) = .agg #[.int .u8 1, .int .u8 2, .int .u8 0]) (e4 : a.eval (.tmp 16) = .agg #[.int .u8 2, .int .u8 0, .int .u8 1]) (e5 : a.eval (.tmp 17) = .agg #[.int .u8 2, .int .u8 1, .int .u8 0])
    (h : wpList Try.prog ops Q rest (a.put o.dst (.agg all6)) w) : wpList Try.prog ops Q (o :: rest) a w := by
  have h0 : ((#[(0, Operand.tmp 12), (1, Operand.tmp 13), (2, Operand.tmp 14), (3, Operand.tmp 15), (4, Operand.tmp 16), (5, Operand.tmp 17)] : Array (Nat × Operand)).map fun (i, x) => (i, a.eval x)).toList = [(0, Value.agg #[.int .u8 0, .int .u8 1, .int .u8 2]), (1, Value.agg #[.int .u8 0, .int .u8 2, .int .u8 1]), (2, Value.agg #[.int .u8 1, .int .u8 0, .int .u8 2]), (3, Value.agg #[.int .u8 1, .int .u8 2, .int .u8 0]), (4, Value.agg #[.int .u8 2, .int .u8 0, .int .u8 1]), (5, Value.agg #[.int .u8 2, .int .u8 1, .int .u8 0])] := by
    simp only [List.map_toArray, List.map_cons, List.map_nil, e0, e1, e2, e3, e4, e5]
  have e : Try.prog.built 217 ((#[(0, Operand.tmp 12), (1, Operand.tmp 13), (2, Operand.tmp 14), (3, Operand.tmp 15), (4, Operand.tmp 16), (5, Operand.tmp 17)] : Array (Nat × Operand)).map fun (i, x) => (i, a.eval x)).toList = some all6 := by
    rw [h0]; exact built6
  refine wpList_build hgd 217 _ ho (by rw [e]; rfl) ?_
  rw [e]
  exact h
set_option maxHeartbeats 2000000 in
set_option maxRecDepth 100000 in
theorem l03Images_3 (k : Nat) (hk : k < 6) (w : World) :
    Calls Try.prog 140 #[.int .i64 3, .int .i64 k] w fun e w' => e = .returned (.agg (rowL 3 (byt (pim 3 k))).toArray) ∧ Below w.heap.size w w' := by
  have hS := ((St.start w).newBlk #[.int .u8 0, .int .u8 0, .int .u8 0] 24).newBlk (rowL 18 (byt fun _ => 0)).toArray 217
  rw [heap_alloc_size] at hS
  replace hS := hid hS
  have hz := zero_63
  have hbig : all6.all (·.oneCell') = true := by simp [all6, Value.oneCell']
  have hss := hid sz_63
  have hzs := hid (show (rowL 18 (byt fun _ => 0)).toArray.size = 18 from rfl)
  have h6s := hid (show all6.size = 18 from rfl)
  have hget := hid (all6_get k hk)
  have hl := hid (rowL_length 3 (byt (pim 3 k)))
  have k0 : (0 : Int) ≤ (k : Int) := Int.natCast_nonneg _
  have k1 : (k : Int) < 6 := by omega
  replace hbig := hid hbig
  generalize (rowL 18 (byt fun _ => 0)).toArray = zs at *
  go_enter Try.func140, Try.ntmps140
  go_upto_region 6 with (first
    | ((with_reducible refine gate (N := 18) rfl ?_); refine build_all6 rfl rfl rfl rfl rfl rfl rfl rfl ?_)
    | ((with_reducible refine gateOp (op := .store 217 (.tmp 5) (.tmp 18)) rfl ?_); refine wpList_store_row rfl _ _ _ rfl (w.heap.size + 1) _ rfl rfl _ _ hS.out.k0 (by rw [h6s.out]; exact hss.out) (by rw [hzs.out, h6s.out]) hbig.out ?_))
  replace hS := hid (hS.out.setRow (Nat.le_succ _) all6)
  generalize World.setRow _ _ all6 = w2 at *
  have hrg := hid (show w2.rangeAt (w.heap.size + 1) (k * 3) (rowL 3 (byt (pim 3 k))) from fun j v hv => (cell_of_row _ _ (k * 3 + j) _ _ _ hS.out.k0).trans (hget.out j v hv))
  have h1c := hid (show ((rowL 3 (byt (pim 3 k))).toArray.all (·.oneCell') = true) from one_byt 3 (pim 3 k))
  have hls := hid (show (rowL 3 (byt (pim 3 k))).toArray.size = 3 from rfl)
  have hrr := hid (fun (W : World) (b : Nat) (h : W.heap[b]? = some (.cells (rowL 3 (byt (pim 3 k))).toArray 24 (0, 0))) => (show W.rowIs b 24 3 (byt (pim 3 k)) from row_is3 h))
  have hRR := hid (show rowL 3 (byt (pim 3 k)) = rowL 3 (byt (pim 3 k)) from rfl)
  generalize hR : rowL 3 (byt (pim 3 k)) = R at *
  replace hR := hid hR
  clear hRR
  have hRR := hid hR.out
  go_wp2_with (first
    | ((with_reducible refine gate (N := 21) rfl ?_); refine wpList_load_mid rfl 24 _ rfl (w.heap.size + 1) (k * 3) rfl _ _ hrg.out Try.underlying24 rfl (by rw [hl.out]; exact sz_b3) ?_)
    | ((with_reducible refine gateOp (op := .store 24 (.tmp 4) (.tmp 21)) rfl ?_); refine wpList_store_row rfl _ _ _ rfl w.heap.size _ rfl rfl _ _ hS.out.k1 (by rw [hls.out]; exact sz_b3) (by rw [hls.out]; rfl) h1c.out ?_; replace hS := hid (hS.out.f1.setRow (Nat.le_refl _) R.toArray)))
  exact ret_row (ty := 24) (p := 4) rfl (g := w.heap.size) (t := 24) (n := 3) rfl (hrr.out _ _ hS.out.k0) Try.underlying24 rfl sz_b3 rfl ⟨by rw [hRR.out], hS.out.bel⟩
theorem l03Images_any (d k : Nat) (hd : d = 2 ∨ d = 3) (hk : k < cnt d) (w : World) :
    Calls Try.prog 140 #[.int .i64 d, .int .i64 k] w fun e w' => e = .returned (.agg (rowL 3 (byt (pim d k))).toArray) ∧ Below w.heap.size w w' := by
  rcases hd with rfl | rfl
  · have : k = 0 ∨ k = 1 := by have : cnt 2 = 2 := rfl; omega
    rcases this with rfl | rfl
    · exact l03Images_20 w
    · exact l03Images_21 w
  · exact l03Images_3 k (by have : cnt 3 = 6 := rfl; omega) w
end Go.Proofs.Ytbmkkaecfogmoaa
