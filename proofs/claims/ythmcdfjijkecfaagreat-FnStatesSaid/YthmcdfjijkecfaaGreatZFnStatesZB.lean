/- What the proof of FnStates leans on, part 28 of 29. -/
import Derived.Test.YthmcdfjijkecfaaGreatZFnStatesZA
/- Signs of portraits. -/
namespace Go.Proofs.YthmcdfjijkecfaaGreat
open Go.RowKit
set_option linter.unusedVariables false
set_option linter.unusedSimpArgs false
-- @LONG

/-- Is a permutation odd, by its number? -/
def od (d k : Nat) : Nat := if d = 2 then k else [0, 1, 1, 0, 0, 1].getD k 0
/-- Exchanges, as they are counted. -/
def odJ (row : List Int) (i : Nat) (s : Bool) : Nat → Bool
  | 0 => s
  | j + 1 => odJ row i s j != decide (row.getD i 0 < row.getD j 0)
def odI (row : List Int) : Nat → Bool
  | 0 => false
  | i + 1 => odJ row i (odI row i) i
theorem odI_row (d k : Nat) (hd : d = 2 ∨ d = 3) (hk : k < cnt d) : ∃ row, (prms d)[k]? = some row ∧ row.length = d ∧ odI row d = decide (od d k = 1) ∧ od d k ≤ 1 := by
  rcases hd with rfl | rfl
  · have h1 : k = 0 ∨ k = 1 := by have : cnt 2 = 2 := rfl; omega
    rcases h1 with rfl | rfl
    · exact ⟨[0, 1], rfl, rfl, by decide, by decide⟩
    · exact ⟨[1, 0], rfl, rfl, by decide, by decide⟩
  · have h1 : k = 0 ∨ k = 1 ∨ k = 2 ∨ k = 3 ∨ k = 4 ∨ k = 5 := by have : cnt 3 = 6 := rfl; omega
    rcases h1 with rfl | rfl | rfl | rfl | rfl | rfl
    · exact ⟨[0, 1, 2], rfl, rfl, by decide, by decide⟩
    · exact ⟨[0, 2, 1], rfl, rfl, by decide, by decide⟩
    · exact ⟨[1, 0, 2], rfl, rfl, by decide, by decide⟩
    · exact ⟨[1, 2, 0], rfl, rfl, by decide, by decide⟩
    · exact ⟨[2, 0, 1], rfl, rfl, by decide, by decide⟩
    · exact ⟨[2, 1, 0], rfl, rfl, by decide, by decide⟩
/-- How many of the first j permutations from a place on are odd. -/
def odS (d : Nat) (g : List Int) (a : Nat) : Nat → Nat
  | 0 => 0
  | j + 1 => odS d g a j + od d (g.getD (a + j) 0).toNat
/-- The signs of the levels. -/
def sgL (d : Nat) (g : List Int) (n : Nat) : List Int := (List.range n).map fun k => ((odS d g (start d k) (pw d k) % 2 : Nat) : Int)
theorem sgL_length (d : Nat) (g : List Int) (n : Nat) : (sgL d g n).length = n := by simp [sgL]
theorem sgL_snoc (d : Nat) (g : List Int) (n : Nat) : sgL d g (n + 1) = sgL d g n ++ [((odS d g (start d n) (pw d n) % 2 : Nat) : Int)] := by simp [sgL, List.range_succ]
open Classical in
/-- What SignsOf answers. -/
noncomputable def sgnAns (d n : Int) (g : List Int) : List Int × Int := if pcode d n [g] = 0 then (sgL d.toNat g n.toNat, 0) else ([], pcode d n [g])
set_option maxHeartbeats 2000000 in
set_option maxRecDepth 100000 in
theorem isOdd_any (w : World) (b0 : Nat) (v : Value) (row : List Int) (h : Own w b0 2 v (ints row)) (hl : row.length ≤ 3) (h0 : 0 < row.length) :
    Calls Tryz.prog 149 #[v] w fun e w' => e = .returned (.bool (odI row row.length)) ∧ w = w' := by
  have hil := ints_length row
  obtain ⟨ga, ca, rfl, _, _⟩ := h.blk (fun e => by rw [e] at hil; simp at hil; omega)
  have hca : row.length ≤ ca := by
    obtain ⟨A, c, e, hc, _⟩ := h.form
    injection e with e1 e2 e3
    omega
  rw [hil] at h ⊢
  have hcell := hid (fun j (hj : j < row.length) => (show w.cell? ⟨ga, j, none⟩ = some (.int .i64 (row.getD j 0)) from h.cellAt j _ (by rw [ints, List.getElem?_map, List.getD_eq_getElem?_getD, List.getElem?_eq_getElem hj]; rfl)))
  have hs := hid (fun i => (show odI row (i + 1) = odJ row i (odI row i) i from rfl))
  have hj := hid (fun i s j => (show odJ row i s (j + 1) = (odJ row i s j != decide (row.getD i 0 < row.getD j 0)) from rfl))
  have hj0 := hid (fun i s => (show odJ row i s 0 = s from rfl))
  have hi0 := hid (show odI row 0 = false from rfl)
  obtain ⟨X, hX⟩ : ∃ X : Nat → Int, X = fun j => row.getD j 0 := ⟨_, rfl⟩
  have hXe := hid (fun j => (show row.getD j 0 = X j by rw [hX]))
  simp only [hXe.out] at hcell hj
  clear h hil hX hXe
  generalize row.length = n at *
  go_enter Tryz.func149, Tryz.ntmps149
  go_wp2
  go_loopw [3, 10] (fun o i wr => ∃ k : Nat, k ≤ n ∧ i = .int .i64 k ∧ o = .bool (odI row k) ∧ wr = w) (fun _ i _ => n - (intOf i).toNat)
  case atStart => exact ⟨0, Nat.zero_le _, rfl, by rw [hi0.out], rfl⟩
  case round =>
    obtain ⟨k, hk, rfl, rfl, rfl⟩ := hrel
    by_cases hkn : k < n
    · have dk : decide ((k : Int) < (n : Int)) = true := decide_eq_true (by omega)
      have k0 : (0 : Int) ≤ (k : Int) := Int.natCast_nonneg _
      have k1 : (k : Int) < (n : Int) := by omega
      have k2 : (k : Int) ≤ (ca : Int) := by omega
      have ck := hcell.out k hkn
      have hsk := hid (hs.out k)
      have hjk := hid (hj.out k (odI row k))
      have hj0k := hid (hj0.out k (odI row k))
      generalize odI row k = s at *
      go_wp2
      go_loopw [3, 19] (fun o i wi => ∃ j : Nat, j ≤ k ∧ i = .int .i64 j ∧ o = .bool (odJ row k s j) ∧ wi = wr) (fun _ i _ => k - (intOf i).toNat)
      case atStart => exact ⟨0, Nat.zero_le _, rfl, by rw [hj0k.out], rfl⟩
      case round =>
        obtain ⟨j, hjk', rfl, rfl, rfl⟩ := hrel
        by_cases hlt : j < k
        · have dj : decide ((j : Int) < (k : Int)) = true := decide_eq_true (by omega)
          have j0 : (0 : Int) ≤ (j : Int) := Int.natCast_nonneg _
          have j1 : (j : Int) < (k : Int) := by omega
          have cj := hcell.out j (by omega)
          have hstep := hid (hjk.out j)
          generalize odJ row k s j = t at *
          generalize X j = x at *
          generalize X k = y at *
          go_wp2
          go_roundw
          case rel => exact ⟨j + 1, by omega, by go_num, by rw [hstep.out]; rfl, by first | rfl | trivial⟩
          case measure => simp [intOf]; omega
        · obtain rfl : j = k := by omega
          have dj : decide ((j : Int) < (j : Int)) = false := decide_eq_false (by omega)
          go_wp2
          go_roundw
          case rel => exact ⟨j + 1, by omega, by go_num, by rw [hsk.out], by first | rfl | trivial⟩
          case measure => simp [intOf]; omega
    · obtain rfl : k = n := by omega
      have dk : decide ((k : Int) < (k : Int)) = false := decide_eq_false (by omega)
      go_wp2
      go_ret
      exact ⟨rfl, rfl⟩
set_option maxHeartbeats 4000000 in
set_option maxRecDepth 100000 in
theorem implSgn_any (w : World) (d n : Int) (b0 : Nat) (v : Value) (g : List Int) (hg : Own w b0 2 v (ints g)) (hl : g.length < 2000000) :
    Calls Tryz.prog 52 #[.int .i64 d, .int .i64 n, v] w fun e w' => ∃ v', e = .returned (.tuple #[v', .int .i64 (sgnAns d n g).2]) ∧ Own w' w.heap.size 2 v' (ints (sgnAns d n g).1) ∧ Below w.heap.size w w' := by
  classical
  obtain ⟨A0, cp0, rfl, hcp, hA0⟩ := hg.form
  have hga := hid (fun (h : g ≠ []) => (show ∃ ga, A0 = some ⟨ga, 0, none⟩ from by
    rcases hA0 with ⟨_, h1, _⟩ | ⟨ga, h1, _⟩
    · exact absurd (by cases g with | nil => rfl | cons a t => simp [ints] at h1) h
    · exact ⟨ga, h1⟩))
  rw [ints_length] at hg hcp ⊢
  have hS := (St.arg w hg).newOwn [(Value.slice A0 g.length cp0)] 32 (by simp)
  simp only [List.length_cons, List.length_nil, Nat.zero_add] at hS
  replace hS := hid hS
  clear hA0
  have hpc := hid (fun W b vv (hO : Own W b 32 vv [(Value.slice A0 g.length cp0)]) (hr : Own W b 2 (Value.slice A0 g.length cp0) (ints g)) => portraitCode_any W d n b vv [g] (mat1 hO hr) (by simp) (by simp; omega))
  rcases pcode_cases d n g with hp | hp | ⟨hp, d, n, rfl, rfl, hd, hn1, hn4, hgp⟩
  · have hA : sgnAns d n g = ([], 1) := by unfold sgnAns; rw [hp, if_neg (by decide)]
    rw [hA]
    rw [hp] at hpc
    replace hg := hid hg; clear hp hA
    go_enter Tryz.func52, Tryz.ntmps52
    go_wp2_with (first
      | (go_at_call 92; (with_reducible refine (hpc.out _ _ _ (hS.out.o0.mono (Nat.zero_le _)) hS.out.o1).mono ?_); rintro e w1 ⟨rfl, hb⟩; replace hS := hid (hS.out.call hb).drop; clear hb))
    go_ret2
    exact ⟨_, rfl, Own.nil _ _ _, hS.out.bel⟩
  · have hA : sgnAns d n g = ([], 2) := by unfold sgnAns; rw [hp, if_neg (by decide)]
    rw [hA]
    rw [hp] at hpc
    replace hg := hid hg; clear hp hA
    go_enter Tryz.func52, Tryz.ntmps52
    go_wp2_with (first
      | (go_at_call 92; (with_reducible refine (hpc.out _ _ _ (hS.out.o0.mono (Nat.zero_le _)) hS.out.o1).mono ?_); rintro e w1 ⟨rfl, hb⟩; replace hS := hid (hS.out.call hb).drop; clear hb))
    go_ret2
    exact ⟨_, rfl, Own.nil _ _ _, hS.out.bel⟩
  · have hA : sgnAns d n g = (sgL d g n, 0) := by unfold sgnAns; rw [if_pos hp]; rfl
    rw [hA]
    rw [hp] at hpc
    have hgl : g.length = start d n := hgp.1
    have hsl := (start_le hd hn4).1
    have hs1 : 1 ≤ start d n := by
      obtain ⟨j, hj⟩ : ∃ j, n = 1 + j := ⟨n - 1, by omega⟩
      rw [hj]
      have := start_mono d 1 j
      have h1 : start d 1 = 1 := rfl
      omega
    obtain ⟨ga, rfl⟩ := hga.out (by intro e; rw [e] at hgl; simp at hgl; omega)
    have hsz := hid (fun k (hk : k ≤ 5) W => size_any d k hd hk W)
    have hss := hid (fun k => (show start d (k + 1) = start d k + pw d k from rfl))
    have hsm := hid (fun k (hk : k < n) => (show start d k + pw d k ≤ start d n from by
      obtain ⟨j, hj⟩ : ∃ j, n = (k + 1) + j := ⟨n - (k + 1), by omega⟩
      rw [hj]; exact start_mono d (k + 1) j))
    have hgc := hid (fun i (hi : i < start d n) => (show (ints g)[i]? = some (.int .i64 ((g.getD i 0).toNat : Nat)) ∧ (g.getD i 0).toNat < cnt d from by
      have hi' : i < g.length := by omega
      have h1 := hgp.2 g[i] (List.getElem_mem hi')
      have e : g.getD i 0 = g[i] := by rw [List.getD_eq_getElem?_getD, List.getElem?_eq_getElem hi']; rfl
      rw [e]
      refine ⟨?_, by omega⟩
      rw [ints, List.getElem?_map, List.getElem?_eq_getElem hi']
      show some (Value.int .i64 g[i]) = _
      rw [show (((g[i]).toNat : Nat) : Int) = g[i] by omega]))
    have hlen := hid (fun k => sgL_length d g k)
    have hsn := hid (fun k => sgL_snoc d g k)
    have ho := hid (fun a j => (show odS d g a (j + 1) = odS d g a j + od d (g.getD (a + j) 0).toNat from rfl))
    have ho0 := hid (fun a => (show odS d g a 0 = 0 from rfl))
    have hol := hid (fun k (hk : k < cnt d) => (odI_row d k hd hk))
    rw [hgl] at hS hpc hcp ⊢
    replace hg := hid hg; replace hgp := hid hgp; clear hp hA hl hgl
    have hpm := hid (fun W => permutations_any d hd W)
    have hod := hid (fun W b0 v row h hl h0 => isOdd_any W b0 v row h hl h0)
    go_enter Tryz.func52, Tryz.ntmps52
    go_upto_region 5 with (
      (go_at_call 92; (with_reducible refine (hpc.out _ _ _ (hS.out.o0.mono (Nat.zero_le _)) hS.out.o1).mono ?_); rintro e w1 ⟨rfl, hb⟩; replace hS := hid (hS.out.call hb).drop; clear hb))
    replace hS := hid (hS.out.nilOwn 2)
    go_wp2
    go_loopw [9, 23] (fun o i wr => ∃ k : Nat, k ≤ n ∧ i = .int .i64 k ∧ St w.heap.size w [Asn.own w.heap.size 2 o (ints (sgL d g k)), Asn.own 0 2 (.slice (some ⟨ga, 0, none⟩) (start d n) cp0) (ints g)] wr) (fun _ i _ => n - (intOf i).toNat)
    case atStart => exact ⟨0, Nat.zero_le _, rfl, hS.out⟩
    case round =>
      obtain ⟨k, hk, rfl, rS⟩ := hrel
      clear hS
      by_cases hkn : k < n
      · have dk : decide ((k : Int) < (n : Int)) = true := decide_eq_true (by omega)
        have hz1 := hid (hsz.out k (by omega))
        have hz2 := hid (fun W => (by have h := hsz.out (k + 1) (by omega) W; exact h : Calls Tryz.prog 148 #[.int .i64 d, .int .i64 ((k : Int) + 1)] W fun e w' => e = .returned (.int .i64 (start d (k + 1) : Nat)) ∧ W = w'))
        have ek : IntKind.i64.wrap ((k : Int) + 1) = ((k + 1 : Nat) : Int) := by rw [show (k : Int) + 1 = ((k + 1 : Nat) : Int) by omega]; exact IntWalk.i64_in _ (by omega)
        have hb1 := hsm.out k hkn
        have hb2 := hss.out k
        have hx := hid (fun j (hj : j < pw d k) => hgc.out (start d k + j) (by omega))
        have hoj := hid (fun j => ho.out (start d k) j)
        have ho0k := hid (ho0.out (start d k))
        have hsnk := hid (hsn.out k)
        have hlk := hid (show (ints (sgL d g k)).length = k by rw [ints_length, hlen.out])
        obtain ⟨X, hX⟩ : ∃ X : Nat → Nat, X = fun j => (g.getD (start d k + j) 0).toNat := ⟨_, rfl⟩
        have hXe := hid (fun j => (show (g.getD (start d k + j) 0).toNat = X j by rw [hX]))
        obtain ⟨Y, hY⟩ : ∃ Y : Nat → Nat, Y = fun j => odS d g (start d k) j := ⟨_, rfl⟩
        have hYe := hid (fun j => (show odS d g (start d k) j = Y j by rw [hY]))
        simp only [hXe.out, hYe.out] at hx hoj ho0k hsnk
        obtain ⟨Z, hZ⟩ : ∃ Z : Nat → Nat, Z = fun j => Y j % 2 := ⟨_, rfl⟩
        have hZe := hid (fun j => (show Y j % 2 = Z j by rw [hZ]))
        have hZ0 := hid (show Z 0 = 0 by rw [hZ]; show Y 0 % 2 = 0; rw [ho0k.out])
        have hZ1 := hid (fun j (h : od d (X j) = 1) => (show Z (j + 1) = 1 - Z j ∧ Z j ≤ 1 by rw [hZ]; dsimp only; rw [hoj.out, h]; omega))
        have hZ2 := hid (fun j (h : od d (X j) = 0) => (show Z (j + 1) = Z j by rw [hZ]; dsimp only; rw [hoj.out, h]; rfl))
        rw [hZe.out] at hsnk
        clear hX hXe hY hYe hZ hZe hoj ho0k
        have hpp := pw_pos d (by omega) k
        have hpw : pw d k = start d (k + 1) - start d k := by omega
        rw [hpw] at hx hsnk hb1 hpp
        clear hpw hb2
        generalize start d k = a at *
        generalize start d (k + 1) = b at *
        have hna : ¬ cp0 = a := by omega
        have a0 : (0 : Int) ≤ (a : Int) := Int.natCast_nonneg _
        have a1 : (a : Int) ≤ (b : Int) := by omega
        have a2 : (b : Int) ≤ (cp0 : Int) := by omega
        replace rS := hid rS
        go_upto_region 10 with (first
          | (go_at_call 148; (with_reducible refine (hz1.out _).mono ?_); rintro e w' ⟨rfl, rfl⟩)
          | (go_at_call 148; (with_reducible refine (hz2.out _).mono ?_); rintro e w' ⟨rfl, rfl⟩))
        go_loopw [11, 36] (fun s i wi => ∃ j : Nat, j ≤ b - a ∧ i = .int .i64 j ∧ s = .int .i64 (Z j : Nat) ∧ St w.heap.size w [Asn.own w.heap.size 2 u9 (ints (sgL d g k)), Asn.own 0 2 (.slice (some ⟨ga, 0, none⟩) (start d n) cp0) (ints g)] wi) (fun _ i _ => b - a - (intOf i).toNat)
        case atStart => exact ⟨0, Nat.zero_le _, rfl, by rw [hZ0.out]; rfl, rS.out⟩
        case round =>
          obtain ⟨j, hj, rfl, rfl, tS⟩ := hrel
          clear rS
          by_cases hjp : j < b - a
          · have dj : decide ((j : Int) < ((b - a : Nat) : Int)) = true := decide_eq_true (by omega)
            have j0 : (0 : Int) ≤ (j : Int) := Int.natCast_nonneg _
            have j1 : (j : Int) < ((b - a : Nat) : Int) := by omega
            obtain ⟨hx1, hx2⟩ := hx.out j hjp
            have hz1 := hid (hZ1.out j)
            have hz2 := hid (hZ2.out j)
            have cj := tS.o1.cellAt (a + j) _ hx1
            generalize X j = x at *
            obtain ⟨row, hrow, hrl, hri, hro⟩ := hol.out x hx2
            have x0 : (0 : Int) ≤ (x : Int) := Int.natCast_nonneg _
            have x1 : (x : Int) < (cnt d : Int) := by omega
            have hodx := hid (fun W b0 v (h : Own W b0 2 v (ints row)) => (by have h2 := hod.out W b0 v row h (by omega) (by omega); rw [hrl, hri] at h2; exact h2 : Calls Tryz.prog 149 #[v] W fun e w' => e = .returned (.bool (decide (od d x = 1))) ∧ W = w'))
            have hpl := prms_length d
            have hpn : prms d ≠ [] := fun e => by rw [e] at hrow; simp at hrow
            replace tS := hid tS
            clear hx1 hri hrl
            by_cases h1 : od d x = 1
            · have d1 : decide (od d x = 1) = true := decide_eq_true h1
              rw [d1] at hodx
              obtain ⟨hst, hle⟩ := hz1.out h1
              have ey : IntKind.i64.wrap (1 - (Z j : Int)) = ((Z (j + 1) : Nat) : Int) := by
                rw [hst, show 1 - (Z j : Int) = ((1 - Z j : Nat) : Int) by omega]; exact IntWalk.i64_in _ (by omega)
              clear hst
              go_wp2_with (first
                | (go_at_call 150; (with_reducible refine (hpm.out _).mono ?_); rintro e w5 ⟨vp, rfl, hM, hb⟩; obtain ⟨gp, cpp, rfl, _, _⟩ := hM.blk hpn; rw [hpl] at hM; rw [hpl]; obtain ⟨rr, hr1, hr2⟩ := hM.row x row hrow; replace tS := hid (tS.out.call hb); clear hb hM cj)
                | (go_at_call 149; (with_reducible refine (hodx.out _ _ _ hr2).mono ?_); rintro e w' ⟨rfl, rfl⟩))
              go_roundw
              case rel => exact ⟨j + 1, by omega, by go_num, rfl, tS.out⟩
              case measure => simp [intOf]; omega
            · have d1 : decide (od d x = 1) = false := decide_eq_false h1
              have h00 : od d x = 0 := by omega
              rw [d1] at hodx
              have hst := hid (hz2.out h00)
              go_wp2_with (first
                | (go_at_call 150; (with_reducible refine (hpm.out _).mono ?_); rintro e w5 ⟨vp, rfl, hM, hb⟩; obtain ⟨gp, cpp, rfl, _, _⟩ := hM.blk hpn; rw [hpl] at hM; rw [hpl]; obtain ⟨rr, hr1, hr2⟩ := hM.row x row hrow; replace tS := hid (tS.out.call hb); clear hb hM cj)
                | (go_at_call 149; (with_reducible refine (hodx.out _ _ _ hr2).mono ?_); rintro e w' ⟨rfl, rfl⟩))
              go_roundw
              case rel => exact ⟨j + 1, by omega, by go_num, by rw [hst.out], tS.out⟩
              case measure => simp [intOf]; omega
          · have hjb : j = b - a := by omega
            have dj : decide ((j : Int) < ((b - a : Nat) : Int)) = false := decide_eq_false (by omega)
            replace tS := hid tS
            go_wp2_with (
              ((with_reducible refine gate (N := 52) rfl ?_); refine St.app 32 2 (.int .i64 0) 8 Tryz.underlying32 info_i64 rfl (by omega) rfl _ _ rfl _ _ rfl tS.out _ rfl rfl k hlk.out (by omega) ?_; intro gn cn w6 tS'; replace tS := hid tS'; clear tS'))
            rw [← ints_snoc, ← hsnk.out] at tS
            go_roundw
            case rel => exact ⟨k + 1, by omega, by go_num, tS.out⟩
            case measure => simp [intOf]; omega
      · obtain rfl : k = n := by omega
        have dk : decide ((k : Int) < (k : Int)) = false := decide_eq_false (by omega)
        replace rS := hid rS
        go_wp2
        go_ret2
        exact ⟨_, rfl, rS.out.o0, rS.out.bel⟩
set_option maxHeartbeats 2000000 in
set_option maxRecDepth 100000 in
theorem l03Odd_2 (k : Nat) (w : World) : Calls Tryz.prog 154 #[.int .i64 2, .int .i64 k] w fun e w' => e = .returned (.int .i64 (od 2 k : Nat)) ∧ Below w.heap.size w w' := by
  go_enter Tryz.func154, Tryz.ntmps154
  go_wp2
  go_ret
  exact ⟨rfl, Below.refl _ _⟩
def odds : Array Value := #[.int .i64 0, .int .i64 1, .int .i64 1, .int .i64 0, .int .i64 0, .int .i64 1]
theorem sz_o6 : (Tryz.prog.info? 218).map (·.size) = some 6 := by kernel_rfl
theorem zero_o6 (w : World) : (zeroValue 218).run Tryz.prog w = .ok (.agg #[.int .i64 0, .int .i64 0, .int .i64 0, .int .i64 0, .int .i64 0, .int .i64 0]) w := by kernel_rfl
set_option maxHeartbeats 2000000 in
set_option maxRecDepth 100000 in
theorem l03Odd_3 (k : Nat) (hk : k < 6) (w : World) : Calls Tryz.prog 154 #[.int .i64 3, .int .i64 k] w fun e w' => e = .returned (.int .i64 (od 3 k : Nat)) ∧ Below w.heap.size w w' := by
  have hz := zero_o6
  have k0 : (0 : Int) ≤ (k : Int) := Int.natCast_nonneg _
  have k1 : (k : Int) < 6 := by omega
  have hS := hid ((St.start w).newBlk #[.int .i64 0, .int .i64 1, .int .i64 1, .int .i64 0, .int .i64 0, .int .i64 1] 218)
  have hg : (#[.int .i64 0, .int .i64 1, .int .i64 1, .int .i64 0, .int .i64 0, .int .i64 1] : Array Value)[k]? = some (.int .i64 (od 3 k : Nat)) := by
    have : k = 0 ∨ k = 1 ∨ k = 2 ∨ k = 3 ∨ k = 4 ∨ k = 5 := by omega
    rcases this with rfl | rfl | rfl | rfl | rfl | rfl <;> rfl
  have ck := (cell_of_row _ _ k _ _ _ hS.out.k0).trans hg
  clear hg
  go_enter Tryz.func154, Tryz.ntmps154
  go_wp2
  go_ret
  exact ⟨rfl, hS.out.bel⟩
theorem l03Odd_any (d k : Nat) (hd : d = 2 ∨ d = 3) (hk : k < cnt d) (w : World) : Calls Tryz.prog 154 #[.int .i64 d, .int .i64 k] w fun e w' => e = .returned (.int .i64 (od d k : Nat)) ∧ Below w.heap.size w w' := by
  rcases hd with rfl | rfl
  · exact l03Odd_2 k w
  · exact l03Odd_3 k hk w
set_option maxHeartbeats 4000000 in
set_option maxRecDepth 100000 in
theorem specSgn_any (w : World) (d n : Int) (b0 : Nat) (v : Value) (g : List Int) (hg : Own w b0 2 v (ints g)) (hl : g.length < 2000000) :
    Calls Tryz.prog 54 #[.int .i64 d, .int .i64 n, v] w fun e w' => ∃ v', e = .returned (.tuple #[v', .int .i64 (sgnAns d n g).2]) ∧ Own w' w.heap.size 2 v' (ints (sgnAns d n g).1) ∧ Below w.heap.size w w' := by
  classical
  obtain ⟨A0, cp0, rfl, hcp, hA0⟩ := hg.form
  have hga := hid (fun (h : g ≠ []) => (show ∃ ga, A0 = some ⟨ga, 0, none⟩ from by
    rcases hA0 with ⟨_, h1, _⟩ | ⟨ga, h1, _⟩
    · exact absurd (by cases g with | nil => rfl | cons a t => simp [ints] at h1) h
    · exact ⟨ga, h1⟩))
  rw [ints_length] at hg hcp ⊢
  have hS := (St.arg w hg).newOwn [(Value.slice A0 g.length cp0)] 32 (by simp)
  simp only [List.length_cons, List.length_nil, Nat.zero_add] at hS
  replace hS := hid hS
  clear hA0
  have hpc := hid (fun W b vv (hO : Own W b 32 vv [(Value.slice A0 g.length cp0)]) (hr : Own W b 2 (Value.slice A0 g.length cp0) (ints g)) => l03Code_any W d n b vv [g] (mat1 hO hr) (by simp) (by simp; omega))
  rcases pcode_cases d n g with hp | hp | ⟨hp, d, n, rfl, rfl, hd, hn1, hn4, hgp⟩
  · have hA : sgnAns d n g = ([], 1) := by unfold sgnAns; rw [hp, if_neg (by decide)]
    rw [hA]
    rw [hp] at hpc
    replace hg := hid hg; clear hp hA
    go_enter Tryz.func54, Tryz.ntmps54
    go_wp2_with (first
      | (go_at_call 152; (with_reducible refine (hpc.out _ _ _ (hS.out.o0.mono (Nat.zero_le _)) hS.out.o1).mono ?_); rintro e w1 ⟨rfl, hb⟩; replace hS := hid (hS.out.call hb).drop; clear hb))
    go_ret2
    exact ⟨_, rfl, Own.nil _ _ _, hS.out.bel⟩
  · have hA : sgnAns d n g = ([], 2) := by unfold sgnAns; rw [hp, if_neg (by decide)]
    rw [hA]
    rw [hp] at hpc
    replace hg := hid hg; clear hp hA
    go_enter Tryz.func54, Tryz.ntmps54
    go_wp2_with (first
      | (go_at_call 152; (with_reducible refine (hpc.out _ _ _ (hS.out.o0.mono (Nat.zero_le _)) hS.out.o1).mono ?_); rintro e w1 ⟨rfl, hb⟩; replace hS := hid (hS.out.call hb).drop; clear hb))
    go_ret2
    exact ⟨_, rfl, Own.nil _ _ _, hS.out.bel⟩
  · have hA : sgnAns d n g = (sgL d g n, 0) := by unfold sgnAns; rw [if_pos hp]; rfl
    rw [hA]
    rw [hp] at hpc
    have hgl : g.length = start d n := hgp.1
    have hsl := (start_le hd hn4).1
    have hs1 : 1 ≤ start d n := by
      obtain ⟨j, hj⟩ : ∃ j, n = 1 + j := ⟨n - 1, by omega⟩
      rw [hj]
      have := start_mono d 1 j
      have h1 : start d 1 = 1 := rfl
      omega
    obtain ⟨ga, rfl⟩ := hga.out (by intro e; rw [e] at hgl; simp at hgl; omega)
    have hsz := hid (fun k (hk : k ≤ 5) W => l03Start_any d k hd hk W)
    have hss := hid (fun k => (show start d (k + 1) = start d k + pw d k from rfl))
    have hsm := hid (fun k (hk : k < n) => (show start d k + pw d k ≤ start d n from by
      obtain ⟨j, hj⟩ : ∃ j, n = (k + 1) + j := ⟨n - (k + 1), by omega⟩
      rw [hj]; exact start_mono d (k + 1) j))
    have hgc := hid (fun i (hi : i < start d n) => (show (ints g)[i]? = some (.int .i64 ((g.getD i 0).toNat : Nat)) ∧ (g.getD i 0).toNat < cnt d from by
      have hi' : i < g.length := by omega
      have h1 := hgp.2 g[i] (List.getElem_mem hi')
      have e : g.getD i 0 = g[i] := by rw [List.getD_eq_getElem?_getD, List.getElem?_eq_getElem hi']; rfl
      rw [e]
      refine ⟨?_, by omega⟩
      rw [ints, List.getElem?_map, List.getElem?_eq_getElem hi']
      show some (Value.int .i64 g[i]) = _
      rw [show (((g[i]).toNat : Nat) : Int) = g[i] by omega]))
    have hlen := hid (fun k => sgL_length d g k)
    have hsn := hid (fun k => sgL_snoc d g k)
    have ho := hid (fun a j => (show odS d g a (j + 1) = odS d g a j + od d (g.getD (a + j) 0).toNat from rfl))
    have ho0 := hid (fun a => (show odS d g a 0 = 0 from rfl))
    have hol := hid (fun k (hk : k < cnt d) => (odI_row d k hd hk))
    rw [hgl] at hS hpc hcp ⊢
    replace hg := hid hg; replace hgp := hid hgp; clear hp hA hl hgl
    have hodd := hid (fun k (hk : k < cnt d) W => l03Odd_any d k hd hk W)
    go_enter Tryz.func54, Tryz.ntmps54
    go_upto_region 4 with (
      (go_at_call 152; (with_reducible refine (hpc.out _ _ _ (hS.out.o0.mono (Nat.zero_le _)) hS.out.o1).mono ?_); rintro e w1 ⟨rfl, hb⟩; replace hS := hid (hS.out.call hb).drop; clear hb))
    replace hS := hid (hS.out.newOwn [] 2 (by simp))
    go_wp2
    go_loopw [9, 10] (fun o i wr => ∃ k : Nat, k ≤ n ∧ i = .int .i64 k ∧ St w.heap.size w [Asn.own w.heap.size 2 o (ints (sgL d g k)), Asn.own 0 2 (.slice (some ⟨ga, 0, none⟩) (start d n) cp0) (ints g)] wr) (fun _ i _ => n - (intOf i).toNat)
    case atStart => exact ⟨0, Nat.zero_le _, rfl, hS.out⟩
    case round =>
      obtain ⟨k, hk, rfl, rS⟩ := hrel
      clear hS
      by_cases hkn : k < n
      · have dk : decide ((k : Int) < (n : Int)) = true := decide_eq_true (by omega)
        have hz1 := hid (hsz.out k (by omega))
        have hz2 := hid (fun W => (by have h := hsz.out (k + 1) (by omega) W; exact h : Calls Tryz.prog 153 #[.int .i64 d, .int .i64 ((k : Int) + 1)] W fun e w' => e = .returned (.int .i64 (start d (k + 1) : Nat)) ∧ W = w'))
        have ek : IntKind.i64.wrap ((k : Int) + 1) = (k : Int) + 1 := IntWalk.i64_in _ (by omega)
        have hb1 := hsm.out k hkn
        have hb2 := hss.out k
        have hx := hid (fun j (hj : j < pw d k) => hgc.out (start d k + j) (by omega))
        have hoj := hid (fun j => ho.out (start d k) j)
        have ho0k := hid (ho0.out (start d k))
        have hsnk := hid (hsn.out k)
        have hlk := hid (show (ints (sgL d g k)).length = k by rw [ints_length, hlen.out])
        obtain ⟨X, hX⟩ : ∃ X : Nat → Nat, X = fun j => (g.getD (start d k + j) 0).toNat := ⟨_, rfl⟩
        have hXe := hid (fun j => (show (g.getD (start d k + j) 0).toNat = X j by rw [hX]))
        obtain ⟨Y, hY⟩ : ∃ Y : Nat → Nat, Y = fun j => odS d g (start d k) j := ⟨_, rfl⟩
        have hYe := hid (fun j => (show odS d g (start d k) j = Y j by rw [hY]))
        simp only [hXe.out, hYe.out] at hx hoj ho0k hsnk
        clear hX hXe hY hYe
        generalize start d k = a at *
        generalize pw d k = p at *
        rw [hb2] at hz2
        replace rS := hid rS
        have hpp : p ≤ 40 := by omega
        go_upto_region 10 with (
          (go_at_call 153; (with_reducible refine (hz1.out _).mono ?_); rintro e w' ⟨rfl, rfl⟩))
        go_loopw [11, 12] (fun s i wi => ∃ j : Nat, j ≤ p ∧ i = .int .i64 (a + j : Nat) ∧ s = .int .i64 (Y j : Nat) ∧ Hid (Y j ≤ j) ∧ St w.heap.size w [Asn.own w.heap.size 2 u9 (ints (sgL d g k)), Asn.own 0 2 (.slice (some ⟨ga, 0, none⟩) (start d n) cp0) (ints g)] wi) (fun _ i _ => a + p - (intOf i).toNat)
        case atStart => exact ⟨0, Nat.zero_le _, rfl, by rw [ho0k.out]; rfl, hid (by rw [ho0k.out]; exact Nat.le_refl _), rS.out⟩
        case round =>
          obtain ⟨j, hj, rfl, rfl, hYj, tS⟩ := hrel
          clear rS
          have hYb := hYj.out
          by_cases hjp : j < p
          · have dj : decide (((a + j : Nat) : Int) < ((a + p : Nat) : Int)) = true := decide_eq_true (by omega)
            have j0 : (0 : Int) ≤ ((a + j : Nat) : Int) := Int.natCast_nonneg _
            have j1 : ((a + j : Nat) : Int) < ((start d n : Nat) : Int) := by omega
            obtain ⟨hx1, hx2⟩ := hx.out j hjp
            have hstep := hid (hoj.out j)
            have cj := tS.o1.cellAt (a + j) _ hx1
            generalize X j = x at *
            obtain ⟨_, _, _, _, hro⟩ := hol.out x hx2
            have hodx := hid (hodd.out x hx2)
            generalize od d x = ov at *
            have ey : IntKind.i64.wrap ((Y j : Int) + (ov : Int)) = ((Y (j + 1) : Nat) : Int) := by rw [hstep.out, ← Int.natCast_add]; exact IntWalk.i64_in _ (by omega)
            have eaj : IntKind.i64.wrap (((a + j : Nat) : Int) + 1) = ((a + (j + 1) : Nat) : Int) := by rw [show ((a + j : Nat) : Int) + 1 = ((a + (j + 1) : Nat) : Int) by omega]; exact IntWalk.i64_in _ (by omega)
            have hyn := hid (show Y (j + 1) ≤ j + 1 from by rw [hstep.out]; omega)
            generalize hij : a + j = ij at *
            have mea : a + p - (a + (j + 1)) < a + p - ij := by omega
            replace tS := hid tS
            replace hij := hid hij
            go_wp2_with (first
              | (go_at_call 153; (with_reducible refine (hz2.out _).mono ?_); rintro e w' ⟨rfl, rfl⟩)
              | (go_at_call 154; (with_reducible refine (hodx.out _).mono ?_); rintro e w5 ⟨rfl, hb⟩; replace tS := hid (tS.out.call hb); clear hb))
            go_roundw
            case rel => exact ⟨j + 1, by omega, by first | rfl | go_num | (congr 1; omega), rfl, hyn, tS.out⟩
            case measure => simp [intOf]; omega
          · obtain rfl : j = p := by omega
            have dj : decide (((a + j : Nat) : Int) < ((a + j : Nat) : Int)) = false := decide_eq_false (by omega)
            have m1 : Int.tmod (Y j : Int) 2 = ((Y j % 2 : Nat) : Int) := by rw [Int.tmod_eq_emod_of_nonneg (by omega)]; omega
            obtain ⟨yv, hyv⟩ : ∃ yv, yv = Y j % 2 := ⟨_, rfl⟩
            rw [← hyv] at m1 hsnk
            replace hyv := hid hyv
            replace tS := hid tS
            go_wp2_with (first
              | (go_at_call 153; (with_reducible refine (hz2.out _).mono ?_); rintro e w' ⟨rfl, rfl⟩)
              | ((with_reducible refine gate (N := 50) rfl ?_); refine St.app 32 2 (.int .i64 0) 8 Tryz.underlying32 info_i64 rfl (by omega) rfl _ _ rfl _ _ rfl tS.out _ rfl rfl k hlk.out (by omega) ?_; intro gn cn w6 tS'; replace tS := hid tS'; clear tS'))
            rw [← ints_snoc, ← hsnk.out] at tS
            go_roundw
            case rel => exact ⟨k + 1, by omega, by go_num, tS.out⟩
            case measure => simp [intOf]; omega
      · obtain rfl : k = n := by omega
        have dk : decide ((k : Int) < (k : Int)) = false := decide_eq_false (by omega)
        replace rS := hid rS
        go_wp2
        go_ret2
        exact ⟨_, rfl, rS.out.o0, rS.out.bel⟩
end Go.Proofs.YthmcdfjijkecfaaGreat

/- FnStates: the plain laws. -/
namespace Go.Proofs.YthmcdfjijkecfaaGreat
open Go.RowKit
set_option linter.unusedVariables false
set_option linter.unusedSimpArgs false
-- @LONG

/-- A portrait that is asked for. -/
theorem pof_law {m : Mach} {q n : Int} (h : (pofAns m q n).2 = 0) : ∃ l s q' n' : Nat, Good m l s ∧ q = q' ∧ q' < s ∧ n = n' ∧ 1 ≤ n' ∧ n' ≤ 4 ∧ (pofAns m q n).1 = prtM m l q' n' := by
  rcases codeI1 m q with ⟨h1, _⟩ | ⟨h1, _⟩ | ⟨h1, l, s, k, g, rfl, hk⟩
  · rw [pofAns_c h1 (by decide)] at h; cases h
  · rw [pofAns_c h1 (by decide)] at h; cases h
  · by_cases hn : 1 ≤ n ∧ n ≤ 4
    · obtain ⟨n, rfl⟩ := Int.eq_ofNat_of_zero_le (show 0 ≤ n by omega)
      rw [pofAns_0 g h1 (by omega)]
      exact ⟨l, s, k, n, g, rfl, hk, rfl, by omega, by omega, rfl⟩
    · rw [pofAns_2 h1 hn] at h; cases h
theorem pof_good {m : Mach} {l s q n : Nat} (g : Good m l s) (hq : q < s) (h1 : 1 ≤ n) (h4 : n ≤ 4) : pofAns m q n = (prtM m l q n, 0) := by
  have h0 : codeI m { data := #[] } [(q : Int)] = 0 := by
    rcases codeI1 m q with ⟨_, h⟩ | ⟨_, _, h⟩ | ⟨h, _⟩
    · exact absurd g.isM h
    · rw [g.S] at h; omega
    · exact h
  exact pofAns_0 g h0 ⟨h1, h4⟩
/-- The section of a portrait of a state behind a letter is the portrait of the section. -/
theorem sop_pof {m : Mach} {l s q n x : Nat} (g : Good m l s) (hq : q < s) (h1 : 1 ≤ n) (h4 : n + 1 ≤ 4) (hx : x < l) : sopAns (l : Int) ((n + 1 : Nat) : Int) (prtM m l q (n + 1)) (wstr [x]) = (prtM m l (sec m q [x]) n, 0) := by
  have l2 := g.l2
  have l3 := g.l3
  have hl : l = 2 ∨ l = 3 := by omega
  have hw : IsWd l (wstr [x]) := isWd_wstr (fun y hy => by rw [List.mem_singleton.1 hy]; omega) (by omega) (by simp)
  have hp := prtM_isP (n := n + 1) g hq
  rw [sopAns_0 (pcode_0 hl (by omega) h4 (by intro r hr; rw [List.mem_singleton.1 hr]; exact hp)), if_pos hw, if_pos (by rw [wstr_size]; simp; omega), wstr_size, lets_wstr0 (by intro y hy; rw [List.mem_singleton.1 hy]; omega)]
  show (byL l (fun u => gAt l (prtM m l q (n + 1)) ([x] ++ u)) (n + 1 - 1), (0 : Int)) = _
  rw [Nat.add_sub_cancel]
  congr 1
  refine byL_congr l _ _ n fun k hk j hj => ?_
  have hw2 := wrd_lt l (by omega) k j
  have hwl := wrd_length l k j
  have hxw : ∀ y ∈ [x] ++ wrd l k j, y < l := fun y hy => (List.mem_append.1 hy).elim (fun h => by rw [List.mem_singleton.1 h]; exact hx) (hw2 y)
  show gAt l (prtM m l q (n + 1)) ([x] ++ wrd l k j) = _
  have e2 := num_lt l _ _ rfl hxw
  have e3 := byL_get l (fun u => pnm (rowM m l (sec m q u))) ([x] ++ wrd l k j).length (num l ([x] ++ wrd l k j)) e2 (n + 1) (by simp [hwl]; omega)
  unfold gAt prtM
  rw [List.getD_eq_getElem?_getD, e3, wrd_num l (by omega) _ _ rfl hxw]
  rfl
/-- Signs of a level, as a sum over its words. -/
theorem odS_sum (d : Nat) (g : List Int) (a : Nat) : ∀ N, odS d g a N = ((List.range N).map fun j => od d (g.getD (a + j) 0).toNat).sum
  | 0 => rfl
  | N + 1 => by rw [odS, odS_sum d g a N, List.range_succ, List.map_append, List.sum_append]; simp
theorem sum_perm {f : Nat → Nat} {p : Nat → Nat} {N : Nat} (h : ((List.range N).map p).Perm (List.range N)) : ((List.range N).map fun j => f (p j)).sum = ((List.range N).map f).sum := by
  have h2 := h.map f
  rw [List.map_map] at h2
  exact h2.sum_nat
theorem od_comp : ∀ d, d = 2 ∨ d = 3 → ∀ a, a < cnt d → ∀ b, b < cnt d → ∀ z, z < cnt d → (∀ x, x < d → pim d z x = pim d b (pim d a x)) → od d z % 2 = (od d a + od d b) % 2 := by
  rintro d (rfl | rfl)
  · decide
  · decide +kernel
theorem Aut.le {d n k : Nat} {F : List Nat → List Nat} (h : Aut d F n) (hk : k ≤ n) : Aut d F k :=
  ⟨fun u hu hl => h.len u hu (by omega), fun u hu hl => h.lt u hu (by omega), fun u x hu hx hl => h.pre u x hu hx (by omega), fun u v hu hv hl he e => h.inj u v hu hv (by omega) he e⟩
/-- A map of a level permutes the numbers. -/
theorem pm_perm {d k : Nat} {F : List Nat → List Nat} (hd : 0 < d) (h : Aut d F k) : ((List.range (pw d k)).map fun j => num d (F (wrd d k j))).Perm (List.range (pw d k)) := by
  have hp := pmF_pm hd h
  have hl := pmF_length d F k
  have hlt : ∀ j, j < pw d k → num d (F (wrd d k j)) < pw d k := fun j hj => by
    have := hp.lt j (by rw [hl]; exact hj)
    rwa [pmF_get hj, hl] at this
  have hinj : ∀ i j, i < pw d k → j < pw d k → num d (F (wrd d k i)) = num d (F (wrd d k j)) → i = j := fun i j hi hj e =>
    hp.inj i j (by rw [hl]; exact hi) (by rw [hl]; exact hj) (by rw [pmF_get hi, pmF_get hj]; exact e)
  have hnd : ((List.range (pw d k)).map fun j => num d (F (wrd d k j))).Nodup := by
    unfold List.Nodup
    rw [List.pairwise_map]
    exact List.Pairwise.imp_of_mem (fun {a b} ha hb hab e => hab (hinj a b (List.mem_range.1 ha) (List.mem_range.1 hb) e)) List.nodup_range
  refine (List.perm_ext_iff_of_nodup hnd List.nodup_range).2 fun v => ?_
  constructor
  · intro hv
    obtain ⟨j, hj, rfl⟩ := List.mem_map.1 hv
    exact List.mem_range.2 (hlt j (List.mem_range.1 hj))
  · intro hv
    obtain ⟨j, hj, e⟩ := surj_of_inj (f := fun j => num d (F (wrd d k j))) (n := pw d k) hlt (fun i j hij hj e => absurd (hinj i j (by omega) hj e) (by omega)) v (List.mem_range.1 hv)
    exact List.mem_map.2 ⟨j, List.mem_range.2 hj, e⟩
theorem sum_mod {f g h : Nat → Nat} : ∀ N, (∀ j, j < N → f j % 2 = (g j + h j) % 2) → ((List.range N).map f).sum % 2 = (((List.range N).map g).sum + ((List.range N).map h).sum) % 2
  | 0, _ => rfl
  | N + 1, hh => by
    have h1 := sum_mod N fun j hj => hh j (by omega)
    have h2 := hh N (by omega)
    rw [List.range_succ, List.map_append, List.map_append, List.map_append, List.sum_append, List.sum_append, List.sum_append]
    simp only [List.map_cons, List.map_nil, List.sum_cons, List.sum_nil]
    omega
/-- Signs add up in products. -/
theorem sgn_prod {d n : Nat} {A B : List Int} (hd : d = 2 ∨ d = 3) (hA : IsP d n A) (hB : IsP d n B) {k : Nat} (hk : k < n) :
    odS d (prtF d (fun u => actP d B (actP d A u)) n) (start d k) (pw d k) % 2 = (odS d A (start d k) (pw d k) + odS d B (start d k) (pw d k)) % 2 := by
  have hF : Aut d (fun u => actP d B (actP d A u)) n := (aut_act hd hB).comp (aut_act hd hA)
  have d0 : 0 < d := by omega
  have hat : ∀ (g : List Int) j, j < pw d k → g.getD (start d k + j) 0 = gAt d g (wrd d k j) := fun g j hj => by
    unfold gAt; rw [wrd_length, num_wrd d d0 k j hj]
  rw [odS_sum, odS_sum, odS_sum, ← sum_perm (f := fun j => od d (B.getD (start d k + j) 0).toNat) (pm_perm d0 ((aut_act hd hA).le (Nat.le_of_lt hk)))]
  refine sum_mod _ fun j hj => ?_
  have hw := wrd_lt d d0 k j
  have hwl := wrd_length d k j
  have hyl : (actP d A (wrd d k j)).length = k := by rw [actP_length, hwl]
  have hy := actP_lt hd hA (wrd d k j) hw (by omega)
  have e2 : B.getD (start d k + num d (actP d A (wrd d k j))) 0 = gAt d B (actP d A (wrd d k j)) := by unfold gAt; rw [hyl]
  rw [hat _ j hj, hat _ j hj, e2, prtF_gAt hd hw (by omega)]
  obtain ⟨z, hz, hpz, hzx⟩ := lrow_num hd hF hw (by omega)
  rw [hpz, Int.toNat_natCast]
  refine od_comp d hd _ (gAt_nat hd hA _ hw (by omega)).2 _ (gAt_nat hd hB _ hy (by omega)).2 z hz fun x hx => ?_
  rw [hzx x hx]
  show (actP d B (actP d A (wrd d k j ++ [x]))).getD (wrd d k j).length 0 = _
  rw [actP_snoc, actP_snoc, List.getD_eq_getElem?_getD, List.getElem?_append_right (by rw [actP_length, actP_length]; exact Nat.le_refl _), actP_length, actP_length, Nat.sub_self]
  rfl
theorem dvd16 : ∀ x, x < 17 → x ∣ 16 → x = 1 ∨ x = 2 ∨ x = 4 ∨ x = 8 ∨ x = 16 := by decide
/-- Orders of portraits. -/
theorem oop_law {d n : Nat} {g : List Int} (hd : d = 2 ∨ d = 3) (hn1 : 1 ≤ n) (hn : n ≤ 4) (hg : IsP d n g) : ∃ O : Nat, oopAns d n g = ((O : Int), 0) ∧ 1 ≤ O ∧ O < 1000000000 ∧ (d = 2 → O = 1 ∨ O = 2 ∨ O = 4 ∨ O = 8 ∨ O = 16) := by
  have hK := prt_K hd hn hg
  have hdv := ordL_dvd hK.2.2
  refine ⟨ordL (cyc (prtP d g n)), ?_, Nat.pos_of_dvd_of_pos hdv hK.1, Nat.lt_of_le_of_lt (Nat.le_of_dvd hK.1 hdv) hK.2.1, fun h2 => ?_⟩
  · unfold oopAns
    rw [if_pos (pcode_0 hd hn1 hn (by intro r hr; rw [List.mem_singleton.1 hr]; exact hg))]
    rfl
  · subst h2
    have h16 : ordL (cyc (prtP 2 g n)) ∣ 16 := by
      refine Nat.dvd_trans hdv ?_
      have : n = 1 ∨ n = 2 ∨ n = 3 ∨ n = 4 := by omega
      rcases this with rfl | rfl | rfl | rfl <;> decide
    exact dvd16 _ (by have := Nat.le_of_dvd (by decide) h16; omega) h16
theorem sgn_good {d n : Nat} {g : List Int} (hd : d = 2 ∨ d = 3) (hn1 : 1 ≤ n) (hn : n ≤ 4) (hg : IsP d n g) : sgnAns d n g = (sgL d g n, 0) := by
  unfold sgnAns
  rw [if_pos (pcode_0 hd hn1 hn (by intro r hr; rw [List.mem_singleton.1 hr]; exact hg))]
  rfl
/-- All that the law says of a product of portraits. -/
theorem sta_law {d n : Int} {A B : List Int} (h : (mulAns d n A B).2 = 0) : ∃ (d' n' O : Nat) (x y z : Nat → Nat), d = d' ∧ n = n' ∧ n' ≤ 4 ∧ (mulAns d n A B).1.length ≤ 40 ∧ oopAns d n A = ((O : Int), 0) ∧ 1 ≤ O ∧ O < 1000000000 ∧ (d' = 2 → O = 1 ∨ O = 2 ∨ O = 4 ∨ O = 8 ∨ O = 16) ∧
    sgnAns d n A = ((List.range n').map fun k => ((x k : Nat) : Int), 0) ∧ sgnAns d n B = ((List.range n').map fun k => ((y k : Nat) : Int), 0) ∧ sgnAns d n (mulAns d n A B).1 = ((List.range n').map fun k => ((z k : Nat) : Int), 0) ∧ ∀ k, k < n' → x k ≤ 1 ∧ y k ≤ 1 ∧ (x k + y k) % 2 = z k := by
  rcases pcode2_cases d n A B with hc | ⟨hc, d, n, rfl, rfl, hd, hn1, hn4, hA, hB⟩
  · exfalso; unfold mulAns at h; rw [if_neg hc] at h; exact hc h
  · have e : mulAns (d : Int) (n : Int) A B = (prtF d (fun u => actP d B (actP d A u)) n, 0) := by unfold mulAns; rw [if_pos hc]; rfl
    rw [e]
    dsimp only
    have hF : Aut d (fun u => actP d B (actP d A u)) n := (aut_act hd hB).comp (aut_act hd hA)
    have hP := prtF_isP hd hF
    obtain ⟨O, h1, h2, h3, h4⟩ := oop_law hd hn1 hn4 hA
    refine ⟨d, n, O, _, _, _, rfl, rfl, hn4, by show (prtF d _ n).length ≤ 40; rw [hP.1]; exact (start_le hd hn4).1, h1, h2, h3, h4, sgn_good hd hn1 hn4 hA, sgn_good hd hn1 hn4 hB, sgn_good hd hn1 hn4 hP, fun k hk => ?_⟩
    have := sgn_prod hd hA hB hk
    omega
end Go.Proofs.YthmcdfjijkecfaaGreat

/- IsOneCycle, both; ActPortrait, the program at portraits. -/
namespace Go.Proofs.YthmcdfjijkecfaaGreat
open Go.RowKit
set_option linter.unusedVariables false
set_option linter.unusedSimpArgs false
-- @LONG

open Classical in
/-- What IsOneCycle answers. -/
noncomputable def oneAns (d n : Int) (g : List Int) : Bool × Int := if pcode d n [g] = 0 then (decide ((cyc (prtP d.toNat g n.toNat)).length = 1), 0) else (false, pcode d n [g])
set_option maxHeartbeats 2000000 in
set_option maxRecDepth 4000 in
theorem implOne_any (w : World) (d n : Int) (b0 : Nat) (v : Value) (g : List Int) (hg : Own w b0 2 v (ints g)) (hl : g.length < 2000000) :
    Calls Tryz.prog 57 #[.int .i64 d, .int .i64 n, v] w fun e w' => e = .returned (.tuple #[.bool (oneAns d n g).1, .int .i64 (oneAns d n g).2]) ∧ Below w.heap.size w w' := by
  classical
  obtain ⟨A0, cp0, rfl, _, _⟩ := hg.form
  rw [ints_length] at hg ⊢
  have hS := (St.arg w hg).newOwn [(Value.slice A0 g.length cp0)] 32 (by simp)
  simp only [List.length_cons, List.length_nil, Nat.zero_add] at hS
  replace hS := hid hS
  have hpc := hid (fun W b vv (hO : Own W b 32 vv [(Value.slice A0 g.length cp0)]) (hr : Own W b 2 (Value.slice A0 g.length cp0) (ints g)) => portraitCode_any W d n b vv [g] (mat1 hO hr) (by simp) (by simp; omega))
  rcases pcode_cases d n g with hp | hp | ⟨hp, d, n, rfl, rfl, hd, hn1, hn4, hgp⟩
  · have hA : oneAns d n g = (false, 1) := by unfold oneAns; rw [hp, if_neg (by decide)]
    rw [hA]
    rw [hp] at hpc
    replace hg := hid hg; clear hp hA
    go_enter Tryz.func57, Tryz.ntmps57
    go_wp2_with (first
      | (go_at_call 92; (with_reducible refine (hpc.out _ _ _ (hS.out.o0.mono (Nat.zero_le _)) hS.out.o1).mono ?_); rintro e w1 ⟨rfl, hb⟩; replace hS := hid (hS.out.call hb).drop; clear hb))
    go_ret2
    exact ⟨rfl, hS.out.bel⟩
  · have hA : oneAns d n g = (false, 2) := by unfold oneAns; rw [hp, if_neg (by decide)]
    rw [hA]
    rw [hp] at hpc
    replace hg := hid hg; clear hp hA
    go_enter Tryz.func57, Tryz.ntmps57
    go_wp2_with (first
      | (go_at_call 92; (with_reducible refine (hpc.out _ _ _ (hS.out.o0.mono (Nat.zero_le _)) hS.out.o1).mono ?_); rintro e w1 ⟨rfl, hb⟩; replace hS := hid (hS.out.call hb).drop; clear hb))
    go_ret2
    exact ⟨rfl, hS.out.bel⟩
  · have hA : oneAns d n g = (decide ((cyc (prtP d g n)).length = 1), 0) := by unfold oneAns; rw [if_pos hp]; rfl
    rw [hA]
    rw [hp] at hpc
    have hof := hid (fun W (hO : Own W 0 2 (Value.slice A0 g.length cp0) (ints g)) => ofPortrait_any W d n hd hn4 0 _ g hO hgp)
    have hpl : (prtP d g n).length ≤ 243 := by unfold prtP; rw [pmF_length]; exact pw5 hd (by omega)
    have hor := hid (fun W b v (hO : Own W b 2 v (nats (prtP d g n))) => (by
      refine (cycles_any W b v (prtP d g n) hO (by omega) (pmF_pm (by omega) (aut_act hd hgp)).lt).mono ?_
      rintro e w' ⟨v', rfl, h, hb⟩
      obtain ⟨A, c, rfl, _, _⟩ := h.form
      exact ⟨A, c, by rw [ints_length, show (cysI (prtP d g n)).length = (cyc (prtP d g n)).length from by unfold cysI; rw [srt_length, List.length_map]], hb⟩ : Calls Tryz.prog 102 #[v] W fun e w' => ∃ A c, e = .returned (.slice A (cyc (prtP d g n)).length c) ∧ Below W.heap.size W w'))
    have hci := hid (show ((((cyc (prtP d g n)).length : Nat) : Int) == 1) = decide ((cyc (prtP d g n)).length = 1) from by rw [Bool.eq_iff_iff, beq_iff_eq, decide_eq_true_iff]; omega)
    replace hg := hid hg; replace hgp := hid hgp; clear hp hA hpl
    generalize (cyc (prtP d g n)).length = N at *
    generalize prtP d g n = p at *
    have dd := hci.out
    generalize decide (N = 1) = R at *
    go_enter Tryz.func57, Tryz.ntmps57
    go_wp2_with (first
      | (go_at_call 92; (with_reducible refine (hpc.out _ _ _ (hS.out.o0.mono (Nat.zero_le _)) hS.out.o1).mono ?_); rintro e w1 ⟨rfl, hb⟩; replace hS := hid (hS.out.call hb).drop; clear hb)
      | (go_at_call 99; (with_reducible refine (hof.out _ hS.out.o0).mono ?_); rintro e w2 ⟨v2, rfl, hO, hb⟩; replace hS := hid (hS.out.callOwn hb hO); clear hO hb)
      | (go_at_call 102; (with_reducible refine (hor.out _ _ _ hS.out.o0).mono ?_); rintro e w3 ⟨A3, c3, rfl, hb⟩; replace hS := hid (hS.out.call hb); clear hb))
    go_ret2
    exact ⟨rfl, hS.out.bel⟩
set_option maxHeartbeats 2000000 in
set_option maxRecDepth 4000 in
theorem specOne_any (w : World) (d n : Int) (b0 : Nat) (v : Value) (g : List Int) (hg : Own w b0 2 v (ints g)) (hl : g.length < 2000000) :
    Calls Tryz.prog 58 #[.int .i64 d, .int .i64 n, v] w fun e w' => e = .returned (.tuple #[.bool (oneAns d n g).1, .int .i64 (oneAns d n g).2]) ∧ Below w.heap.size w w' := by
  classical
  obtain ⟨A0, cp0, rfl, _, _⟩ := hg.form
  rw [ints_length] at hg ⊢
  have hS := (St.arg w hg).newOwn [(Value.slice A0 g.length cp0)] 32 (by simp)
  simp only [List.length_cons, List.length_nil, Nat.zero_add] at hS
  replace hS := hid hS
  have hpc := hid (fun W b vv (hO : Own W b 32 vv [(Value.slice A0 g.length cp0)]) (hr : Own W b 2 (Value.slice A0 g.length cp0) (ints g)) => l03Code_any W d n b vv [g] (mat1 hO hr) (by simp) (by simp; omega))
  rcases pcode_cases d n g with hp | hp | ⟨hp, d, n, rfl, rfl, hd, hn1, hn4, hgp⟩
  · have hA : oneAns d n g = (false, 1) := by unfold oneAns; rw [hp, if_neg (by decide)]
    rw [hA]
    rw [hp] at hpc
    replace hg := hid hg; clear hp hA
    go_enter Tryz.func58, Tryz.ntmps58
    go_wp2_with (first
      | (go_at_call 152; (with_reducible refine (hpc.out _ _ _ (hS.out.o0.mono (Nat.zero_le _)) hS.out.o1).mono ?_); rintro e w1 ⟨rfl, hb⟩; replace hS := hid (hS.out.call hb).drop; clear hb))
    go_ret2
    exact ⟨rfl, hS.out.bel⟩
  · have hA : oneAns d n g = (false, 2) := by unfold oneAns; rw [hp, if_neg (by decide)]
    rw [hA]
    rw [hp] at hpc
    replace hg := hid hg; clear hp hA
    go_enter Tryz.func58, Tryz.ntmps58
    go_wp2_with (first
      | (go_at_call 152; (with_reducible refine (hpc.out _ _ _ (hS.out.o0.mono (Nat.zero_le _)) hS.out.o1).mono ?_); rintro e w1 ⟨rfl, hb⟩; replace hS := hid (hS.out.call hb).drop; clear hb))
    go_ret2
    exact ⟨rfl, hS.out.bel⟩
  · have hA : oneAns d n g = (decide ((cyc (prtP d g n)).length = 1), 0) := by unfold oneAns; rw [if_pos hp]; rfl
    rw [hA]
    rw [hp] at hpc
    have hof := hid (fun W (hO : Own W 0 2 (Value.slice A0 g.length cp0) (ints g)) => l03Permutation_any W d n hd hn4 0 _ g hO hgp)
    have hpl : (prtP d g n).length ≤ 243 := by unfold prtP; rw [pmF_length]; exact pw5 hd (by omega)
    have hor := hid (fun W b v (hO : Own W b 2 v (nats (prtP d g n))) => (by
      refine (l03Cycles_any W b v (prtP d g n) hO (by omega) (pmF_pm (by omega) (aut_act hd hgp)).lt).mono ?_
      rintro e w' ⟨v', rfl, h, hb⟩
      obtain ⟨A, c, rfl, _, _⟩ := h.form
      exact ⟨A, c, by rw [nats_length], hb⟩ : Calls Tryz.prog 155 #[v] W fun e w' => ∃ A c, e = .returned (.slice A (cyc (prtP d g n)).length c) ∧ Below W.heap.size W w'))
    have hci := hid (show ((((cyc (prtP d g n)).length : Nat) : Int) == 1) = decide ((cyc (prtP d g n)).length = 1) from by rw [Bool.eq_iff_iff, beq_iff_eq, decide_eq_true_iff]; omega)
    replace hg := hid hg; replace hgp := hid hgp; clear hp hA hpl
    generalize (cyc (prtP d g n)).length = N at *
    generalize prtP d g n = p at *
    have dd := hci.out
    generalize decide (N = 1) = R at *
    go_enter Tryz.func58, Tryz.ntmps58
    go_wp2_with (first
      | (go_at_call 152; (with_reducible refine (hpc.out _ _ _ (hS.out.o0.mono (Nat.zero_le _)) hS.out.o1).mono ?_); rintro e w1 ⟨rfl, hb⟩; replace hS := hid (hS.out.call hb).drop; clear hb)
      | (go_at_call 156; (with_reducible refine (hof.out _ hS.out.o0).mono ?_); rintro e w2 ⟨v2, rfl, hO, hb⟩; replace hS := hid (hS.out.callOwn hb hO); clear hO hb)
      | (go_at_call 155; (with_reducible refine (hor.out _ _ _ hS.out.o0).mono ?_); rintro e w3 ⟨A3, c3, rfl, hb⟩; replace hS := hid (hS.out.call hb); clear hb))
    go_ret2
    exact ⟨rfl, hS.out.bel⟩
set_option maxHeartbeats 2000000 in
set_option maxRecDepth 4000 in
theorem implActp_any (w : World) (d n : Nat) (hd : d = 2 ∨ d = 3) (hn1 : 1 ≤ n) (hn : n ≤ 4) (b0 : Nat) (v : Value) (g : List Int) (hO : Own w b0 2 v (ints g)) (hg : IsP d n g) (u : List Nat) (hu : ∀ x ∈ u, x < d) (hl : u.length ≤ n) :
    Calls Tryz.prog 47 #[.int .i64 d, .int .i64 n, v, .string (wstr u)] w fun e w' => e = .returned (.tuple #[.string (wstr (actP d g u)), .int .i64 0]) ∧ Below w.heap.size w w' := by
  have hgl : g.length ≤ 40 := by rw [hg.1]; exact (start_le hd hn).1
  obtain ⟨A0, cp0, rfl, _, _⟩ := hO.form
  rw [ints_length] at hO ⊢
  have hS := (St.arg w hO).newOwn [(Value.slice A0 g.length cp0)] 32 (by simp)
  simp only [List.length_cons, List.length_nil, Nat.zero_add] at hS
  replace hS := hid hS
  have hpc := hid (fun W b vv (hO : Own W b 32 vv [(Value.slice A0 g.length cp0)]) (hr : Own W b 2 (Value.slice A0 g.length cp0) (ints g)) => portraitCode_any W d n b vv [g] (mat1 hO hr) (by simp) (by simp; omega))
  rw [pcode_0 hd hn1 hn (by intro x hx; rw [List.mem_singleton.1 hx]; exact hg)] at hpc
  have hw : IsWd d (wstr u) := isWd_wstr (fun x hx => by have := hu x hx; omega) (by omega) (by omega)
  have hwd := hid (fun W => isWord_any (d : Int) (by omega) (by omega) (wstr u) (by rw [wstr_size]; omega) true (iff_of_true rfl hw) W)
  have hac := hid (fun W (hO : Own W 0 2 (Value.slice A0 g.length cp0) (ints g)) => act_any W d n hd hn 0 _ g hO hg u hu hl)
  have hsz := wstr_size u
  have dn : decide ((n : Int) < ((wstr u).size : Int)) = false := decide_eq_false (by omega)
  have dn2 : ¬ n < (wstr u).size := by omega
  replace hO := hid hO; replace hg := hid hg
  clear hu hl hw hsz
  generalize wstr (actP d g u) = y at *
  generalize wstr u = x at *
  go_enter Tryz.func47, Tryz.ntmps47
  go_wp2_with (first
    | (go_at_call 92; (with_reducible refine (hpc.out _ _ _ (hS.out.o0.mono (Nat.zero_le _)) hS.out.o1).mono ?_); rintro e w1 ⟨rfl, hb⟩; replace hS := hid (hS.out.call hb).drop; clear hb)
    | (go_at_call 134; (with_reducible refine (hwd.out _).mono ?_); rintro e w' ⟨rfl, rfl⟩)
    | (go_at_call 96; (with_reducible refine (hac.out _ hS.out.o0).mono ?_); rintro e w2 ⟨rfl, hb⟩; replace hS := hid (hS.out.call hb); clear hb))
  go_ret2
  exact ⟨rfl, hS.out.bel⟩
end Go.Proofs.YthmcdfjijkecfaaGreat
