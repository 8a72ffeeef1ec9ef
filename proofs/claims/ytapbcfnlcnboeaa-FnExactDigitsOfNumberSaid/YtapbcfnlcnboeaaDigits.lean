/- DigitsOfNumber: the digits of a number, the least first. -/
import Derived.Test.YtapbcfnlcnboeaaNum
namespace Go.Proofs.Ytapbcfnlcnboeaa
open Go.RowKit

/-- The first j digits. -/
def digsL (d k j : Nat) : List Nat := (List.range j).map fun i => shr d k i % d
theorem digsL_snoc (d k j : Nat) : digsL d k (j + 1) = digsL d k j ++ [shr d k j % d] := by simp [digsL, List.range_succ]
theorem digsL_length (d k j : Nat) : (digsL d k j).length = j := by simp [digsL]
theorem pw_30 (d n : Nat) (hd : d = 2 ∨ d = 3) (hn : n ≤ 30) : pw d n ≤ 205891132094649 := by
  have h := pw_le d (by omega) hn
  rcases hd with rfl | rfl
  · exact Nat.le_trans h (by decide +kernel)
  · exact Nat.le_trans h (by decide +kernel)

/-- The right arguments. -/
def DigOk (d n k : Int) : Prop := (d = 2 ∨ d = 3) ∧ (0 ≤ n ∧ n ≤ 30) ∧ 0 ≤ k ∧ k ≤ (pw d.toNat n.toNat : Nat) - 1
open Classical in
noncomputable def digAns (d n k : Int) : ByteArray × Int := if DigOk d n k then (wstr (digsL d.toNat k.toNat n.toNat), 0) else ({ data := #[] }, 2)
theorem digAns_no {d n k : Int} (h : ¬ DigOk d n k) : digAns d n k = ({ data := #[] }, 2) := by unfold digAns; rw [if_neg h]
theorem digAns_ok {d n k : Nat} (hd : d = 2 ∨ d = 3) (hn : n ≤ 30) (hk : k < pw d n) : digAns d n k = (wstr (digsL d k n), 0) := by
  unfold digAns
  rw [if_pos ⟨by omega, by omega, by omega, by show (k : Int) ≤ (pw d n : Nat) - 1; omega⟩]
  rfl

set_option maxHeartbeats 2000000 in
set_option maxRecDepth 100000 in
theorem implDigits_any (w : World) (d n k : Int) :
    Calls Try.prog 16 #[.int .i64 d, .int .i64 n, .int .i64 k] w fun e w' => e = .returned (.tuple #[.string (digAns d n k).1, .int .i64 (digAns d n k).2]) ∧ Below w.heap.size w w' := by
  by_cases hd : d = 2 ∨ d = 3
  · have hal := hid (fun W => areLetters_any d true (decide_eq_true (by omega)).symm W)
    by_cases hn : 0 ≤ n ∧ n ≤ 30
    · have hwn := hid (fun W => within_any n 0 30 true (decide_eq_true hn).symm W)
      obtain ⟨d, rfl⟩ := Int.eq_ofNat_of_zero_le (show 0 ≤ d by omega)
      obtain ⟨n, rfl⟩ := Int.eq_ofNat_of_zero_le hn.1
      have hd' : d = 2 ∨ d = 3 := by omega
      have hb := pw_30 d n hd' (by omega)
      have hpos := pw_pos d (by omega) n
      have hpw := hid (fun W => power_any d n (by omega) (by omega) (by omega) W)
      by_cases hk : 0 ≤ k ∧ k ≤ ((pw d n : Nat) : Int) - 1
      · have hwk := hid (fun W => within_any k 0 (((pw d n : Nat) : Int) - 1) true (decide_eq_true hk).symm W)
        obtain ⟨k, rfl⟩ := Int.eq_ofNat_of_zero_le hk.1
        rw [digAns_ok hd' (by omega) (by omega)]
        have hmk := fun W : World => run_make_row' (P := Try.prog) 58 5 (.int .u8 0) 1 Try.underlying58 info_u8 rfl .i64 .i64 n (by omega) (by omega) W
        have hmade := hid (World.rowIs_made w (.int .u8 0) n 5)
        have hB := hid (below_alloc (Below.refl w.heap.size w) (Nat.le_refl _) (.cells (madeCells #[.int .u8 0] n) 5))
        have hkb : k < 205891132094649 := by omega
        have hn30 : n ≤ 30 := by omega
        have hd2 : 2 ≤ d ∧ d ≤ 3 := by omega
        clear hk hn hd hd'
        generalize pw d n = M at *
        generalize hmc : madeCells #[.int .u8 0] n = mc at *
        clear hmc
        go_enter Try.func16, Try.ntmps16
        go_wp2_with (first
          | (go_at_call 49; (with_reducible refine (hal.out _).mono ?_); rintro e w1 ⟨rfl, rfl⟩)
          | (go_at_call 51; (with_reducible refine (hpw.out _).mono ?_); rintro e w1 ⟨rfl, rfl⟩)
          | (go_at_call 50; (with_reducible refine (hwn.out _).mono ?_); rintro e w1 ⟨rfl, rfl⟩)
          | (go_at_call 50; (with_reducible refine (hwk.out _).mono ?_); rintro e w1 ⟨rfl, rfl⟩))
        clear hmk
        go_loopw [2, 31] (fun p i wr => ∃ j : Nat, j ≤ n ∧ i = .int .i64 j ∧ p = .int .i64 (shr d k j : Nat) ∧ wr.rowIs w.heap.size 5 n (dgs (digsL d k j)) ∧ Below w.heap.size w wr) (fun _ i _ => n - (intOf i).toNat)
        case atStart =>
          refine ⟨0, Nat.zero_le _, rfl, rfl, World.rowIs.congr hmade.out (fun i hi => ?_), hB.out⟩
          unfold dgs
          simp [digsL]
        case round =>
          obtain ⟨j, hj, rfl, rfl, r1, rB⟩ := hrel
          clear hmade hB
          have hle := shr_le d k j
          replace r1 := hid r1; replace rB := hid rB
          by_cases hlt : j < n
          · have hsn := hid (digsL_snoc d k j)
            have hsl := hid (digsL_length d k j)
            have hsd := hid (show shr d k (j + 1) = shr d k j / d from rfl)
            have hmod := Nat.mod_lt (shr d k j) (show 0 < d by omega)
            obtain ⟨vo, co⟩ : ∃ v, wr.cell? ⟨w.heap.size, j, none⟩ = some v := ⟨_, r1.out.cell (by omega)⟩
            have fo : wr.frozen? ⟨w.heap.size, j, none⟩ = false := r1.out.frozen _
            have hdv := Nat.div_le_self (shr d k j) d
            generalize hp : shr d k j = p at *
            replace hp := hid hp
            have d0 : ¬ (d : Int) = 0 := by omega
            have m1 : Int.tmod (p : Int) (d : Int) = ((p % d : Nat) : Int) := by rw [Int.tmod_eq_emod_of_nonneg (by omega)]; omega
            have m2 : Int.tdiv (p : Int) (d : Int) = ((p / d : Nat) : Int) := by rw [Int.tdiv_eq_ediv_of_nonneg (by omega)]; omega
            generalize p % d = r at *
            generalize hpd : p / d = q at *
            replace hpd := hid hpd
            go_wp2_with (first
              | (go_at_call 52; (with_reducible refine (letter_any r (by omega) _).mono ?_); rintro e w1 ⟨rfl, rfl⟩))
            go_roundw
            case rel =>
              refine ⟨j + 1, by omega, by go_num, by rw [hsd.out], ?_, rB.out.setCell (by simp) _⟩
              rw [hsn.out]
              refine World.rowIs.congr (World.rowIs.set r1.out j _) (fun i hi => ?_)
              have := dgs_snoc (digsL d k j) r i
              rw [hsl.out] at this
              exact this
            case measure => simp [intOf]; omega
          · obtain rfl : j = n := by omega
            have hconv := conv_dgs (digsL_length d k j) r1.out
            go_wp2
            go_ret2
            exact ⟨rfl, rB.out⟩
      · rw [digAns_no (fun h => hk h.2.2)]
        have hwk := hid (fun W => within_any k 0 (((pw d n : Nat) : Int) - 1) false (decide_eq_false hk).symm W)
        clear hk hn hd hd'
        generalize pw d n = M at *
        go_enter Try.func16, Try.ntmps16
        go_wp2_with (first
          | (go_at_call 49; (with_reducible refine (hal.out _).mono ?_); rintro e w1 ⟨rfl, rfl⟩)
          | (go_at_call 51; (with_reducible refine (hpw.out _).mono ?_); rintro e w1 ⟨rfl, rfl⟩)
          | (go_at_call 50; (with_reducible refine (hwn.out _).mono ?_); rintro e w1 ⟨rfl, rfl⟩)
          | (go_at_call 50; (with_reducible refine (hwk.out _).mono ?_); rintro e w1 ⟨rfl, rfl⟩))
        go_ret2
        exact ⟨rfl, Below.refl _ _⟩
    · rw [digAns_no (fun h => hn h.2.1)]
      have hwn := hid (fun W => within_any n 0 30 false (decide_eq_false hn).symm W)
      clear hn hd
      go_enter Try.func16, Try.ntmps16
      go_wp2_with (first
        | (go_at_call 49; (with_reducible refine (hal.out _).mono ?_); rintro e w1 ⟨rfl, rfl⟩)
        | (go_at_call 50; (with_reducible refine (hwn.out _).mono ?_); rintro e w1 ⟨rfl, rfl⟩))
      go_ret2
      exact ⟨rfl, Below.refl _ _⟩
  · rw [digAns_no (fun h => hd h.1)]
    have hal := hid (fun W => areLetters_any d false (decide_eq_false (by omega)).symm W)
    clear hd
    go_enter Try.func16, Try.ntmps16
    go_wp2_with (first
      | (go_at_call 49; (with_reducible refine (hal.out _).mono ?_); rintro e w1 ⟨rfl, rfl⟩))
    go_ret2
    exact ⟨rfl, Below.refl _ _⟩

set_option maxHeartbeats 2000000 in
set_option maxRecDepth 100000 in
theorem specDigits_any (w : World) (d n k : Int) :
    Calls Try.prog 15 #[.int .i64 d, .int .i64 n, .int .i64 k] w fun e w' => e = .returned (.tuple #[.string (digAns d n k).1, .int .i64 (digAns d n k).2]) ∧ Below w.heap.size w w' := by
  by_cases hd : d = 2 ∨ d = 3
  · by_cases hn : 0 ≤ n ∧ n ≤ 30
    · have hwn := hid (fun W => l01In_any n 0 30 true (decide_eq_true hn).symm W)
      obtain ⟨d, rfl⟩ := Int.eq_ofNat_of_zero_le (show 0 ≤ d by omega)
      obtain ⟨n, rfl⟩ := Int.eq_ofNat_of_zero_le hn.1
      have hd' : d = 2 ∨ d = 3 := by omega
      have hb := pw_30 d n hd' (by omega)
      have hpos := pw_pos d (by omega) n
      have hpw := hid (fun W => l01Power_any d n (by omega) (by omega) (by omega) W)
      by_cases hk : 0 ≤ k ∧ k ≤ ((pw d n : Nat) : Int) - 1
      · have hwk := hid (fun W => l01In_any k 0 (((pw d n : Nat) : Int) - 1) true (decide_eq_true hk).symm W)
        obtain ⟨k, rfl⟩ := Int.eq_ofNat_of_zero_le hk.1
        rw [digAns_ok hd' (by omega) (by omega)]
        have hB := hid (below_alloc (Below.refl w.heap.size w) (Nat.le_refl _) (.cells #[] 5))
        have hO := hid (Own.new w w.heap.size 5 (Nat.le_refl _))
        have hkb : k < 205891132094649 := by omega
        have hn30 : n ≤ 30 := by omega
        clear hk hn hd
        generalize pw d n = M at *
        rcases hd' with rfl | rfl
        rotate_left
        have hpw := hid (fun W => (show Calls Try.prog 48 #[.int .i64 3, .int .i64 n] W _ from hpw.out W))
        rotate_left
        have hpw := hid (fun W => (show Calls Try.prog 48 #[.int .i64 2, .int .i64 n] W _ from hpw.out W))
        all_goals
          go_enter Try.func15, Try.ntmps15
          go_wp2_with (first
            | (go_at_call 48; (with_reducible refine (hpw.out _).mono ?_); rintro e w1 ⟨rfl, rfl⟩)
            | (go_at_call 47; (with_reducible refine (hwn.out _).mono ?_); rintro e w1 ⟨rfl, rfl⟩)
            | (go_at_call 47; (with_reducible refine (hwk.out _).mono ?_); rintro e w1 ⟨rfl, rfl⟩))
        · clear hpw hwn hwk
          go_loopw [1, 2, 8] (fun i p v wr => ∃ c : Nat, c ≤ n ∧ i = .int .i64 c ∧ p = .int .i64 (shr 2 k (n - c) : Nat) ∧ Own wr w.heap.size 5 v (wb (digsL 2 k (n - c))) ∧ Below w.heap.size w wr) (fun i _ _ _ => (intOf i).toNat)
          case atStart => exact ⟨n, Nat.le_refl _, rfl, by rw [Nat.sub_self]; rfl, by rw [Nat.sub_self]; exact hO.out, hB.out⟩
          case round =>
            obtain ⟨c, hc, rfl, rfl, r1, rB⟩ := hrel
            clear hO hB
            have hle := shr_le 2 k (n - c)
            replace r1 := hid r1; replace rB := hid rB
            cases c with
            | succ c =>
              have hsn := hid (show digsL 2 k (n - c) = digsL 2 k (n - (c + 1)) ++ [shr 2 k (n - (c + 1)) % 2] by rw [show n - c = (n - (c + 1)) + 1 by omega, digsL_snoc])
              have hsl := hid (show (wb (digsL 2 k (n - (c + 1)))).length = n - (c + 1) by rw [wb_length, digsL_length])
              have hsd := hid (show shr 2 k (n - c) = shr 2 k (n - (c + 1)) / 2 by rw [show n - c = (n - (c + 1)) + 1 by omega]; rfl)
              have hmod := Nat.mod_lt (shr 2 k (n - (c + 1))) (show 0 < 2 by omega)
              generalize hp : shr 2 k (n - (c + 1)) = p at *
              replace hp := hid hp
              have m1 : Int.tmod (p : Int) 2 = ((p % 2 : Nat) : Int) := by rw [Int.tmod_eq_emod_of_nonneg (by omega)]; omega
              have m2 : Int.tdiv (p : Int) 2 = ((p / 2 : Nat) : Int) := by rw [Int.tdiv_eq_ediv_of_nonneg (by omega)]; omega
              have hdv := Nat.div_le_self p 2
              generalize p % 2 = r at *
              generalize hpd : p / 2 = q at *
              replace hpd := hid hpd
              have e2 : (48 + (r : Int)) % 256 = 48 + r := by omega
              go_wp2_with (first
                | ((with_reducible refine gate (N := 41) rfl ?_); refine app1 58 5 (.int .u8 0) 1 Try.underlying58 info_u8 rfl (by omega) rfl _ _ rfl w.heap.size _ _ rfl r1.out rB.out.size _ rfl rfl (by have := hsl.out; omega) ?_; intro gn cap w2 hO2 hb2 hold hsz2 _; replace hO2 := hid hO2; have tB := hid (rB.out.trans hb2); clear hb2 hold hsz2 r1 rB))
              go_roundw
              case rel => exact ⟨c, by omega, by go_num, by rw [hsd.out], by rw [hsn.out, wb_snoc]; exact hO2.out, tB.out⟩
              case measure => simp [intOf]
            | zero =>
              have hconv := r1.out.conv
              rw [Nat.sub_zero] at hconv
              go_wp2
              go_ret2
              exact ⟨rfl, rB.out⟩
        · clear hpw hwn hwk
          go_loopw [1, 2, 8] (fun i p v wr => ∃ c : Nat, c ≤ n ∧ i = .int .i64 c ∧ p = .int .i64 (shr 3 k (n - c) : Nat) ∧ Own wr w.heap.size 5 v (wb (digsL 3 k (n - c))) ∧ Below w.heap.size w wr) (fun i _ _ _ => (intOf i).toNat)
          case atStart => exact ⟨n, Nat.le_refl _, rfl, by rw [Nat.sub_self]; rfl, by rw [Nat.sub_self]; exact hO.out, hB.out⟩
          case round =>
            obtain ⟨c, hc, rfl, rfl, r1, rB⟩ := hrel
            clear hO hB
            have hle := shr_le 3 k (n - c)
            replace r1 := hid r1; replace rB := hid rB
            cases c with
            | succ c =>
              have hsn := hid (show digsL 3 k (n - c) = digsL 3 k (n - (c + 1)) ++ [shr 3 k (n - (c + 1)) % 3] by rw [show n - c = (n - (c + 1)) + 1 by omega, digsL_snoc])
              have hsl := hid (show (wb (digsL 3 k (n - (c + 1)))).length = n - (c + 1) by rw [wb_length, digsL_length])
              have hsd := hid (show shr 3 k (n - c) = shr 3 k (n - (c + 1)) / 3 by rw [show n - c = (n - (c + 1)) + 1 by omega]; rfl)
              have hmod := Nat.mod_lt (shr 3 k (n - (c + 1))) (show 0 < 3 by omega)
              generalize hp : shr 3 k (n - (c + 1)) = p at *
              replace hp := hid hp
              have m1 : Int.tmod (p : Int) 3 = ((p % 3 : Nat) : Int) := by rw [Int.tmod_eq_emod_of_nonneg (by omega)]; omega
              have m2 : Int.tdiv (p : Int) 3 = ((p / 3 : Nat) : Int) := by rw [Int.tdiv_eq_ediv_of_nonneg (by omega)]; omega
              have hdv := Nat.div_le_self p 3
              generalize p % 3 = r at *
              generalize hpd : p / 3 = q at *
              replace hpd := hid hpd
              have e2 : (48 + (r : Int)) % 256 = 48 + r := by omega
              go_wp2_with (first
                | ((with_reducible refine gate (N := 41) rfl ?_); refine app1 58 5 (.int .u8 0) 1 Try.underlying58 info_u8 rfl (by omega) rfl _ _ rfl w.heap.size _ _ rfl r1.out rB.out.size _ rfl rfl (by have := hsl.out; omega) ?_; intro gn cap w2 hO2 hb2 hold hsz2 _; replace hO2 := hid hO2; have tB := hid (rB.out.trans hb2); clear hb2 hold hsz2 r1 rB))
              go_roundw
              case rel => exact ⟨c, by omega, by go_num, by rw [hsd.out], by rw [hsn.out, wb_snoc]; exact hO2.out, tB.out⟩
              case measure => simp [intOf]
            | zero =>
              have hconv := r1.out.conv
              rw [Nat.sub_zero] at hconv
              go_wp2
              go_ret2
              exact ⟨rfl, rB.out⟩
      · rw [digAns_no (fun h => hk h.2.2)]
        have hwk := hid (fun W => l01In_any k 0 (((pw d n : Nat) : Int) - 1) false (decide_eq_false hk).symm W)
        clear hk hn hd
        generalize pw d n = M at *
        rcases hd' with rfl | rfl
        rotate_left
        have hpw := hid (fun W => (show Calls Try.prog 48 #[.int .i64 3, .int .i64 n] W _ from hpw.out W))
        rotate_left
        have hpw := hid (fun W => (show Calls Try.prog 48 #[.int .i64 2, .int .i64 n] W _ from hpw.out W))
        all_goals
          go_enter Try.func15, Try.ntmps15
          go_wp2_with (first
            | (go_at_call 48; (with_reducible refine (hpw.out _).mono ?_); rintro e w1 ⟨rfl, rfl⟩)
            | (go_at_call 47; (with_reducible refine (hwn.out _).mono ?_); rintro e w1 ⟨rfl, rfl⟩)
            | (go_at_call 47; (with_reducible refine (hwk.out _).mono ?_); rintro e w1 ⟨rfl, rfl⟩))
          go_ret2
          exact ⟨rfl, Below.refl _ _⟩
    · rw [digAns_no (fun h => hn h.2.1)]
      have hwn := hid (fun W => l01In_any n 0 30 false (decide_eq_false hn).symm W)
      clear hn
      rcases hd with rfl | rfl
      all_goals
        go_enter Try.func15, Try.ntmps15
        go_wp2_with (first
          | (go_at_call 47; (with_reducible refine (hwn.out _).mono ?_); rintro e w1 ⟨rfl, rfl⟩))
        go_ret2
        exact ⟨rfl, Below.refl _ _⟩
  · rw [digAns_no (fun h => hd h.1)]
    have h2 : (d != 2) = true := by simp; omega
    have h3 : (d != 3) = true := by simp; omega
    clear hd
    go_enter Try.func15, Try.ntmps15
    go_wp2
    go_ret2
    exact ⟨rfl, Below.refl _ _⟩

set_option maxHeartbeats 2000000 in
theorem digits_law (w : World) (d n k : Int) :
    Calls Try.prog 3 #[.int .i64 d, .int .i64 n, .int .i64 k] w fun e w' => e = .returned (.bool true) ∧ Below w.heap.size w w' := by
  have hs := hid (fun W => specDigits_any W d n k)
  have hp := hid (fun W => implDigits_any W d n k)
  have hcc : ((digAns d n k).2 != (digAns d n k).2) = false := by simp
  generalize (digAns d n k).1 = r at *
  generalize (digAns d n k).2 = c at *
  go_enter Try.func3, Try.ntmps3
  go_wp2_with (first
    | (go_at_call 15; (with_reducible refine (hs.out _).mono ?_); rintro e w1 ⟨rfl, hb⟩; have hB1 := hid hb; clear hb)
    | (go_at_call 16; (with_reducible refine (hp.out _).mono ?_); rintro e w2 ⟨rfl, hb⟩; have hB2 := hid (hB1.out.trans (hb.mono hB1.out.size)); clear hb hB1))
  go_ret
  exact ⟨rfl, hB2.out⟩
end Go.Proofs.Ytapbcfnlcnboeaa
