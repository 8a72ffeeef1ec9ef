/- Words and their numbers: wordOf, numberOf of the program and of the reference. -/
import Derived.Test.YthempofohidlnaaAct
import Derived.Deep.RegionWith
import Derived.IntWalk
namespace Go.Proofs.Ythempofohidlnaa
open Go.RowKit
set_option linter.unusedVariables false
set_option linter.unusedSimpArgs false

/-- The word of the length n with the number k, for d letters. -/
def wrd (d : Nat) : Nat → Nat → List Nat
  | 0, _ => []
  | n + 1, k => wrd d n (k / d) ++ [k % d]
/-- The number of a word. -/
def num (d : Nat) (u : List Nat) : Nat := u.foldl (fun n x => n * d + x) 0

theorem wrd_length (d : Nat) : ∀ n k, (wrd d n k).length = n
  | 0, _ => rfl
  | n + 1, k => by simp [wrd, wrd_length d n]
theorem wrd_lt (d : Nat) (hd : 0 < d) : ∀ n k, ∀ x ∈ wrd d n k, x < d
  | 0, _, x, h => by simp [wrd] at h
  | n + 1, k, x, h => by
    simp only [wrd, List.mem_append, List.mem_singleton] at h
    rcases h with h | rfl
    · exact wrd_lt d hd n _ x h
    · exact Nat.mod_lt _ hd
theorem num_snoc (d : Nat) (u : List Nat) (x : Nat) : num d (u ++ [x]) = num d u * d + x := by simp [num]
theorem num_wrd (d : Nat) (hd : 0 < d) : ∀ n k, k < pw d n → num d (wrd d n k) = k
  | 0, k, h => by simp only [pw] at h; simp [wrd, num]; omega
  | n + 1, k, h => by
    rw [wrd, num_snoc, num_wrd d hd n (k / d) (by rw [Nat.div_lt_iff_lt_mul hd]; exact h)]
    exact Nat.div_add_mod' k d
theorem num_lt (d : Nat) : ∀ (n : Nat) (u : List Nat), u.length = n → (∀ x ∈ u, x < d) → num d u < pw d n
  | 0, u, h, _ => by obtain rfl := List.eq_nil_of_length_eq_zero h; simp [num, pw]
  | n + 1, u, h, hu => by
    have hne : u ≠ [] := fun e => by rw [e] at h; simp at h
    obtain ⟨v, x, rfl⟩ : ∃ v x, u = v ++ [x] := ⟨u.dropLast, u.getLast hne, (List.dropLast_concat_getLast hne).symm⟩
    have hv := num_lt d n v (by simpa using h) (fun y hy => hu y (by simp [hy]))
    have hx := hu x (by simp)
    rw [num_snoc]
    show _ < pw d n * d
    calc num d v * d + x < num d v * d + d := by omega
      _ = (num d v + 1) * d := by rw [Nat.succ_mul]
      _ ≤ pw d n * d := Nat.mul_le_mul_right _ hv
theorem wrd_num (d : Nat) (hd : 0 < d) : ∀ (n : Nat) (u : List Nat), u.length = n → (∀ x ∈ u, x < d) → wrd d n (num d u) = u
  | 0, u, h, _ => by obtain rfl := List.eq_nil_of_length_eq_zero h; rfl
  | n + 1, u, h, hu => by
    have hne : u ≠ [] := fun e => by rw [e] at h; simp at h
    obtain ⟨v, x, rfl⟩ : ∃ v x, u = v ++ [x] := ⟨u.dropLast, u.getLast hne, (List.dropLast_concat_getLast hne).symm⟩
    have hx := hu x (by simp)
    have h1 : (num d v * d + x) / d = num d v := by
      rw [Nat.mul_comm, Nat.mul_add_div hd, Nat.div_eq_of_lt hx, Nat.add_zero]
    have h2 : (num d v * d + x) % d = x := by
      rw [Nat.mul_comm, Nat.mul_add_mod, Nat.mod_eq_of_lt hx]
    rw [num_snoc]
    show wrd d n ((num d v * d + x) / d) ++ [(num d v * d + x) % d] = v ++ [x]
    rw [h1, h2, wrd_num d hd n v (by simpa using h) (fun y hy => hu y (by simp [hy]))]

/-- The last j digits of a word stand, and before them zero bytes. -/
def dgsB (u : List Nat) (from' : Nat) (i : Nat) : Value := .int .u8 (if from' ≤ i ∧ i < u.length then 48 + u.getD i 0 else 0 : Nat)

/-- The number that is left after j digits. -/
def shr (d : Nat) (k : Nat) : Nat → Nat
  | 0 => k
  | j + 1 => shr d k j / d
theorem shr_le (d k : Nat) : ∀ j, shr d k j ≤ k
  | 0 => Nat.le_refl _
  | j + 1 => Nat.le_trans (Nat.div_le_self _ _) (shr_le d k j)
theorem shr_succ (d k : Nat) : ∀ j, shr d (k / d) j = shr d k (j + 1)
  | 0 => rfl
  | j + 1 => by rw [shr, shr_succ d k j]; rfl
theorem wrd_getD (d : Nat) : ∀ n k j, j < n → (wrd d n k).getD (n - 1 - j) 0 = shr d k j % d
  | 0, _, j, h => absurd h (by omega)
  | n + 1, k, 0, _ => by
    simp [wrd, shr, wrd_length, List.getD_eq_getElem?_getD]
  | n + 1, k, j + 1, h => by
    have := wrd_getD d n (k / d) j (by omega)
    rw [shr_succ] at this
    rw [← this, wrd, List.getD_eq_getElem?_getD, List.getD_eq_getElem?_getD, List.getElem?_append_left (by rw [wrd_length]; omega)]
    congr 2; omega

theorem shr_dgs (d n k c i : Nat) (hc : c < n) : (if i = c then Value.int .u8 (48 + ((shr d k (n - (c + 1)) % d : Nat) : Int)) else dgsB (wrd d n k) (c + 1) i) = dgsB (wrd d n k) c i := by
  unfold dgsB
  rw [wrd_length]
  by_cases h : i = c
  · subst h
    have := wrd_getD d n k (n - (i + 1)) (by omega)
    rw [show n - 1 - (n - (i + 1)) = i by omega] at this
    rw [if_pos rfl, if_pos (by omega), this]
    simp
  · rw [if_neg h]
    by_cases h2 : c + 1 ≤ i ∧ i < n
    · rw [if_pos h2, if_pos (by omega)]
    · rw [if_neg h2, if_neg (by omega)]
theorem dgsB_zero (u : List Nat) (i : Nat) : dgsB u 0 i = dgs u i := by simp [dgsB, dgs]

set_option maxHeartbeats 1000000 in
set_option maxRecDepth 100000 in
theorem wordOf_any (d n k : Nat) (hd : 0 < d) (h3 : d ≤ 3) (hn : n ≤ 40) (hk : k ≤ 1000000000) (w : World) :
    Calls Try.prog 97 #[.int .i64 d, .int .i64 n, .int .i64 k] w fun e w' => e = .returned (.string (wstr (wrd d n k))) ∧ Below w.heap.size w w' := by
  have hmk := fun W : World => run_make_row' (P := Try.prog) 120 5 (.int .u8 0) 1 Try.underlying120 info_u8 rfl .i64 .i64 n (by omega) (by omega) W
  have hmade := hid (World.rowIs_made w (.int .u8 0) n 5)
  have hB := hid (below_alloc (Below.refl w.heap.size w) (Nat.le_refl _) (.cells (madeCells #[.int .u8 0] n) 5))
  generalize hmc : madeCells #[.int .u8 0] n = mc at *
  clear hmc
  go_enter Try.func97, Try.ntmps97
  go_wp2
  clear hmk
  go_loopw [2, 8] (fun p i wr => ∃ c : Nat, c ≤ n ∧ i = .int .i64 ((c : Int) - 1) ∧ p = .int .i64 (shr d k (n - c) : Nat) ∧ wr.rowIs w.heap.size 5 n (dgsB (wrd d n k) c) ∧ Below w.heap.size w wr) (fun _ i _ => ((intOf i) + 1).toNat)
  case atStart =>
    refine ⟨n, Nat.le_refl _, by go_num, by rw [Nat.sub_self]; rfl, World.rowIs.congr hmade.out (fun i hi => ?_), hB.out⟩
    unfold dgsB
    rw [if_neg (by omega)]; rfl
  case round =>
    obtain ⟨c, hc, rfl, rfl, r1, rB⟩ := hrel
    clear hmade hB
    have hle := shr_le d k (n - c)
    replace r1 := hid r1; replace rB := hid rB
    cases c with
    | succ c =>
      have hst := hid (fun i => shr_dgs d n k c i hc)
      have hsd := hid (show shr d k (n - c) = shr d k (n - (c + 1)) / d by rw [show n - c = (n - (c + 1)) + 1 by omega]; rfl)
      have hmod := Nat.mod_lt (shr d k (n - (c + 1))) hd
      obtain ⟨vo, co⟩ : ∃ v, wr.cell? ⟨w.heap.size, c, none⟩ = some v := ⟨_, r1.out.cell (by omega)⟩
      have fo : wr.frozen? ⟨w.heap.size, c, none⟩ = false := r1.out.frozen _
      have hdv := Nat.div_le_self (shr d k (n - (c + 1))) d
      generalize hp : shr d k (n - (c + 1)) = p at *
      replace hp := hid hp
      have e0 : ((c + 1 : Nat) : Int) - 1 = c := by omega
      rw [e0]
      clear e0
      have d0 : ¬ (d : Int) = 0 := by omega
      have m1 : Int.tmod (p : Int) (d : Int) = ((p % d : Nat) : Int) := by rw [Int.tmod_eq_emod_of_nonneg (by omega)]; omega
      have m2 : Int.tdiv (p : Int) (d : Int) = ((p / d : Nat) : Int) := by rw [Int.tdiv_eq_ediv_of_nonneg (by omega)]; omega
      generalize p % d = r at *
      generalize hpd : p / d = q at *
      replace hpd := hid hpd
      go_wp2_with (first
        | (go_at_call 119; (with_reducible refine (letter_any r (by omega) _).mono ?_); rintro e w1 ⟨rfl, rfl⟩))
      go_roundw
      case rel =>
        exact ⟨c, by omega, rfl, by rw [hsd.out], World.rowIs.congr (World.rowIs.set r1.out c _) (fun i _ => hst.out i), rB.out.setCell (by simp) _⟩
      case measure => simp [intOf]
    | zero =>
      have hconv := conv_dgs (wrd_length d n k) (World.rowIs.congr r1.out (fun i hi => by rw [dgsB_zero]))
      go_wp2
      go_ret
      exact ⟨rfl, rB.out⟩

/-- A word's letters as the number grows, in range. -/
theorem num_step (d : Nat) (hd : 0 < d) (u : List Nat) (hu : ∀ x ∈ u, x < d) (hb : pw d u.length < 9223372036854775808) (k : Nat) (hk : k < u.length) :
    num d (u.take (k + 1)) = num d (u.take k) * d + u.getD k 0 ∧ num d (u.take k) * d + u.getD k 0 < 9223372036854775808 := by
  have h1 : num d (u.take (k + 1)) = num d (u.take k) * d + u.getD k 0 := by rw [take_snoc' u k hk, num_snoc]
  have h2 := num_lt d (k + 1) (u.take (k + 1)) (by rw [List.length_take]; omega) (fun x hx => hu x (List.mem_of_mem_take hx))
  have h3 := pw_le d hd (show k + 1 ≤ u.length by omega)
  exact ⟨h1, by omega⟩

set_option maxHeartbeats 1000000 in
set_option maxRecDepth 100000 in
theorem numberOf_any (d : Nat) (hd : 0 < d) (h3 : d ≤ 3) (u : List Nat) (hu : ∀ x ∈ u, x < d) (hb : pw d u.length < 9223372036854775808) (hlen : u.length ≤ 1000) (w : World) :
    Calls Try.prog 109 #[.int .i64 d, .string (wstr u)] w fun e w' => e = .returned (.int .i64 (num d u : Nat)) ∧ w = w' := by
  have hsz := wstr_size u
  have hbyte := hid (fun k hk => wstr_byte u k hk (fun x hx => by have := hu x hx; omega))
  have hst := hid (fun k hk => num_step d hd u hu hb k hk)
  have hmem := hid (fun k hk => hu _ (getD_mem u k hk))
  generalize hws : wstr u = ws at *
  clear hws hu hb
  go_enter Try.func109, Try.ntmps109
  go_wp2
  go_loop [5, 9] (fun p i => ∃ k : Nat, k ≤ u.length ∧ i = .int .i64 k ∧ p = .int .i64 (num d (u.take k) : Nat)) (fun _ i => u.length - (intOf i).toNat)
  case atStart => exact ⟨0, by omega, rfl, rfl⟩
  case round =>
    obtain ⟨k, hk, rfl, rfl⟩ := hrel
    by_cases hlt : k < u.length
    · have hby := hbyte.out k (by omega)
      have hx := hmem.out k hlt
      obtain ⟨hs1, hs2⟩ := hst.out k hlt
      generalize u.getD k 0 = x at *
      generalize num d (u.take k) = p at *
      replace hs1 := hid hs1
      have e1 : 48 + (x : Int) - 48 = x := by omega
      have e2 : (p : Int) * (d : Int) = ((p * d : Nat) : Int) := by simp
      have hpd : p * d < 9223372036854775808 := by omega
      generalize hpe : p * d = pd at *
      replace hpe := hid hpe
      go_wp2
      go_round
      case rel => exact ⟨k + 1, by omega, by go_num, by rw [hs1.out]; simp⟩
      case measure => simp [intOf]; omega
    · obtain rfl : k = u.length := by omega
      rw [List.take_length]
      go_wp2
      go_ret
      exact ⟨rfl, rfl⟩

set_option maxHeartbeats 1000000 in
set_option maxRecDepth 100000 in
theorem l01NumberOf_any (d : Nat) (hd : 0 < d) (h3 : d ≤ 3) (u : List Nat) (hu : ∀ x ∈ u, x < d) (hb : pw d u.length < 9223372036854775808) (hlen : u.length ≤ 1000) (w : World) :
    Calls Try.prog 102 #[.int .i64 d, .string (wstr u)] w fun e w' => e = .returned (.int .i64 (num d u : Nat)) ∧ w = w' := by
  have hsz := wstr_size u
  have hbyte := hid (fun k hk => wstr_byte u k hk (fun x hx => by have := hu x hx; omega))
  have hst := hid (fun k hk => num_step d hd u hu hb k hk)
  have hmem := hid (fun k hk => hu _ (getD_mem u k hk))
  generalize hws : wstr u = ws at *
  clear hws hu hb
  go_enter Try.func102, Try.ntmps102
  go_wp2
  go_loop [5, 6] (fun p i => ∃ k : Nat, k ≤ u.length ∧ i = .int .i64 k ∧ p = .int .i64 (num d (u.take k) : Nat)) (fun _ i => u.length - (intOf i).toNat)
  case atStart => exact ⟨0, by omega, rfl, rfl⟩
  case round =>
    obtain ⟨k, hk, rfl, rfl⟩ := hrel
    by_cases hlt : k < u.length
    · have hby := hbyte.out k (by omega)
      have hx := hmem.out k hlt
      obtain ⟨hs1, hs2⟩ := hst.out k hlt
      generalize u.getD k 0 = x at *
      generalize num d (u.take k) = p at *
      replace hs1 := hid hs1
      have e1 : 48 + (x : Int) - 48 = x := by omega
      have e2 : (p : Int) * (d : Int) = ((p * d : Nat) : Int) := by simp
      have hpd : p * d < 9223372036854775808 := by omega
      generalize hpe : p * d = pd at *
      replace hpe := hid hpe
      go_wp2
      go_round
      case rel => exact ⟨k + 1, by omega, by go_num, by rw [hs1.out]; simp⟩
      case measure => simp [intOf]; omega
    · obtain rfl : k = u.length := by omega
      rw [List.take_length]
      go_wp2
      go_ret
      exact ⟨rfl, rfl⟩

theorem wstr_append (u v : List Nat) : wstr (u ++ v) = wstr u ++ wstr v := by
  simp [wstr, strOfNums, ByteArray.ext_iff]
theorem conv1 (b : Nat) (W : World) (r : Nat) (hc : W.cell? ⟨b, 0, none⟩ = some (.int .u8 (48 + (r : Int)))) :
    (convert 120 9 (.slice (some ⟨b, 0, none⟩) 1 1)).run Try.prog W = .ok (.string (wstr [r])) W := by
  refine run_convert_bytes_arg W 120 5 Try.underlying120 Try.underlying5 b 0 1 1 [48 + (r : Int)] (by simp) (fun i hi => ?_) 9 Try.underlying9
  obtain rfl : i = 0 := by simpa using hi
  rw [hc]; rfl

theorem fin1 {w w1 : World} (hb : Below w.drew.heap.size w.drew w1) (o : Obj) : Below w.heap.size w (w1.alloc o) :=
  Below.alloc (w := w1) (show Below w.heap.size w w1 from Below.trans (Below.drew (Below.refl w.heap.size w)) hb) hb.size o
theorem fin2 {w w1 : World} {o : Obj} (hb : Below (w.alloc o).drew.heap.size (w.alloc o).drew w1) : Below w.heap.size w w1 :=
  (below_alloc (Below.refl w.heap.size w) (Nat.le_refl _) o).drew.trans (hb.mono (by rw [show (w.alloc o).drew.heap.size = (w.alloc o).heap.size from rfl, heap_alloc_size]; omega))

set_option maxHeartbeats 2000000 in
set_option maxRecDepth 100000 in
theorem l01WordOf_any (d : Nat) (hd : 0 < d) (h3 : d ≤ 3) : ∀ (n k : Nat) (_ : n ≤ 40) (_ : k ≤ 1000000000) (w : World),
    Calls Try.prog 51 #[.int .i64 d, .int .i64 n, .int .i64 k] w fun e w' => e = .returned (.string (wstr (wrd d n k))) ∧ Below w.heap.size w w'
  | 0, k, hn, hk, w => by
    have hw := hid (show wstr (wrd d 0 k) = ByteArray.empty by rfl)
    have hw' := hid (show ByteArray.empty = ({ data := #[] } : ByteArray) by rfl)
    rw [hw.out, hw'.out]
    go_enter Try.func51, Try.ntmps51
    go_wp2
    go_ret
    exact ⟨rfl, Below.refl _ _⟩
  | n + 1, k, hn, hk, w => by
    have hdv := Nat.div_le_self k d
    have ih := hid (fun W => l01WordOf_any d hd h3 n (k / d) (by omega) (by omega) W)
    have hmod := Nat.mod_lt k hd
    have hw := hid (show wrd d (n + 1) k = wrd d n (k / d) ++ [k % d] from rfl)
    have d0 : ¬ (d : Int) = 0 := by omega
    have m1 : Int.tmod (k : Int) (d : Int) = ((k % d : Nat) : Int) := by rw [Int.tmod_eq_emod_of_nonneg (by omega)]; omega
    have m2 : Int.tdiv (k : Int) (d : Int) = ((k / d : Nat) : Int) := by rw [Int.tdiv_eq_ediv_of_nonneg (by omega)]; omega
    generalize hr : k % d = r at *
    generalize hpd : k / d = q at *
    replace hpd := hid hpd; replace hr := hid hr
    go_enter Try.func51, Try.ntmps51
    have e1 : ((n + 1 : Nat) : Int) - 1 = n := by omega
    have s1 : IntKind.i64.wrap (((n + 1 : Nat) : Int) - 1) = n := by rw [e1]; exact IntWalk.i64_in _ (by omega)
    have s4 : IntKind.i64.wrap (q : Int) = q := IntWalk.i64_in _ (by omega)
    have s2 : IntKind.i64.wrap (48 + (r : Int)) = 48 + r := IntWalk.i64_in _ (by omega)
    have s3 : IntKind.u8.wrap (48 + (r : Int)) = 48 + r := IntWalk.u8_in _ (by omega)
    have hcv := fun (b : Nat) (W : World) (hc : W.cell? ⟨b, 0, none⟩ = some (.int .u8 (48 + (r : Int)))) => conv1 b W r hc
    have hz1 : (wstr (wrd d n q)).size = n := by rw [wstr_size, wrd_length]
    have hz2 : (wstr [r]).size = 1 := by rw [wstr_size]; rfl
    have hz3 : (wstr (wrd d n q) ++ wstr [r]).size = n + 1 := by rw [ByteArray.size_append, hz1, hz2]
    replace hw := hid (show wstr (wrd d (n + 1) k) = wstr (wrd d n q) ++ wstr [r] by rw [hw.out, wstr_append])
    generalize wstr (wrd d (n + 1) k) = res at *
    generalize wstr (wrd d n q) = res1 at *
    generalize wstr [r] = res2 at *
    go_upto_region 3 with (fail)
    go_region_with (go_at_call 51; (with_reducible refine (ih.out _).mono ?_); rintro e w1 ⟨rfl, hb⟩; (have hc1 := fun h => hb.cell (p := ⟨w.heap.size, 0, none⟩) h; simp at hc1))
    all_goals (go_wp2; go_ret; refine ⟨by rw [hw.out]; rfl, ?_⟩; first | exact fin1 hb _ | exact fin2 hb)
end Go.Proofs.Ythempofohidlnaa
