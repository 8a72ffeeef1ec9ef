/- What the proof of FnDuals leans on, part 9 of 26. -/
import Derived.Test.YtbmkkaecfogmoaaZFnDualsH
import Derived.Deep.RegionWith
import Derived.IntWalk
import Derived.Deep.RegionHeld3
import Derived.Deep.MidRow
import Derived.BigQuiet
import Derived.Laws.OwnMore
/- Words and their numbers: wordOf, numberOf of the program and of the reference. -/
namespace Go.Proofs.Ytbmkkaecfogmoaa
open Go.RowKit
set_option linter.unusedVariables false
set_option linter.unusedSimpArgs false

/-- The word of the length n with the number k, for d letters. -/
def wrd (d : Nat) : Nat → Nat → List Nat
  | 0, _ => []
  | n + 1, k => wrd d n (k / d) ++ [k % d]
/-- The number of a word. -/
def num (d : Nat) (u : List Nat) : Nat := u.foldl (fun n x => n * d + x) 0

theorem wrd_length (d : Nat) : ∀ n k, (wrd d n k).length = n
  | 0, _ => rfl
  | n + 1, k => by simp [wrd, wrd_length d n]
theorem wrd_lt (d : Nat) (hd : 0 < d) : ∀ n k, ∀ x ∈ wrd d n k, x < d
  | 0, _, x, h => by simp [wrd] at h
  | n + 1, k, x, h => by
    simp only [wrd, List.mem_append, List.mem_singleton] at h
    rcases h with h | rfl
    · exact wrd_lt d hd n _ x h
    · exact Nat.mod_lt _ hd
theorem num_snoc (d : Nat) (u : List Nat) (x : Nat) : num d (u ++ [x]) = num d u * d + x := by simp [num]
theorem num_wrd (d : Nat) (hd : 0 < d) : ∀ n k, k < pw d n → num d (wrd d n k) = k
  | 0, k, h => by simp only [pw] at h; simp [wrd, num]; omega
  | n + 1, k, h => by
    rw [wrd, num_snoc, num_wrd d hd n (k / d) (by rw [Nat.div_lt_iff_lt_mul hd]; exact h)]
    exact Nat.div_add_mod' k d
theorem num_lt (d : Nat) : ∀ (n : Nat) (u : List Nat), u.length = n → (∀ x ∈ u, x < d) → num d u < pw d n
  | 0, u, h, _ => by obtain rfl := List.eq_nil_of_length_eq_zero h; simp [num, pw]
  | n + 1, u, h, hu => by
    have hne : u ≠ [] := fun e => by rw [e] at h; simp at h
    obtain ⟨v, x, rfl⟩ : ∃ v x, u = v ++ [x] := ⟨u.dropLast, u.getLast hne, (List.dropLast_concat_getLast hne).symm⟩
    have hv := num_lt d n v (by simpa using h) (fun y hy => hu y (by simp [hy]))
    have hx := hu x (by simp)
    rw [num_snoc]
    show _ < pw d n * d
    calc num d v * d + x < num d v * d + d := by omega
      _ = (num d v + 1) * d := by rw [Nat.succ_mul]
      _ ≤ pw d n * d := Nat.mul_le_mul_right _ hv
theorem wrd_num (d : Nat) (hd : 0 < d) : ∀ (n : Nat) (u : List Nat), u.length = n → (∀ x ∈ u, x < d) → wrd d n (num d u) = u
  | 0, u, h, _ => by obtain rfl := List.eq_nil_of_length_eq_zero h; rfl
  | n + 1, u, h, hu => by
    have hne : u ≠ [] := fun e => by rw [e] at h; simp at h
    obtain ⟨v, x, rfl⟩ : ∃ v x, u = v ++ [x] := ⟨u.dropLast, u.getLast hne, (List.dropLast_concat_getLast hne).symm⟩
    have hx := hu x (by simp)
    have h1 : (num d v * d + x) / d = num d v := by
      rw [Nat.mul_comm, Nat.mul_add_div hd, Nat.div_eq_of_lt hx, Nat.add_zero]
    have h2 : (num d v * d + x) % d = x := by
      rw [Nat.mul_comm, Nat.mul_add_mod, Nat.mod_eq_of_lt hx]
    rw [num_snoc]
    show wrd d n ((num d v * d + x) / d) ++ [(num d v * d + x) % d] = v ++ [x]
    rw [h1, h2, wrd_num d hd n v (by simpa using h) (fun y hy => hu y (by simp [hy]))]

/-- The last j digits of a word stand, and before them zero bytes. -/
def dgsB (u : List Nat) (from' : Nat) (i : Nat) : Value := .int .u8 (if from' ≤ i ∧ i < u.length then 48 + u.getD i 0 else 0 : Nat)

/-- The number that is left after j digits. -/
def shr (d : Nat) (k : Nat) : Nat → Nat
  | 0 => k
  | j + 1 => shr d k j / d
theorem shr_le (d k : Nat) : ∀ j, shr d k j ≤ k
  | 0 => Nat.le_refl _
  | j + 1 => Nat.le_trans (Nat.div_le_self _ _) (shr_le d k j)
theorem shr_succ (d k : Nat) : ∀ j, shr d (k / d) j = shr d k (j + 1)
  | 0 => rfl
  | j + 1 => by rw [shr, shr_succ d k j]; rfl
theorem wrd_getD (d : Nat) : ∀ n k j, j < n → (wrd d n k).getD (n - 1 - j) 0 = shr d k j % d
  | 0, _, j, h => absurd h (by omega)
  | n + 1, k, 0, _ => by
    simp [wrd, shr, wrd_length, List.getD_eq_getElem?_getD]
  | n + 1, k, j + 1, h => by
    have := wrd_getD d n (k / d) j (by omega)
    rw [shr_succ] at this
    rw [← this, wrd, List.getD_eq_getElem?_getD, List.getD_eq_getElem?_getD, List.getElem?_append_left (by rw [wrd_length]; omega)]
    congr 2; omega

theorem shr_dgs (d n k c i : Nat) (hc : c < n) : (if i = c then Value.int .u8 (48 + ((shr d k (n - (c + 1)) % d : Nat) : Int)) else dgsB (wrd d n k) (c + 1) i) = dgsB (wrd d n k) c i := by
  unfold dgsB
  rw [wrd_length]
  by_cases h : i = c
  · subst h
    have := wrd_getD d n k (n - (i + 1)) (by omega)
    rw [show n - 1 - (n - (i + 1)) = i by omega] at this
    rw [if_pos rfl, if_pos (by omega), this]
    simp
  · rw [if_neg h]
    by_cases h2 : c + 1 ≤ i ∧ i < n
    · rw [if_pos h2, if_pos (by omega)]
    · rw [if_neg h2, if_neg (by omega)]
theorem dgsB_zero (u : List Nat) (i : Nat) : dgsB u 0 i = dgs u i := by simp [dgsB, dgs]

set_option maxHeartbeats 1000000 in
set_option maxRecDepth 100000 in
theorem wordOf_any (d n k : Nat) (hd : 0 < d) (h3 : d ≤ 3) (hn : n ≤ 40) (hk : k ≤ 1000000000) (w : World) :
    Calls Try.prog 243 #[.int .i64 d, .int .i64 n, .int .i64 k] w fun e w' => e = .returned (.string (wstr (wrd d n k))) ∧ Below w.heap.size w w' := by
  have hmk := fun W : World => run_make_row' (P := Try.prog) 22 5 (.int .u8 0) 1 Try.underlying22 info_u8 rfl .i64 .i64 n (by omega) (by omega) W
  have hmade := hid (World.rowIs_made w (.int .u8 0) n 5)
  have hB := hid (below_alloc (Below.refl w.heap.size w) (Nat.le_refl _) (.cells (madeCells #[.int .u8 0] n) 5))
  generalize hmc : madeCells #[.int .u8 0] n = mc at *
  clear hmc
  go_enter Try.func243, Try.ntmps243
  go_wp2
  clear hmk
  go_loopw [2, 8] (fun p i wr => ∃ c : Nat, c ≤ n ∧ i = .int .i64 ((c : Int) - 1) ∧ p = .int .i64 (shr d k (n - c) : Nat) ∧ wr.rowIs w.heap.size 5 n (dgsB (wrd d n k) c) ∧ Below w.heap.size w wr) (fun _ i _ => ((intOf i) + 1).toNat)
  case atStart =>
    refine ⟨n, Nat.le_refl _, by go_num, by rw [Nat.sub_self]; rfl, World.rowIs.congr hmade.out (fun i hi => ?_), hB.out⟩
    unfold dgsB
    rw [if_neg (by omega)]; rfl
  case round =>
    obtain ⟨c, hc, rfl, rfl, r1, rB⟩ := hrel
    clear hmade hB
    have hle := shr_le d k (n - c)
    replace r1 := hid r1; replace rB := hid rB
    cases c with
    | succ c =>
      have hst := hid (fun i => shr_dgs d n k c i hc)
      have hsd := hid (show shr d k (n - c) = shr d k (n - (c + 1)) / d by rw [show n - c = (n - (c + 1)) + 1 by omega]; rfl)
      have hmod := Nat.mod_lt (shr d k (n - (c + 1))) hd
      obtain ⟨vo, co⟩ : ∃ v, wr.cell? ⟨w.heap.size, c, none⟩ = some v := ⟨_, r1.out.cell (by omega)⟩
      have fo : wr.frozen? ⟨w.heap.size, c, none⟩ = false := r1.out.frozen _
      have hdv := Nat.div_le_self (shr d k (n - (c + 1))) d
      generalize hp : shr d k (n - (c + 1)) = p at *
      replace hp := hid hp
      have e0 : ((c + 1 : Nat) : Int) - 1 = c := by omega
      rw [e0]
      clear e0
      have d0 : ¬ (d : Int) = 0 := by omega
      have m1 : Int.tmod (p : Int) (d : Int) = ((p % d : Nat) : Int) := by rw [Int.tmod_eq_emod_of_nonneg (by omega)]; omega
      have m2 : Int.tdiv (p : Int) (d : Int) = ((p / d : Nat) : Int) := by rw [Int.tdiv_eq_ediv_of_nonneg (by omega)]; omega
      generalize p % d = r at *
      generalize hpd : p / d = q at *
      replace hpd := hid hpd
      go_wp2_with (first
        | (go_at_call 189; (with_reducible refine (letter_any r (by omega) _).mono ?_); rintro e w1 ⟨rfl, rfl⟩))
      go_roundw
      case rel =>
        exact ⟨c, by omega, rfl, by rw [hsd.out], World.rowIs.congr (World.rowIs.set r1.out c _) (fun i _ => hst.out i), rB.out.setCell (by simp) _⟩
      case measure => simp [intOf]
    | zero =>
      have hconv := conv_dgs (wrd_length d n k) (World.rowIs.congr r1.out (fun i hi => by rw [dgsB_zero]))
      go_wp2
      go_ret
      exact ⟨rfl, rB.out⟩

/-- A word's letters as the number grows, in range. -/
theorem num_step (d : Nat) (hd : 0 < d) (u : List Nat) (hu : ∀ x ∈ u, x < d) (hb : pw d u.length < 9223372036854775808) (k : Nat) (hk : k < u.length) :
    num d (u.take (k + 1)) = num d (u.take k) * d + u.getD k 0 ∧ num d (u.take k) * d + u.getD k 0 < 9223372036854775808 := by
  have h1 : num d (u.take (k + 1)) = num d (u.take k) * d + u.getD k 0 := by rw [take_snoc' u k hk, num_snoc]
  have h2 := num_lt d (k + 1) (u.take (k + 1)) (by rw [List.length_take]; omega) (fun x hx => hu x (List.mem_of_mem_take hx))
  have h3 := pw_le d hd (show k + 1 ≤ u.length by omega)
  exact ⟨h1, by omega⟩

set_option maxHeartbeats 1000000 in
set_option maxRecDepth 100000 in
theorem numberOf_any (d : Nat) (hd : 0 < d) (h3 : d ≤ 3) (u : List Nat) (hu : ∀ x ∈ u, x < d) (hb : pw d u.length < 9223372036854775808) (hlen : u.length ≤ 1000) (w : World) :
    Calls Try.prog 211 #[.int .i64 d, .string (wstr u)] w fun e w' => e = .returned (.int .i64 (num d u : Nat)) ∧ w = w' := by
  have hsz := wstr_size u
  have hbyte := hid (fun k hk => wstr_byte u k hk (fun x hx => by have := hu x hx; omega))
  have hst := hid (fun k hk => num_step d hd u hu hb k hk)
  have hmem := hid (fun k hk => hu _ (getD_mem u k hk))
  generalize hws : wstr u = ws at *
  clear hws hu hb
  go_enter Try.func211, Try.ntmps211
  go_wp2
  go_loop [5, 9] (fun p i => ∃ k : Nat, k ≤ u.length ∧ i = .int .i64 k ∧ p = .int .i64 (num d (u.take k) : Nat)) (fun _ i => u.length - (intOf i).toNat)
  case atStart => exact ⟨0, by omega, rfl, rfl⟩
  case round =>
    obtain ⟨k, hk, rfl, rfl⟩ := hrel
    by_cases hlt : k < u.length
    · have hby := hbyte.out k (by omega)
      have hx := hmem.out k hlt
      obtain ⟨hs1, hs2⟩ := hst.out k hlt
      generalize u.getD k 0 = x at *
      generalize num d (u.take k) = p at *
      replace hs1 := hid hs1
      have e1 : 48 + (x : Int) - 48 = x := by omega
      have e2 : (p : Int) * (d : Int) = ((p * d : Nat) : Int) := by simp
      have hpd : p * d < 9223372036854775808 := by omega
      generalize hpe : p * d = pd at *
      replace hpe := hid hpe
      go_wp2
      go_round
      case rel => exact ⟨k + 1, by omega, by go_num, by rw [hs1.out]; simp⟩
      case measure => simp [intOf]; omega
    · obtain rfl : k = u.length := by omega
      rw [List.take_length]
      go_wp2
      go_ret
      exact ⟨rfl, rfl⟩

set_option maxHeartbeats 1000000 in
set_option maxRecDepth 100000 in
theorem l01NumberOf_any (d : Nat) (hd : 0 < d) (h3 : d ≤ 3) (u : List Nat) (hu : ∀ x ∈ u, x < d) (hb : pw d u.length < 9223372036854775808) (hlen : u.length ≤ 1000) (w : World) :
    Calls Try.prog 220 #[.int .i64 d, .string (wstr u)] w fun e w' => e = .returned (.int .i64 (num d u : Nat)) ∧ w = w' := by
  have hsz := wstr_size u
  have hbyte := hid (fun k hk => wstr_byte u k hk (fun x hx => by have := hu x hx; omega))
  have hst := hid (fun k hk => num_step d hd u hu hb k hk)
  have hmem := hid (fun k hk => hu _ (getD_mem u k hk))
  generalize hws : wstr u = ws at *
  clear hws hu hb
  go_enter Try.func220, Try.ntmps220
  go_wp2
  go_loop [5, 6] (fun p i => ∃ k : Nat, k ≤ u.length ∧ i = .int .i64 k ∧ p = .int .i64 (num d (u.take k) : Nat)) (fun _ i => u.length - (intOf i).toNat)
  case atStart => exact ⟨0, by omega, rfl, rfl⟩
  case round =>
    obtain ⟨k, hk, rfl, rfl⟩ := hrel
    by_cases hlt : k < u.length
    · have hby := hbyte.out k (by omega)
      have hx := hmem.out k hlt
      obtain ⟨hs1, hs2⟩ := hst.out k hlt
      generalize u.getD k 0 = x at *
      generalize num d (u.take k) = p at *
      replace hs1 := hid hs1
      have e1 : 48 + (x : Int) - 48 = x := by omega
      have e2 : (p : Int) * (d : Int) = ((p * d : Nat) : Int) := by simp
      have hpd : p * d < 9223372036854775808 := by omega
      generalize hpe : p * d = pd at *
      replace hpe := hid hpe
      go_wp2
      go_round
      case rel => exact ⟨k + 1, by omega, by go_num, by rw [hs1.out]; simp⟩
      case measure => simp [intOf]; omega
    · obtain rfl : k = u.length := by omega
      rw [List.take_length]
      go_wp2
      go_ret
      exact ⟨rfl, rfl⟩

theorem wstr_append (u v : List Nat) : wstr (u ++ v) = wstr u ++ wstr v := by
  simp [wstr, strOfNums, ByteArray.ext_iff]
theorem conv1 (b : Nat) (W : World) (r : Nat) (hc : W.cell? ⟨b, 0, none⟩ = some (.int .u8 (48 + (r : Int)))) :
    (convert 22 9 (.slice (some ⟨b, 0, none⟩) 1 1)).run Try.prog W = .ok (.string (wstr [r])) W := by
  refine run_convert_bytes_arg W 22 5 Try.underlying22 Try.underlying5 b 0 1 1 [48 + (r : Int)] (by simp) (fun i hi => ?_) 9 Try.underlying9
  obtain rfl : i = 0 := by simpa using hi
  rw [hc]; rfl

theorem fin1 {w w1 : World} (hb : Below w.drew.heap.size w.drew w1) (o : Obj) : Below w.heap.size w (w1.alloc o) :=
  Below.alloc (w := w1) (show Below w.heap.size w w1 from Below.trans (Below.drew (Below.refl w.heap.size w)) hb) hb.size o
theorem fin2 {w w1 : World} {o : Obj} (hb : Below (w.alloc o).drew.heap.size (w.alloc o).drew w1) : Below w.heap.size w w1 :=
  (below_alloc (Below.refl w.heap.size w) (Nat.le_refl _) o).drew.trans (hb.mono (by rw [show (w.alloc o).drew.heap.size = (w.alloc o).heap.size from rfl, heap_alloc_size]; omega))

set_option maxHeartbeats 2000000 in
set_option maxRecDepth 100000 in
theorem l01WordOf_any (d : Nat) (hd : 0 < d) (h3 : d ≤ 3) : ∀ (n k : Nat) (_ : n ≤ 40) (_ : k ≤ 1000000000) (w : World),
    Calls Try.prog 215 #[.int .i64 d, .int .i64 n, .int .i64 k] w fun e w' => e = .returned (.string (wstr (wrd d n k))) ∧ Below w.heap.size w w'
  | 0, k, hn, hk, w => by
    have hw := hid (show wstr (wrd d 0 k) = ByteArray.empty by rfl)
    have hw' := hid (show ByteArray.empty = ({ data := #[] } : ByteArray) by rfl)
    rw [hw.out, hw'.out]
    go_enter Try.func215, Try.ntmps215
    go_wp2
    go_ret
    exact ⟨rfl, Below.refl _ _⟩
  | n + 1, k, hn, hk, w => by
    have hdv := Nat.div_le_self k d
    have ih := hid (fun W => l01WordOf_any d hd h3 n (k / d) (by omega) (by omega) W)
    have hmod := Nat.mod_lt k hd
    have hw := hid (show wrd d (n + 1) k = wrd d n (k / d) ++ [k % d] from rfl)
    have d0 : ¬ (d : Int) = 0 := by omega
    have m1 : Int.tmod (k : Int) (d : Int) = ((k % d : Nat) : Int) := by rw [Int.tmod_eq_emod_of_nonneg (by omega)]; omega
    have m2 : Int.tdiv (k : Int) (d : Int) = ((k / d : Nat) : Int) := by rw [Int.tdiv_eq_ediv_of_nonneg (by omega)]; omega
    generalize hr : k % d = r at *
    generalize hpd : k / d = q at *
    replace hpd := hid hpd; replace hr := hid hr
    go_enter Try.func215, Try.ntmps215
    have e1 : ((n + 1 : Nat) : Int) - 1 = n := by omega
    have s1 : IntKind.i64.wrap (((n + 1 : Nat) : Int) - 1) = n := by rw [e1]; exact IntWalk.i64_in _ (by omega)
    have s4 : IntKind.i64.wrap (q : Int) = q := IntWalk.i64_in _ (by omega)
    have s2 : IntKind.i64.wrap (48 + (r : Int)) = 48 + r := IntWalk.i64_in _ (by omega)
    have s3 : IntKind.u8.wrap (48 + (r : Int)) = 48 + r := IntWalk.u8_in _ (by omega)
    have hcv := fun (b : Nat) (W : World) (hc : W.cell? ⟨b, 0, none⟩ = some (.int .u8 (48 + (r : Int)))) => conv1 b W r hc
    have hz1 : (wstr (wrd d n q)).size = n := by rw [wstr_size, wrd_length]
    have hz2 : (wstr [r]).size = 1 := by rw [wstr_size]; rfl
    have hz3 : (wstr (wrd d n q) ++ wstr [r]).size = n + 1 := by rw [ByteArray.size_append, hz1, hz2]
    replace hw := hid (show wstr (wrd d (n + 1) k) = wstr (wrd d n q) ++ wstr [r] by rw [hw.out, wstr_append])
    generalize wstr (wrd d (n + 1) k) = res at *
    generalize wstr (wrd d n q) = res1 at *
    generalize wstr [r] = res2 at *
    go_upto_region 3 with (fail)
    go_region_with (go_at_call 215; (with_reducible refine (ih.out _).mono ?_); rintro e w1 ⟨rfl, hb⟩; (have hc1 := fun h => hb.cell (p := ⟨w.heap.size, 0, none⟩) h; simp at hc1))
    all_goals (go_wp2; go_ret; refine ⟨by rw [hw.out]; rfl, ?_⟩; first | exact fin1 hb _ | exact fin2 hb)
end Go.Proofs.Ytbmkkaecfogmoaa

/- Levels: the words of a level, and what a state makes of them. -/
namespace Go.Proofs.Ytbmkkaecfogmoaa
open Go.RowKit
set_option linter.unusedVariables false
set_option linter.unusedSimpArgs false

/-- Numbers as the cells of a slice. -/
def ints (l : List Int) : List Value := l.map (Value.int .i64)
def nats (l : List Nat) : List Value := l.map fun x : Nat => .int .i64 (x : Int)
theorem ints_length (l : List Int) : (ints l).length = l.length := by simp [ints]
theorem nats_length (l : List Nat) : (nats l).length = l.length := by simp [nats]
theorem ints_snoc (l : List Int) (x : Int) : ints (l ++ [x]) = ints l ++ [.int .i64 x] := by simp [ints]
theorem nats_snoc (l : List Nat) (x : Nat) : nats (l ++ [x]) = nats l ++ [.int .i64 (x : Int)] := by simp [nats]
theorem nats_ints (l : List Nat) : nats l = ints (l.map Int.ofNat) := by simp [nats, ints]
theorem info_i64 : (Try.prog.info? 2).map (fun i => (i.zero, i.size, i.bytes)) = some (some (.int .i64 0), 1, 8) := by kernel_rfl

/-- What a state makes of a level: the numbers of the words to which it leads the words. -/
def perm (m : Mach) (d q n : Nat) : List Nat := (List.range (pw d n)).map fun k => num d (img m q (wrd d n k))
theorem perm_length (m : Mach) (d q n : Nat) : (perm m d q n).length = pw d n := by simp [perm]

/-- The words of a level. -/
def lvl (d n k : Nat) : List Value := (List.range k).map fun i => .string (wstr (wrd d n i))
theorem lvl_snoc (d n k : Nat) : lvl d n (k + 1) = lvl d n k ++ [.string (wstr (wrd d n k))] := by simp [lvl, List.range_succ]
theorem lvl_length (d n k : Nat) : (lvl d n k).length = k := by simp [lvl]
theorem lvl_get (d n k i : Nat) (h : i < k) : (lvl d n k)[i]? = some (.string (wstr (wrd d n i))) := by simp [lvl, h]
/-- A level of a state, in part. -/
def rng (f : Nat → Nat) (k : Nat) : List Value := nats ((List.range k).map f)
theorem rng_snoc (f : Nat → Nat) (k : Nat) : rng f (k + 1) = rng f k ++ [.int .i64 ((f k : Nat) : Int)] := by simp [rng, nats, List.range_succ]
theorem rng_length (f : Nat → Nat) (k : Nat) : (rng f k).length = k := by simp [rng, nats]

theorem info_str : (Try.prog.info? 9).map (fun i => (i.zero, i.size, i.bytes)) = some (some (.string { data := #[] }), 1, 16) := by kernel_rfl
set_option maxHeartbeats 1000000 in
set_option maxRecDepth 100000 in
theorem level_any (d n : Nat) (hd : 0 < d) (h3 : d ≤ 3) (hn : n ≤ 40) (hb : pw d n ≤ 100000) (w : World) :
    Calls Try.prog 213 #[.int .i64 d, .int .i64 n] w fun e w' => ∃ v, e = .returned v ∧ Own w' w.heap.size 9 v (lvl d n (pw d n)) ∧ Below w.heap.size w w' := by
  have hp := hid (fun W => power_any d n hd (by omega) (by omega) W)
  have hw := hid (fun k hk W => wordOf_any d n k hd h3 hn hk W)
  generalize pw d n = M at *
  go_enter Try.func213, Try.ntmps213
  go_wp2_with (first
    | (go_at_call 176; (with_reducible refine (hp.out _).mono ?_); rintro e w1 ⟨rfl, rfl⟩))
  go_loopw [5, 10] (fun v i wr => ∃ k : Nat, k ≤ M ∧ i = .int .i64 k ∧ Own wr w.heap.size 9 v (lvl d n k) ∧ Below w.heap.size w wr) (fun _ i _ => M - (intOf i).toNat)
  case atStart => exact ⟨0, Nat.zero_le _, rfl, Own.nil _ _ _, Below.refl _ _⟩
  case round =>
    obtain ⟨k, hk, rfl, r1, rB⟩ := hrel
    have hll := hid (lvl_length d n k)
    replace r1 := hid r1; replace rB := hid rB
    by_cases hlt : k < M
    · have dk : decide ((k : Int) < (M : Int)) = true := decide_eq_true (by omega)
      have hsn := hid (lvl_snoc d n k)
      go_wp2_with (first
        | (go_at_call 243; (with_reducible refine (hw.out k (by omega) _).mono ?_); rintro e w1 ⟨rfl, hb1⟩; replace r1 := hid (r1.out.below hb1); replace rB := hid (rB.out.trans (hb1.mono rB.out.size)); clear hb1)
        | ((with_reducible refine gate (N := 19) rfl ?_); refine app1 211 9 (.string { data := #[] }) 16 Try.underlying211 info_str rfl (by omega) rfl _ _ rfl w.heap.size _ _ rfl r1.out rB.out.size _ rfl rfl (by have := hll.out; omega) ?_; intro gn cap w2 hO2 hb2 hold hsz2 _; replace hO2 := hid hO2; have tB := hid (rB.out.trans hb2); clear hb2 hold hsz2 r1 rB))
      go_roundw
      case rel => exact ⟨k + 1, by omega, by go_num, by rw [hsn.out]; exact hO2.out, tB.out⟩
      case measure => simp [intOf]; omega
    · obtain rfl : k = M := by omega
      go_wp2
      go_ret
      exact ⟨_, rfl, r1.out, rB.out⟩

set_option maxHeartbeats 2000000 in
set_option maxRecDepth 100000 in
theorem permutation_any (d n : Nat) (hd : 0 < d) (h3 : d ≤ 3) (hn : n ≤ 40) (hb : pw d n ≤ 100000) (w : World) (c1 c2 : Value) (F : List Nat → List Nat)
    (hF : ∀ u, u.length = n → (∀ x ∈ u, x < d) → (F u).length = n ∧ ∀ x ∈ F u, x < d)
    (hf : ∀ W, Below w.heap.size w W → ∀ u, u.length = n → (∀ x ∈ u, x < d) → Calls Try.prog 241 #[.string (wstr u), c1, c2] W fun e W' => e = .returned (.string (wstr (F u))) ∧ Below W.heap.size W W') :
    Calls Try.prog 115 #[.int .i64 d, .int .i64 n, .func (.func 241) #[] #[c1, c2]] w fun e w' => ∃ v, e = .returned v ∧ Own w' w.heap.size 2 v (rng (fun k => num d (F (wrd d n k))) (pw d n)) ∧ Below w.heap.size w w' := by
  have hl := hid (level_any d n hd h3 hn hb w)
  have hpos := pw_pos d hd n
  have hwl := hid (fun k => wrd_length d n k)
  have hwm := hid (fun k => wrd_lt d hd n k)
  have hFo := hid (fun k => hF (wrd d n k) (wrd_length d n k) (wrd_lt d hd n k))
  have hnum := hid (fun k W => numberOf_any d hd h3 (F (wrd d n k)) (hFo.out k).2 (by rw [(hFo.out k).1]; omega) (by rw [(hFo.out k).1]; omega) W)
  replace hf := hid hf
  clear hF
  generalize hM : pw d n = M at *
  go_enter Try.func115, Try.ntmps115
  go_wp2_with (first
    | (go_at_call 213; (with_reducible refine (hl.out).mono ?_); rintro e w1 ⟨v, rfl, hO, hB⟩; obtain ⟨g, cap, rfl, hg1, hg2⟩ := hO.blk (fun e => by have := lvl_length d n M; rw [e] at this; simp at this; omega); have hll := lvl_length d n M; rw [hll] at hO; rw [hll]; clear hll; replace hO := hid hO; replace hB := hid hB; clear hl))
  go_loopw [7, 14] (fun v i wr => ∃ k : Nat, k ≤ M ∧ i = .int .i64 k ∧ Own wr w1.heap.size 2 v (rng (fun k => num d (F (wrd d n k))) k) ∧ Below w1.heap.size w1 wr) (fun _ i _ => M - (intOf i).toNat)
  case atStart => exact ⟨0, Nat.zero_le _, rfl, Own.nil _ _ _, Below.refl _ _⟩
  case round =>
    obtain ⟨k, hk, rfl, r1, rB⟩ := hrel
    have hll := hid (rng_length (fun k => num d (F (wrd d n k))) k)
    replace r1 := hid r1; replace rB := hid rB
    by_cases hlt : k < M
    · have dk : decide ((k : Int) < (M : Int)) = true := decide_eq_true (by omega)
      have hsn := hid (rng_snoc (fun k => num d (F (wrd d n k))) k)
      have ck := (hO.out.below rB.out).cellAt k _ (lvl_get d n M k hlt)
      have hBw := hid (hB.out.trans (rB.out.mono hB.out.size))
      go_wp2_with (first
        | (go_at_call 241; (with_reducible refine (hf.out _ hBw.out _ (hwl.out k) (hwm.out k)).mono ?_); rintro e w2 ⟨rfl, hb1⟩; replace r1 := hid (r1.out.below hb1); replace rB := hid (rB.out.trans (hb1.mono rB.out.size)); clear hb1 ck hBw)
        | (go_at_call 211; (with_reducible refine (hnum.out k _).mono ?_); rintro e w3 ⟨rfl, rfl⟩)
        | ((with_reducible refine gate (N := 25) rfl ?_); refine app1 29 2 (.int .i64 0) 8 Try.underlying29 info_i64 rfl (by omega) rfl _ _ rfl w1.heap.size _ _ rfl r1.out rB.out.size _ rfl rfl (by have := hll.out; omega) ?_; intro gn cap w2 hO2 hb2 hold hsz2 _; replace hO2 := hid hO2; have tB := hid (rB.out.trans hb2); clear hb2 hold hsz2 r1 rB))
      go_roundw
      case rel => exact ⟨k + 1, by omega, by go_num, by rw [hsn.out]; exact hO2.out, tB.out⟩
      case measure => simp [intOf]; omega
    · obtain rfl : k = M := by omega
      go_wp2
      go_ret
      exact ⟨_, rfl, r1.out.mono hB.out.size, hB.out.trans (rB.out.mono hB.out.size)⟩

set_option maxHeartbeats 2000000 in
set_option maxRecDepth 100000 in
theorem ofState1_any (b : Nat) (w : World) (m : Mach) (hm : MB w 27 b m) (l s : Nat) (g : Good m l s) (q : Nat) (hq : q < s) (u : List Nat) (hu : ∀ x ∈ u, x < l) (hlen : u.length ≤ 1000)
    (b1 b2 : Nat) (h1 : w.cell? ⟨b1, 0, none⟩ = some (.pointer (some ⟨b, 0, none⟩))) (h2 : w.cell? ⟨b2, 0, none⟩ = some (.int .i64 q)) :
    Calls Try.prog 241 #[.string (wstr u), .pointer (some ⟨b1, 0, none⟩), .pointer (some ⟨b2, 0, none⟩)] w fun e w' => e = .returned (.string (wstr (img m q u))) ∧ Below w.heap.size w w' := by
  have hl := hid (lead_any b w m hm l s g q hq u hu hlen)
  clear hm
  go_enter Try.func241, Try.ntmps241
  go_wp2_with (first
    | (go_at_call 88; (with_reducible refine (hl.out).mono ?_); rintro e w1 ⟨rfl, hb⟩; replace hb := hid hb))
  go_ret
  exact ⟨rfl, hb.out⟩

set_option maxHeartbeats 2000000 in
set_option maxRecDepth 100000 in
theorem ofState_any (b : Nat) (w : World) (m : Mach) (hm : MB w 27 b m) (l s : Nat) (g : Good m l s) (q : Nat) (hq : q < s) (n : Nat) (hn : n ≤ 40) (hb : pw l n ≤ 100000) :
    Calls Try.prog 200 #[.pointer (some ⟨b, 0, none⟩), .int .i64 q, .int .i64 n] w fun e w' => ∃ v, e = .returned v ∧ Own w' w.heap.size 2 v (nats (perm m l q n)) ∧ Below w.heap.size w w' := by
  have hM := hid ((hm.alloc (.cells #[.pointer (some ⟨b, 0, none⟩)] 175)).alloc (.cells #[.int .i64 q] 2))
  have hB := hid (below_alloc (below_alloc (Below.refl w.heap.size w) (Nat.le_refl _) (.cells #[.pointer (some ⟨b, 0, none⟩)] 175)) (Nat.le_refl _) (.cells #[.int .i64 q] 2))
  have cL := hM.out.cL
  have c1 : ((w.alloc (.cells #[.pointer (some ⟨b, 0, none⟩)] 175)).alloc (.cells #[.int .i64 q] 2)).cell? ⟨w.heap.size, 0, none⟩ = some (.pointer (some ⟨b, 0, none⟩)) := by simp
  have c2 : ((w.alloc (.cells #[.pointer (some ⟨b, 0, none⟩)] 175)).alloc (.cells #[.int .i64 q] 2)).cell? ⟨w.heap.size + 1, 0, none⟩ = some (.int .i64 q) := by simp
  rw [g.L] at cL
  have hblt := hm.lt
  have hs2 : ((w.alloc (.cells #[.pointer (some ⟨b, 0, none⟩)] 175)).alloc (.cells #[.int .i64 q] 2)).heap.size = w.heap.size + 2 := by rw [heap_alloc_size, heap_alloc_size]
  have l2 := g.l2
  have l3 := g.l3
  have hper := hid (permutation_any l n (by omega) l3 hn hb _ (.pointer (some ⟨w.heap.size, 0, none⟩)) (.pointer (some ⟨w.heap.size + 1, 0, none⟩)) (fun u => img m q u) (fun u hu hx => ⟨(img_length m u q).trans hu, img_lt g u q hq hx⟩)
    (fun W hW u hu hx => ofState1_any b W m (hM.out.below hW hM.out.lt) l s g q hq u hx (by omega) w.heap.size (w.heap.size + 1) ((hW.cell (by dsimp only; omega)).trans c1) ((hW.cell (by dsimp only; omega)).trans c2)))
  have hres := hid (show rng (fun k => num l (img m q (wrd l n k))) (pw l n) = nats (perm m l q n) from rfl)
  clear c2 hs2
  replace hm := hid hm
  replace g := hid g
  have hmf : ∀ (fn : Fn) (first cap : Array Value) (w : World), (Instr.makeFunc fn first cap).run Try.prog w = .ok (.func fn first cap) w := fun _ _ _ _ => rfl
  go_enter Try.func200, Try.ntmps200
  go_wp2_with (first
    | (go_at_call 115; (with_reducible refine (hper.out).mono ?_); rintro e w1 ⟨v, rfl, hO, hb⟩; replace hO := hid hO; replace hb := hid hb))
  go_ret
  exact ⟨_, rfl, by rw [← hres.out]; exact hO.out.mono hB.out.size, hB.out.trans (hb.out.mono hB.out.size)⟩

theorem load_run {w : World} {b : Nat} {m : Mach} (hm : MB w 27 b m) : (loadVar 27 ⟨b, 0, none⟩).run Try.prog w = .ok (.agg (mcells m)) w := by
  have := run_loadVar_mid (P := Try.prog) w b 0 27 (mcells m).toList _ (fun j v hv => by
    have hj : j < 98 := by have := (List.getElem?_eq_some_iff.1 hv).1; rwa [Array.length_toList, size_mcells] at this
    have h2 := World.rowIs.cell hm hj
    have h3 := mcells_get m j hj
    rw [Array.getElem?_toList, h3] at hv
    rw [Nat.zero_add, h2, hv]) Try.underlying27 rfl (by rw [Array.length_toList, size_mcells]; exact sz_mach)
  simpa using this
theorem exec_load {a : Act} {o : Oper} {W : World} {A : Addr} {ty : TypeId} {v : Value} (x : Operand) (ho : o.op = .load ty x) (hx : a.eval x = .pointer (some A)) (h : (loadVar ty A).run Try.prog W = .ok v W) :
    (execOp a.eval o).run Try.prog W = .ok (.value v) W := by
  unfold execOp
  simp only [ho, hx, Instr.loadAt, Instr.sureAddr, Sem.run_bind, Sem.run_pure, Result.andThen_ok, h]
/-- What a region keeps of the world while it calls: a machine in its block, its letters, and all that lay before. -/
theorem keepM {W w1 w0 : World} {b B0 : Nat} {m : Mach} {l : Nat} (h : Hid (MB W 27 b m) ∧ Hid (Below B0 w0 W) ∧ (loadVar 27 ⟨b, 0, none⟩).run Try.prog W = .ok (.agg (mcells m)) W ∧ W.cell? ⟨b, 0, none⟩ = some (.int .i64 (l : Int)))
    (hb : Hid (Below W.heap.size W w1) ∧ B0 ≤ w0.heap.size) : Hid (MB w1 27 b m) ∧ Hid (Below B0 w0 w1) ∧ (loadVar 27 ⟨b, 0, none⟩).run Try.prog w1 = .ok (.agg (mcells m)) w1 ∧ w1.cell? ⟨b, 0, none⟩ = some (.int .i64 (l : Int)) := by
  have h1 := h.1.out.below hb.1.out h.1.out.lt
  exact ⟨h1, h.2.1.out.trans (hb.1.out.mono (Nat.le_trans hb.2 h.2.1.out.size)), load_run h1, (hb.1.out.cell h.1.out.lt).trans h.2.2.2⟩

set_option maxHeartbeats 2000000 in
set_option maxRecDepth 100000 in
theorem l01Level_any (w : World) (m : Mach) (l s : Nat) (g : Good m l s) (q : Nat) (hq : q < s) (n : Nat) (hn : n ≤ 40) (hb : pw l n ≤ 100000) :
    Calls Try.prog 197 #[.agg (mcells m), .int .i64 q, .int .i64 n] w fun e w' => ∃ v, e = .returned v ∧ Own w' w.heap.size 2 v (nats (perm m l q n)) ∧ Below w.heap.size w w' := by
  have hM := hid ((MB.new w m 27).alloc (.cells #[] 2))
  have hB := hid (below_alloc (below_alloc (Below.refl w.heap.size w) (Nat.le_refl _) (.cells (mcells m) 27)) (Nat.le_refl _) (.cells #[] 2))
  have hO := Own.new (w.alloc (.cells (mcells m) 27)) (w.heap.size + 1) 2 (by simp)
  rw [heap_alloc_size] at hO
  replace hO := hid hO
  have hres := hid (show rng (fun k => num l (img m q (wrd l n k))) (pw l n) = nats (perm m l q n) from rfl)
  have l2 := g.l2
  have l3 := g.l3
  have gL := hid g.L
  have hpw := hid (fun W => l01Power_any l n (by omega) (by omega) (by omega) W)
  have hwo := hid (fun k (hk : k < pw l n) W => l01WordOf_any l (by omega) l3 n k hn (by omega) W)
  have hact := hid (fun k W => l01Act_any W m l s g q hq (wrd l n k) (wrd_lt l (by omega) n k) (by rw [wrd_length]; omega))
  have him := hid (fun k => img_lt g (wrd l n k) q hq (wrd_lt l (by omega) n k))
  have hil := hid (fun k => (img_length m (wrd l n k) q).trans (wrd_length l n k))
  have hnum := hid (fun k W => l01NumberOf_any l (by omega) l3 (img m q (wrd l n k)) (him.out k) (by rw [hil.out k]; omega) (by rw [hil.out k]; omega) W)
  clear him hil
  replace g := hid g
  generalize hMn : pw l n = M at *
  go_enter Try.func197, Try.ntmps197
  go_wp2
  go_loopw [7, 8] (fun v i wr => ∃ k : Nat, k ≤ M ∧ i = .int .i64 k ∧ MB wr 27 w.heap.size m ∧ Own wr (w.heap.size + 1) 2 v (rng (fun k => num l (img m q (wrd l n k))) k) ∧ Below w.heap.size w wr) (fun _ i _ => M - (intOf i).toNat)
  case atStart => exact ⟨0, Nat.zero_le _, rfl, hM.out, hO.out, hB.out⟩
  case round =>
    obtain ⟨k, hk, rfl, r1, r2, rB⟩ := hrel
    clear hM hB hO
    have hll := hid (rng_length (fun k => num l (img m q (wrd l n k))) k)
    have cL := r1.cL
    rw [gL.out] at cL
    have hlt1 := hid r1.lt
    replace r1 := hid r1; replace r2 := hid r2; replace rB := hid rB
    by_cases hlt : k < M
    · have dk : decide ((k : Int) < (M : Int)) = true := decide_eq_true (by omega)
      have hsn := hid (rng_snoc (fun k => num l (img m q (wrd l n k))) k)
      have hld := load_run r1.out
      go_wp2_with (first
        | (go_at_call 196; (with_reducible refine (hpw.out _).mono ?_); rintro e w1 ⟨rfl, rfl⟩))
      refine wp_region_held_drew (S := fun w' => Hid (MB w' 27 w.heap.size m) ∧ Hid (Below wr.heap.size wr w') ∧ (loadVar 27 ⟨w.heap.size, 0, none⟩).run Try.prog w' = .ok (.agg (mcells m)) w' ∧ w'.cell? ⟨w.heap.size, 0, none⟩ = some (.int .i64 (l : Int))) (by kernel_rfl) ⟨hid r1.out.drew, hid (Below.refl _ _).drew, load_run r1.out.drew, cL⟩ (fun hHeld => ?_)
      refine wpAnyH_take (i := 0) (v := .agg (mcells m)) rfl (by kernel_rfl) (by kernel_rfl) (by kernel_rfl) (fun _ _ _ h => h) (Or.inl ⟨by rfl, ?_⟩) (by assumption) ?_
      · (intro W hW; exact exec_load _ rfl rfl (load_run hW.1.out))
      try simp only [Act.put, List.setIfInBounds_toArray, List.set_cons_zero, List.set_cons_succ]
      refine wpAnyH_take (i := 1) (v := ?_) rfl (by kernel_rfl) (by kernel_rfl) (by kernel_rfl) (fun _ _ _ h => h) (Or.inl ⟨by rfl, ?_⟩) (by assumption) ?_
      rotate_left
      · (intro W hW; (try dsimp only at hW); go_simp; (with_reducible rfl))
      try simp only [Act.put, List.setIfInBounds_toArray, List.set_cons_zero, List.set_cons_succ]
      refine wpAnyH_take (i := 2) (v := ?_) rfl (by kernel_rfl) (by kernel_rfl) (by kernel_rfl) (fun _ _ _ h => h) (Or.inl ⟨by rfl, ?_⟩) (by assumption) ?_
      rotate_left
      · (intro W hW; (try dsimp only at hW); go_simp; (with_reducible rfl))
      try simp only [Act.put, List.setIfInBounds_toArray, List.set_cons_zero, List.set_cons_succ]
      refine wpAnyH_take (i := 3) (v := ?_) rfl (by kernel_rfl) (by kernel_rfl) (by kernel_rfl) (fun _ _ _ h => h) (Or.inl ⟨by rfl, ?_⟩) (by assumption) ?_
      rotate_left
      · (intro W hW; (try dsimp only at hW); go_simp; (with_reducible rfl))
      try simp only [Act.put, List.setIfInBounds_toArray, List.set_cons_zero, List.set_cons_succ]
      refine wpAnyH_take (i := 4) (v := ?_) rfl (by kernel_rfl) (by kernel_rfl) (by kernel_rfl) (fun _ _ _ h => h) (Or.inl ⟨by rfl, ?_⟩) (by assumption) ?_
      rotate_left
      · (intro W hW; (try dsimp only at hW); go_simp; (with_reducible rfl))
      try simp only [Act.put, List.setIfInBounds_toArray, List.set_cons_zero, List.set_cons_succ]
      refine wpAnyH_take (i := 5) (v := ?_) rfl (by kernel_rfl) (by kernel_rfl) (by kernel_rfl) (fun _ _ _ h => h) (Or.inl ⟨by rfl, ?_⟩) (by assumption) ?_
      rotate_left
      · (intro W hW; (try dsimp only at hW); go_simp; (with_reducible rfl))
      try simp only [Act.put, List.setIfInBounds_toArray, List.set_cons_zero, List.set_cons_succ]
      refine wpAnyH_ready (rs := [6]) (by kernel_rfl) (by simp) ?_
      refine AllReadyH.cons rfl (fun K hK => ?_) AllReadyH.nil
      go_simp
      go_at_call 215; (with_reducible refine (hwo.out k hlt _).mono ?_); rintro e w1 ⟨rfl, hb1⟩; replace hb1 := hid hb1; go_simp
      refine hK.out _ _ (keepM hHeld ⟨hb1, Nat.le_refl _⟩) (fun hHeld' => ?_)
      clear hK K hb1 hHeld
      have hHeld := hHeld'
      clear hHeld'
      try simp only [Act.put, List.setIfInBounds_toArray, List.set_cons_zero, List.set_cons_succ]
      refine wpAnyH_ready (rs := [7]) (by kernel_rfl) (by simp) ?_
      refine AllReadyH.cons rfl (fun K hK => ?_) AllReadyH.nil
      go_simp
      go_at_call 240; (with_reducible refine (hact.out k _).mono ?_); rintro e w2 ⟨rfl, hb1⟩; replace hb1 := hid hb1; go_simp
      refine hK.out _ _ (keepM hHeld ⟨hb1, Nat.le_refl _⟩) (fun hHeld' => ?_)
      clear hK K hb1 hHeld
      have hHeld := hHeld'
      clear hHeld'
      try simp only [Act.put, List.setIfInBounds_toArray, List.set_cons_zero, List.set_cons_succ]
      refine wpAnyH_take (i := 8) (v := ?_) rfl (by kernel_rfl) (by kernel_rfl) (by kernel_rfl) (fun _ _ _ h => h) (Or.inl ⟨by rfl, ?_⟩) (by assumption) ?_
      rotate_left
      · (intro W hW; (try dsimp only at hW); go_simp; (with_reducible rfl))
      try simp only [Act.put, List.setIfInBounds_toArray, List.set_cons_zero, List.set_cons_succ]
      refine wpAnyH_take (i := 9) (v := ?_) rfl (by kernel_rfl) (by kernel_rfl) (by kernel_rfl) (fun _ _ _ h => h) (Or.inl ⟨by rfl, ?_⟩) (by assumption) ?_
      rotate_left
      · (intro W hW; (try dsimp only at hW); go_simp; (with_reducible rfl))
      try simp only [Act.put, List.setIfInBounds_toArray, List.set_cons_zero, List.set_cons_succ]
      refine wpAnyH_take (i := 10) (v := ?_) rfl (by kernel_rfl) (by kernel_rfl) (by kernel_rfl) (fun _ _ _ h => h) (Or.inl ⟨by rfl, ?_⟩) (by assumption) ?_
      rotate_left
      · (intro W hW; (try dsimp only at hW); go_simp; (with_reducible rfl))
      try simp only [Act.put, List.setIfInBounds_toArray, List.set_cons_zero, List.set_cons_succ]
      refine wpAnyH_take (i := 11) (v := ?_) rfl (by kernel_rfl) (by kernel_rfl) (by kernel_rfl) (fun _ _ _ h => h) (Or.inl ⟨by rfl, ?_⟩) (by assumption) ?_
      rotate_left
      · (intro W hW; (try dsimp only at hW); go_simp; (with_reducible rfl))
      try simp only [Act.put, List.setIfInBounds_toArray, List.set_cons_zero, List.set_cons_succ]
      refine wpAnyH_take (i := 12) (v := ?_) rfl (by kernel_rfl) (by kernel_rfl) (by kernel_rfl) (fun _ _ _ h => h) (Or.inl ⟨by rfl, ?_⟩) (by assumption) ?_
      rotate_left
      · (intro W hW; (try dsimp only at hW); go_simp; (with_reducible rfl))
      try simp only [Act.put, List.setIfInBounds_toArray, List.set_cons_zero, List.set_cons_succ]
      refine wpAnyH_done (by kernel_rfl) ?_ _
      obtain ⟨t1, tb, _, cL2⟩ := hHeld
      have t2 := hid (r2.out.below tb.out)
      have tB := hid (rB.out.trans (tb.out.mono rB.out.size))
      have tlt := hid t1.out.lt
      clear hld cL r1 r2 rB tb
      go_wp2_with (first
        | (go_at_call 220; (with_reducible refine (hnum.out k _).mono ?_); rintro e w3 ⟨rfl, rfl⟩)
        | ((with_reducible refine gate (N := 37) rfl ?_); refine app1 29 2 (.int .i64 0) 8 Try.underlying29 info_i64 rfl (by omega) rfl _ _ rfl (w.heap.size + 1) _ _ rfl t2.out tlt.out _ rfl rfl (by have := hll.out; omega) ?_; intro gn cap w4 hO2 hb2 hold hsz2 _; have y1 := hid (show MB w4 27 w.heap.size m from World.rowIs.of_block t1.out (hold _ tlt.out (fun e => by have := (t2.out.lt _ e).1; omega))); replace hO2 := hid hO2; have yB := hid (tB.out.trans (hb2.mono (Nat.le_succ _))); clear hb2 hold hsz2 t1 t2 tB cL2))
      go_roundw
      case rel => exact ⟨k + 1, by omega, by go_num, y1.out, by rw [hsn.out]; exact hO2.out, yB.out⟩
      case measure => simp [intOf]; omega
    · obtain rfl : k = M := by omega
      go_wp2_with (first
        | (go_at_call 196; (with_reducible refine (hpw.out _).mono ?_); rintro e w1 ⟨rfl, rfl⟩))
      go_ret
      exact ⟨_, rfl, by rw [← hres.out]; exact r2.out.mono (Nat.le_succ _), rB.out⟩
end Go.Proofs.Ytbmkkaecfogmoaa

/- Lists of numbers that come back: compared, marked, and held. -/
namespace Go.Proofs.Ytbmkkaecfogmoaa
open Go.RowKit
set_option linter.unusedVariables false
set_option linter.unusedSimpArgs false

theorem Own.set {w : World} {base e g n cap : Nat} {cs : List Value} (h : Own w base e (.slice (some ⟨g, 0, none⟩) n cap) cs) (hn : cs.length = n) (j : Nat) (u : Value) (hj : j < n) :
    Own (w.setCell ⟨g, j, none⟩ u) base e (.slice (some ⟨g, 0, none⟩) n cap) (cs.set j u) := by
  unfold Own at *
  rw [List.length_set, hn]
  rw [hn] at h
  exact (World.ownsRow.stored h j u).1
theorem Own.frozenAt {w : World} {base e g n cap : Nat} {cs : List Value} (h : Own w base e (.slice (some ⟨g, 0, none⟩) n cap) cs) (hn : cs.length = n) (j : Nat) : w.frozen? ⟨g, j, none⟩ = false := by
  unfold Own at h
  rw [hn] at h
  exact World.ownsRow.frozenAt h j

set_option maxHeartbeats 1000000 in
set_option maxRecDepth 100000 in
theorem eqInt64S_any (w : World) (b1 b2 : Nat) (v1 v2 : Value) (l : List Int) (h1 : Own w b1 2 v1 (ints l)) (h2 : Own w b2 2 v2 (ints l)) (hl : l.length < 1000000) :
    Calls Try.prog 108 #[v1, v2] w fun e w' => e = .returned (.bool true) ∧ Below w.heap.size w w' := by
  have hil := ints_length l
  by_cases hne : l = []
  · subst hne
    obtain ⟨A1, c1, rfl, _, _⟩ := h1.form
    obtain ⟨A2, c2, rfl, _, _⟩ := h2.form
    rw [hil]
    clear h1 h2
    go_enter Try.func108, Try.ntmps108
    go_wp2
    go_loopw [5] (fun i wr => i = .int .i64 0 ∧ wr = w) (fun _ _ => 0)
    case atStart => exact ⟨rfl, rfl⟩
    case round =>
      obtain ⟨rfl, rfl⟩ := hrel
      go_wp2
      go_ret
      exact ⟨rfl, Below.refl _ _⟩
  · have hne' : ints l ≠ [] := fun e => hne (by rw [← List.length_eq_zero_iff, ← hil, e]; rfl)
    obtain ⟨g1, c1, rfl, _, hg1⟩ := h1.blk hne'
    obtain ⟨g2, c2, rfl, _, hg2⟩ := h2.blk hne'
    rw [hil] at *
    have hget := hid (fun (k : Nat) (x : Int) (hx : l[k]? = some x) => (show (ints l)[k]? = some (.int .i64 x) by simp [ints, hx]))
    replace h1 := hid h1
    replace h2 := hid h2
    clear hne hne' hil
    generalize hn : l.length = n at *
    go_enter Try.func108, Try.ntmps108
    go_wp2
    go_loopw [5] (fun i wr => ∃ k : Nat, k ≤ n ∧ i = .int .i64 k ∧ Below w.heap.size w wr) (fun i _ => n - (intOf i).toNat)
    case atStart => exact ⟨0, Nat.zero_le _, rfl, Below.refl _ _⟩
    case round =>
      obtain ⟨k, hk, rfl, rB⟩ := hrel
      replace rB := hid rB
      by_cases hlt : k < n
      · obtain ⟨x, hx⟩ : ∃ x, l[k]? = some x := ⟨_, List.getElem?_eq_getElem (by omega)⟩
        have d1 := (h1.out.below rB.out).cellAt k _ (hget.out k x hx)
        have d2 := (h2.out.below rB.out).cellAt k _ (hget.out k x hx)
        go_upto_region 6 with (fail)
        go_quiet (fail)
        go_wp2
        go_roundw
        case rel => exact ⟨k + 1, by omega, by go_num, below_drewN rB.out _⟩
        case measure => simp [intOf]; omega
      · obtain rfl : k = n := by omega
        go_wp2
        go_ret
        exact ⟨rfl, rB.out⟩

/-- The marks. -/
def marks (k n : Nat) : List Value := (List.range n).map fun i => .int .i64 ((k + i : Nat) : Int)
theorem marks_get (k n i : Nat) (h : i < n) : (marks k n)[i]? = some (.int .i64 ((k + i : Nat) : Int)) := by simp [marks, h]
theorem marks_length (k n : Nat) : (marks k n).length = n := by simp [marks]

theorem mark_step (k j n : Nat) (cs : List Value) (hn : cs.length = n) (hj : j < n) : (marks k j ++ cs.drop j).set j (.int .i64 ((k + j : Nat) : Int)) = marks k (j + 1) ++ cs.drop (j + 1) := by
  apply List.ext_getElem?
  intro i
  rw [List.getElem?_set]
  by_cases h1 : i < j
  · rw [if_neg (by omega), List.getElem?_append_left (by rw [marks_length]; omega), List.getElem?_append_left (by rw [marks_length]; omega), marks_get _ _ _ h1, marks_get _ _ _ (by omega)]
  · by_cases h2 : i = j
    · subst h2
      rw [if_pos rfl, if_pos (by simp [marks_length]; omega), List.getElem?_append_left (by rw [marks_length]; omega), marks_get _ _ _ (by omega)]
    · rw [if_neg (by omega), List.getElem?_append_right (by rw [marks_length]; omega), List.getElem?_append_right (by rw [marks_length]; omega), marks_length, marks_length, List.getElem?_drop, List.getElem?_drop]
      congr 1; omega
set_option maxHeartbeats 1000000 in
set_option maxRecDepth 100000 in
theorem markInt64S_any (w : World) (base : Nat) (v : Value) (cs : List Value) (n k : Nat) (hn : cs.length = n) (h : Own w base 2 v cs) (hl : n + k < 1000000) :
    Calls Try.prog 109 #[v, .int .i64 k] w fun e w' => e = .returned (.int .i64 ((k + n : Nat) : Int)) ∧ Own w' base 2 v (marks k n) ∧ Below base w w' := by
  by_cases hne : n = 0
  · subst hne
    obtain ⟨A1, c1, rfl, _, _⟩ := h.form
    have hcs := List.eq_nil_of_length_eq_zero hn
    rw [hn]
    have hm : marks k 0 = cs := by rw [hcs]; rfl
    rw [hm]
    rw [hn] at h
    replace h := hid h
    go_enter Try.func109, Try.ntmps109
    go_wp2
    go_loopw [1, 5] (fun i j wr => i = .int .i64 k ∧ j = .int .i64 0 ∧ wr = w) (fun _ _ _ => 0)
    case atStart => exact ⟨rfl, rfl, rfl⟩
    case round =>
      obtain ⟨rfl, rfl, rfl⟩ := hrel
      go_wp2
      go_ret
      exact ⟨rfl, h.out, Below.refl _ _⟩
  · obtain ⟨g, c, rfl, hb, hg⟩ := h.blk (fun e => hne (by rw [← hn, e]; rfl))
    rw [hn] at h ⊢
    replace h := hid h
    go_enter Try.func109, Try.ntmps109
    go_wp2
    go_loopw [1, 5] (fun q i wr => ∃ j : Nat, j ≤ n ∧ i = .int .i64 j ∧ q = .int .i64 ((k + j : Nat) : Int) ∧ Own wr base 2 (.slice (some ⟨g, 0, none⟩) n c) (marks k j ++ cs.drop j) ∧ Below base w wr) (fun _ i _ => n - (intOf i).toNat)
    case atStart => exact ⟨0, Nat.zero_le _, rfl, rfl, h.out, Below.refl _ _⟩
    case round =>
      obtain ⟨j, hj, rfl, rfl, r1, rB⟩ := hrel
      have hjl : (marks k j ++ cs.drop j).length = n := by rw [List.length_append, marks_length, List.length_drop]; omega
      by_cases hlt : j < n
      · have hst := hid (mark_step k j n cs hn hlt)
        obtain ⟨u, hu⟩ : ∃ u, (marks k j ++ cs.drop j)[j]? = some u := ⟨_, List.getElem?_eq_getElem (by omega)⟩
        have co := r1.cellAt j u hu
        have fo := r1.frozenAt hjl j
        have y1 := hid (r1.set hjl j (.int .i64 ((k + j : Nat) : Int)) hlt)
        have yB := hid (rB.setCell (p := ⟨g, j, none⟩) hb (.int .i64 ((k + j : Nat) : Int)))
        clear h r1 rB hu
        replace hjl := hid hjl
        have e1 : ((k + j : Nat) : Int) + 1 = ((k + (j + 1) : Nat) : Int) := by omega
        have e2 : ((k + j : Nat) : Int) < 1000000 := by omega
        have e3 : 0 ≤ ((k + j : Nat) : Int) := by omega
        generalize hkj : ((k + j : Nat) : Int) = kj at *
        go_wp2
        go_roundw
        case rel => exact ⟨j + 1, by omega, by go_num, by go_num, by rw [← hst.out]; exact y1.out, yB.out⟩
        case measure => simp [intOf]; omega
      · obtain rfl : j = n := by omega
        have hm : marks k j ++ cs.drop j = marks k j := by rw [← hn, List.drop_length, List.append_nil]
        rw [hm] at r1
        replace r1 := hid r1
        replace rB := hid rB
        clear h
        go_wp2
        go_ret
        exact ⟨rfl, r1.out, rB.out⟩

set_option maxHeartbeats 1000000 in
set_option maxRecDepth 100000 in
theorem heldInt64S_any (w : World) (base : Nat) (v : Value) (n k : Nat) (h : Own w base 2 v (marks k n)) (hl : n + k < 1000000) :
    Calls Try.prog 110 #[v, .int .i64 k] w fun e w' => e = .returned (.int .i64 ((k + n : Nat) : Int)) ∧ w = w' := by
  have hml := marks_length k n
  by_cases hne : n = 0
  · subst hne
    obtain ⟨A1, c1, rfl, _, _⟩ := h.form
    rw [hml]
    clear h
    go_enter Try.func110, Try.ntmps110
    go_wp2
    go_loop [1, 5] (fun i j => i = .int .i64 k ∧ j = .int .i64 0) (fun _ _ => 0)
    case atStart => exact ⟨rfl, rfl⟩
    case round =>
      obtain ⟨rfl, rfl⟩ := hrel
      go_wp2
      go_ret
      exact ⟨rfl, rfl⟩
  · obtain ⟨g, c, rfl, hb, hg⟩ := h.blk (fun e => hne (by rw [← hml, e]; rfl))
    rw [hml] at h ⊢
    replace h := hid h
    go_enter Try.func110, Try.ntmps110
    go_wp2
    go_loop [1, 5] (fun q i => ∃ j : Nat, j ≤ n ∧ i = .int .i64 j ∧ q = .int .i64 ((k + j : Nat) : Int)) (fun _ i => n - (intOf i).toNat)
    case atStart => exact ⟨0, Nat.zero_le _, rfl, rfl⟩
    case round =>
      obtain ⟨j, hj, rfl, rfl⟩ := hrel
      by_cases hlt : j < n
      · have co := h.out.cellAt j _ (marks_get k n j hlt)
        have e1 : ((k + j : Nat) : Int) + 1 = ((k + (j + 1) : Nat) : Int) := by omega
        have e2 : ((k + j : Nat) : Int) < 1000000 := by omega
        have e3 : 0 ≤ ((k + j : Nat) : Int) := by omega
        generalize hkj : ((k + j : Nat) : Int) = kj at *
        go_wp2
        go_round
        case rel => exact ⟨j + 1, by omega, by go_num, by go_num⟩
        case measure => simp [intOf]; omega
      · obtain rfl : j = n := by omega
        go_wp2
        go_ret
        exact ⟨rfl, rfl⟩

theorem mark1 (w : World) (base : Nat) (v : Value) (cs : List Value) (n : Nat) (hn : cs.length = n) (h : Own w base 2 v cs) (hl : n < 999999) :
    Calls Try.prog 109 #[v, .int .i64 1] w fun e w' => e = .returned (.int .i64 ((n : Int) + 1)) ∧ Own w' base 2 v (marks 1 n) ∧ Below base w w' :=
  (markInt64S_any w base v cs n 1 hn h (by omega)).mono fun e w' ⟨h1, h2⟩ => ⟨h1.trans (retI (by omega)), h2⟩
theorem held1 (w : World) (base : Nat) (v : Value) (n : Nat) (h : Own w base 2 v (marks 1 n)) (hl : n < 999999) :
    Calls Try.prog 110 #[v, .int .i64 1] w fun e w' => e = .returned (.int .i64 ((n : Int) + 1)) ∧ w = w' :=
  (heldInt64S_any w base v n 1 h (by omega)).mono fun e w' ⟨h1, h2⟩ => ⟨h1.trans (retI (by omega)), h2⟩
end Go.Proofs.Ytbmkkaecfogmoaa

/- The code of a machine, a word and states. -/
namespace Go.Proofs.Ytbmkkaecfogmoaa
open Go.RowKit
set_option linter.unusedVariables false
set_option linter.unusedSimpArgs false

/-- A text is a word for d letters. -/
def IsWd (d : Int) (ws : ByteArray) : Prop := ws.size ≤ 40 ∧ ∀ k (h : k < ws.size), 48 ≤ (ws[k]'h).toNat ∧ ((ws[k]'h).toNat : Int) - 48 < d

theorem wstr_of_bytes (ws : ByteArray) (h : ∀ k (h : k < ws.size), 48 ≤ (ws[k]'h).toNat) : ws = wstr (ws.data.toList.map fun b => b.toNat - 48) := by
  have hs : ws.data.size = ws.size := rfl
  apply ByteArray.ext
  apply Array.ext
  · simp [wstr, strOfNums]
  · intro i h1 h2
    have := h i h1
    have e : (ws[i]'h1) = ws.data[i] := rfl
    rw [e] at this
    simp only [wstr, strOfNums, List.map_map, List.getElem_toArray, List.getElem_map, Function.comp, Array.getElem_toList]
    apply UInt8.toNat_inj.1
    rw [UInt8.toNat_ofNat']
    have := UInt8.toNat_lt (ws.data[i])
    omega

/-- A word's letters. -/
theorem IsWd.letters {d : Int} {ws : ByteArray} (h : IsWd d ws) : ∃ u : List Nat, ws = wstr u ∧ (∀ x ∈ u, (x : Int) < d) ∧ u.length ≤ 40 := by
  refine ⟨_, wstr_of_bytes ws (fun k hk => (h.2 k hk).1), fun x hx => ?_, by simpa using h.1⟩
  obtain ⟨b, hb, rfl⟩ := List.mem_map.1 hx
  obtain ⟨k, hk, rfl⟩ := List.getElem_of_mem hb
  have hk' : k < ws.size := by simpa using hk
  have := h.2 k hk'
  have e : ws.data.toList[k] = ws[k]'hk' := by rw [Array.getElem_toList]; rfl
  rw [e]
  omega
theorem isWd_wstr {d : Int} {u : List Nat} (hu : ∀ x ∈ u, (x : Int) < d) (hd : d ≤ 200) (hl : u.length ≤ 40) : IsWd d (wstr u) := by
  refine ⟨by rw [wstr_size]; exact hl, fun k hk => ?_⟩
  have hk' : k < u.length := by rwa [wstr_size] at hk
  have hm := hu _ (getD_mem u k hk')
  rw [wstr_byte u k hk (fun x hx => by have := hu x hx; omega)]
  omega
theorem isWd_nil (d : Int) : IsWd d { data := #[] } := ⟨by decide, fun k h => absurd h (by simp [ByteArray.size])⟩

open Classical in
/-- The code of a machine, a word and states. -/
noncomputable def codeI (m : Mach) (ws : ByteArray) (qs : List Int) : Int := if IsM m ∧ IsWd m.L ws then if ∀ q ∈ qs, 0 ≤ q ∧ q < m.S then 0 else 2 else 1

set_option maxHeartbeats 1000000 in
set_option maxRecDepth 100000 in
theorem isWord_any (d : Int) (_ : 2 ≤ d) (_ : d ≤ 3) (ws : ByteArray) (hws : ws.size < 1000000000000) (r : Bool) (hr : Tells r (IsWd d ws)) (w : World) :
    Calls Try.prog 128 #[.int .i64 d, .string ws] w fun e w' => e = .returned (.bool r) ∧ w = w' := by
  replace hr := hid hr
  go_enter Try.func128, Try.ntmps128
  go_wp2
  go_loop [8] (fun i => ∃ k : Nat, k ≤ ws.size ∧ i = .int .i64 k ∧ Hid (∀ j (h : j < ws.size), j < k → 48 ≤ (ws[j]'h).toNat ∧ ((ws[j]'h).toNat : Int) - 48 < d)) (fun i => ws.size - (intOf i).toNat)
  case atStart => exact ⟨0, Nat.zero_le _, rfl, fun j _ h => absurd h (by omega)⟩
  case round =>
    obtain ⟨k, hk, rfl, hall⟩ := hrel
    by_cases hlt : k < ws.size
    · have hstep : (48 ≤ (ws[k]'hlt).toNat ∧ ((ws[k]'hlt).toNat : Int) - 48 < d) → Hid (∀ j (h : j < ws.size), j < k + 1 → 48 ≤ (ws[j]'h).toNat ∧ ((ws[j]'h).toNat : Int) - 48 < d) := fun hc j hj hjk => by
        by_cases e : j = k
        · subst e; exact hc
        · exact hall.out j hj (by omega)
      have hfail : ¬ (48 ≤ (ws[k]'hlt).toNat ∧ ((ws[k]'hlt).toNat : Int) - 48 < d) → r = false := fun hc => by
        cases r
        · rfl
        · exact absurd ((hr.out.out.1 rfl).2 k hlt) hc
      have hbl := UInt8.toNat_lt (ws[k]'hlt)
      generalize hb : (ws[k]'hlt).toNat = b at *
      replace hstep := hid hstep
      by_cases h48 : 48 ≤ b
      · obtain ⟨x, rfl⟩ := Nat.exists_eq_add_of_le h48
        have e1 : 48 + (x : Int) - 48 = x := by omega
        by_cases hxd : (x : Int) < d
        · clear hfail
          go_wp2
          go_round
          case rel => exact ⟨k + 1, by omega, by go_num, hstep.out ⟨by omega, by omega⟩⟩
          case measure => simp [intOf]; omega
        · have hf := hfail (fun hc => hxd (by omega))
          subst hf
          have dx : decide ((x : Int) ≥ d) = true := decide_eq_true (by omega)
          clear hfail
          go_wp2
          go_ret
          exact ⟨rfl, rfl⟩
      · have hf := hfail (fun hc => h48 hc.1)
        subst hf
        have dx : decide ((b : Int) < 48) = true := decide_eq_true (by omega)
        clear hfail
        go_wp2
        go_ret
        exact ⟨rfl, rfl⟩
    · obtain rfl : k = ws.size := by omega
      have hrr : r = decide ((ws.size : Int) ≤ 40) := by
        have h1 := hr.out.out
        cases r
        · rw [eq_comm, decide_eq_false_iff_not]
          intro hle
          have := h1.2 ⟨by omega, fun j hj => hall.out j hj hj⟩
          cases this
        · have := (h1.1 rfl).1
          rw [eq_comm, decide_eq_true_iff]
          omega
      replace hrr := hid hrr
      go_wp2
      go_ret
      exact ⟨retB hrr.out.symm, rfl⟩

set_option maxHeartbeats 1000000 in
theorem isState_any (b : Nat) (w : World) (m : Mach) (hm : MB w 27 b m) (l s : Nat) (g : Good m l s) (q : Int) (r : Bool) (hr : r = decide (0 ≤ q ∧ q < s)) :
    Calls Try.prog 188 #[.pointer (some ⟨b, 0, none⟩), .int .i64 q] w fun e w' => e = .returned (.bool r) ∧ w = w' := by
  have cS := hm.cS
  rw [g.S] at cS
  have s16 := g.s16
  have s1 := g.s1
  have hin := hid (fun W => within_any q 0 ((s : Int) - 1) r (by rw [hr]; congr 1; apply propext; omega) W)
  clear hm g hr
  go_enter Try.func188, Try.ntmps188
  go_wp2_with (first
    | (go_at_call 124; (with_reducible refine (hin.out _).mono ?_); rintro e w1 ⟨rfl, rfl⟩))
  go_ret
  exact ⟨rfl, rfl⟩

theorem codeI_2 {m : Mach} {l s : Nat} {ws : ByteArray} {qs : List Int} (g : Good m l s) (hw : IsWd l ws) (hq : ¬ ∀ q ∈ qs, 0 ≤ q ∧ q < (s : Int)) : codeI m ws qs = 2 := by
  unfold codeI; rw [g.L, g.S, if_pos ⟨g.isM, hw⟩, if_neg hq]
theorem codeI_0 {m : Mach} {l s : Nat} {ws : ByteArray} {qs : List Int} (g : Good m l s) (hw : IsWd l ws) (hq : ∀ q ∈ qs, 0 ≤ q ∧ q < (s : Int)) : codeI m ws qs = 0 := by
  unfold codeI; rw [g.L, g.S, if_pos ⟨g.isM, hw⟩, if_pos hq]
theorem codeI_w {m : Mach} {l s : Nat} {ws : ByteArray} {qs : List Int} (g : Good m l s) (hw : ¬ IsWd l ws) : codeI m ws qs = 1 := by
  unfold codeI; rw [g.L, if_neg (fun h => hw h.2)]
theorem codeI_1 {m : Mach} {ws : ByteArray} {qs : List Int} (hm : ¬ IsM m) : codeI m ws qs = 1 := by
  unfold codeI; rw [if_neg (fun h => hm h.1)]

set_option maxHeartbeats 1000000 in
theorem codeOf1_any (b : Nat) (w : World) (m : Mach) (hm : MB w 27 b m) (l s : Nat) (g : Good m l s) (q : Int) (r : Bool) (hr : r = decide (0 ≤ q ∧ q < s)) :
    Calls Try.prog 187 #[.int .i64 q, .pointer (some ⟨b, 0, none⟩)] w fun e w' => e = .returned (.bool (!r)) ∧ w = w' := by
  have hin := hid (isState_any b w m hm l s g q r hr)
  clear hm g hr
  go_enter Try.func187, Try.ntmps187
  go_wp2_with (first
    | (go_at_call 188; (with_reducible refine (hin.out).mono ?_); rintro e w1 ⟨rfl, rfl⟩))
  go_ret
  exact ⟨rfl, rfl⟩

/-- What is found: a place that tells of something that is no state, or -1. -/
def Found (s : Nat) (qs : List Int) (r : Int) : Prop := -1 ≤ r ∧ r < 1000000 ∧ (0 ≤ r ↔ ¬ ∀ q ∈ qs, 0 ≤ q ∧ q < (s : Int))
set_option maxHeartbeats 1000000 in
set_option maxRecDepth 100000 in
theorem indexFunc_states (b : Nat) (w : World) (m : Mach) (hm : MB w 27 b m) (l s : Nat) (g : Good m l s) (base : Nat) (v : Value) (qs : List Int) (h : Own w base 2 v (ints qs)) (hl : qs.length < 1000000) :
    Calls Try.prog 218 #[v, .func (.func 187) #[] #[.pointer (some ⟨b, 0, none⟩)]] w fun e w' => ∃ r : Int, e = .returned (.int .i64 r) ∧ Found s qs r ∧ w = w' := by
  have hil := ints_length qs
  have hone := hid (fun q r hr => codeOf1_any b w m hm l s g q r hr)
  clear hm g
  by_cases hne : qs = []
  · subst hne
    obtain ⟨A1, c1, rfl, _, _⟩ := h.form
    rw [hil]
    clear h
    go_enter Try.func218, Try.ntmps218
    go_wp2
    go_loop [8] (fun i => i = .int .i64 0) (fun _ => 0)
    case atStart => rfl
    case round =>
      obtain rfl := hrel
      go_wp2
      go_ret
      exact ⟨_, rfl, ⟨by omega, by omega, fun h => absurd h (by omega), fun h => absurd (fun q hq => by simp at hq) h⟩, rfl⟩
  · have hne' : ints qs ≠ [] := fun e => hne (by rw [← List.length_eq_zero_iff, ← hil, e]; rfl)
    obtain ⟨g1, c1, rfl, _, hg1⟩ := h.blk hne'
    rw [hil] at h ⊢
    have hget := hid (fun (k : Nat) (x : Int) (hx : qs[k]? = some x) => (show (ints qs)[k]? = some (.int .i64 x) by simp [ints, hx]))
    replace h := hid h
    clear hne hne' hil
    generalize hn : qs.length = n at *
    go_enter Try.func218, Try.ntmps218
    go_wp2
    go_loop [8] (fun i => ∃ k : Nat, k ≤ n ∧ i = .int .i64 k ∧ Hid (∀ j x, j < k → qs[j]? = some x → 0 ≤ x ∧ x < (s : Int))) (fun i => n - (intOf i).toNat)
    case atStart => exact ⟨0, Nat.zero_le _, rfl, fun j x h => absurd h (by omega)⟩
    case round =>
      obtain ⟨k, hk, rfl, hall⟩ := hrel
      by_cases hlt : k < n
      · obtain ⟨x, hx⟩ : ∃ x, qs[k]? = some x := ⟨_, List.getElem?_eq_getElem (by omega)⟩
        have d1 := h.out.cellAt k _ (hget.out k x hx)
        by_cases hv : 0 ≤ x ∧ x < (s : Int)
        · have hc := hid (hone.out x true (decide_eq_true hv).symm)
          have hnext : Hid (∀ j x, j < k + 1 → qs[j]? = some x → 0 ≤ x ∧ x < (s : Int)) := fun j y hj hy => by
            by_cases e : j = k
            · subst e; rw [hx] at hy; injection hy with hy; subst hy; exact hv
            · exact hall.out j y (by omega) hy
          clear hx hv
          go_wp2_with (first
            | (go_at_call 187; (with_reducible refine (hc.out).mono ?_); rintro e w1 ⟨rfl, rfl⟩))
          go_round
          case rel => exact ⟨k + 1, by omega, by go_num, hnext⟩
          case measure => simp [intOf]; omega
        · have hc := hid (hone.out x false (decide_eq_false hv).symm)
          have hbad : Hid (¬ ∀ q ∈ qs, 0 ≤ q ∧ q < (s : Int)) := fun h => hv (h x (List.mem_of_getElem? hx))
          clear hx hv
          go_wp2_with (first
            | (go_at_call 187; (with_reducible refine (hc.out).mono ?_); rintro e w1 ⟨rfl, rfl⟩))
          go_ret
          exact ⟨_, rfl, ⟨by omega, by omega, fun _ => hbad.out, fun _ => by omega⟩, rfl⟩
      · obtain rfl : k = n := by omega
        have hok : Hid (∀ q ∈ qs, 0 ≤ q ∧ q < (s : Int)) := fun q hq => by
          obtain ⟨j, hj, e⟩ := List.getElem_of_mem hq
          exact hall.out j q (by omega) (by rw [← e]; exact List.getElem?_eq_getElem hj)
        go_wp2
        go_ret
        refine ⟨_, rfl, ⟨by omega, by omega, fun h => absurd h (by omega), fun h => ?_⟩, rfl⟩
        exact absurd hok.out h

set_option maxHeartbeats 1000000 in
theorem containsFunc_states (b : Nat) (w : World) (m : Mach) (hm : MB w 27 b m) (l s : Nat) (g : Good m l s) (base : Nat) (v : Value) (qs : List Int) (h : Own w base 2 v (ints qs)) (hl : qs.length < 1000000)
    (c : Bool) (hc : Tells c (∀ q ∈ qs, 0 ≤ q ∧ q < (s : Int))) :
    Calls Try.prog 122 #[v, .func (.func 187) #[] #[.pointer (some ⟨b, 0, none⟩)]] w fun e w' => e = .returned (.bool (!c)) ∧ w = w' := by
  have hi := hid (indexFunc_states b w m hm l s g base v qs h hl)
  clear hm g h hl
  replace hc := hid hc
  go_enter Try.func122, Try.ntmps122
  go_wp2_with (first
    | (go_at_call 218; (with_reducible refine (hi.out).mono ?_); rintro e w1 ⟨r, rfl, hr, rfl⟩; replace hr := hid hr))
  go_ret
  refine ⟨retB ?_, rfl⟩
  have h1 := hr.out.2.2
  have h2 := hc.out.out
  cases c
  · have : 0 ≤ r := h1.2 (fun h => by have := h2.2 h; cases this)
    simp; omega
  · have : ¬ 0 ≤ r := fun h => (h1.1 h) (h2.1 rfl)
    simp; omega

set_option maxHeartbeats 2000000 in
set_option maxRecDepth 100000 in
theorem codeOf_any (w : World) (m : Mach) (hk : m.Ok) (ws : ByteArray) (hws : ws.size < 1000000000000) (base : Nat) (v : Value) (qs : List Int) (h : Own w base 2 v (ints qs)) (hl : qs.length < 1000000) :
    Calls Try.prog 87 #[.agg (mcells m), .string ws, v] w fun e w' => e = .returned (.int .i64 (codeI m ws qs)) ∧ Below w.heap.size w w' := by
  have hM := hid (MB.new w m 27)
  have hO := hid (h.alloc (.cells (mcells m) 27))
  have hB := hid (below_alloc (Below.refl w.heap.size w) (Nat.le_refl _) (.cells (mcells m) 27))
  have hmf : ∀ (fn : Fn) (first cap : Array Value) (w : World), (Instr.makeFunc fn first cap).run Try.prog w = .ok (.func fn first cap) w := fun _ _ _ _ => rfl
  clear h
  by_cases hm : IsM m
  · obtain ⟨l, s, g⟩ := hm.good
    have hi := hid (show Tells true (IsM m) from ⟨fun _ => hm, fun _ => rfl⟩)
    have l2 := g.l2
    have l3 := g.l3
    have gL := hid g.L
    by_cases hw : IsWd l ws
    · have hwd := hid (fun W => isWord_any l (by omega) (by omega) ws hws true ⟨fun _ => hw, fun _ => rfl⟩ W)
      by_cases hq : ∀ q ∈ qs, 0 ≤ q ∧ q < (s : Int)
      · rw [codeI_0 g hw hq]
        have hcf := hid (fun W hM hO => containsFunc_states w.heap.size W m hM l s g base v qs hO hl true ⟨fun _ => hq, fun _ => rfl⟩)
        replace hk := hid hk; replace g := hid g; clear hm hw hq
        go_enter Try.func87, Try.ntmps87
        go_wp2_with (first
          | ((with_reducible refine gate (N := 8) rfl ?_); refine load_mach rfl _ rfl w.heap.size rfl m hM.out ?_)
          | (go_at_call 65; (with_reducible refine (IsMachine_any _ m hk.out true hi.out.out).mono ?_); rintro e w1 ⟨rfl, hb⟩; have hM2 := hid (hM.out.below hb hM.out.lt); have hO2 := hid (hO.out.below hb); have hB2 := hid (hB.out.trans (hb.mono hB.out.size)); have cL := hM2.out.cL; rw [gL.out] at cL; clear hb hM hB hO hi)
          | (go_at_call 128; (with_reducible refine (hwd.out _).mono ?_); rintro e w3 ⟨rfl, rfl⟩)
          | (go_at_call 122; (with_reducible refine (hcf.out _ hM2.out hO2.out).mono ?_); rintro e w4 ⟨rfl, rfl⟩))
        go_ret
        exact ⟨rfl, hB2.out⟩
      · rw [codeI_2 g hw hq]
        have hcf := hid (fun W hM hO => containsFunc_states w.heap.size W m hM l s g base v qs hO hl false ⟨fun h => (by cases h), fun h => absurd h hq⟩)
        replace hk := hid hk; replace g := hid g; clear hm hw hq
        go_enter Try.func87, Try.ntmps87
        go_wp2_with (first
          | ((with_reducible refine gate (N := 8) rfl ?_); refine load_mach rfl _ rfl w.heap.size rfl m hM.out ?_)
          | (go_at_call 65; (with_reducible refine (IsMachine_any _ m hk.out true hi.out.out).mono ?_); rintro e w1 ⟨rfl, hb⟩; have hM2 := hid (hM.out.below hb hM.out.lt); have hO2 := hid (hO.out.below hb); have hB2 := hid (hB.out.trans (hb.mono hB.out.size)); have cL := hM2.out.cL; rw [gL.out] at cL; clear hb hM hB hO hi)
          | (go_at_call 128; (with_reducible refine (hwd.out _).mono ?_); rintro e w3 ⟨rfl, rfl⟩)
          | (go_at_call 122; (with_reducible refine (hcf.out _ hM2.out hO2.out).mono ?_); rintro e w4 ⟨rfl, rfl⟩))
        go_ret
        exact ⟨rfl, hB2.out⟩
    · rw [codeI_w g hw]
      have hwd := hid (fun W => isWord_any l (by omega) (by omega) ws hws false ⟨fun h => (by cases h), fun h => absurd h hw⟩ W)
      replace hk := hid hk; replace g := hid g; clear hm hw
      go_enter Try.func87, Try.ntmps87
      go_wp2_with (first
        | ((with_reducible refine gate (N := 8) rfl ?_); refine load_mach rfl _ rfl w.heap.size rfl m hM.out ?_)
        | (go_at_call 65; (with_reducible refine (IsMachine_any _ m hk.out true hi.out.out).mono ?_); rintro e w1 ⟨rfl, hb⟩; have hM2 := hid (hM.out.below hb hM.out.lt); have hB2 := hid (hB.out.trans (hb.mono hB.out.size)); have cL := hM2.out.cL; rw [gL.out] at cL; clear hb hM hB hO hi)
        | (go_at_call 128; (with_reducible refine (hwd.out _).mono ?_); rintro e w3 ⟨rfl, rfl⟩))
      go_ret
      exact ⟨rfl, hB2.out⟩
  · rw [codeI_1 hm]
    have hi := hid (show Tells false (IsM m) from ⟨fun h => (by cases h), fun h => absurd h hm⟩)
    replace hk := hid hk; clear hm
    go_enter Try.func87, Try.ntmps87
    go_wp2_with (first
      | ((with_reducible refine gate (N := 8) rfl ?_); refine load_mach rfl _ rfl w.heap.size rfl m hM.out ?_)
      | (go_at_call 65; (with_reducible refine (IsMachine_any _ m hk.out false hi.out.out).mono ?_); rintro e w1 ⟨rfl, hb⟩; have hB2 := hid (hB.out.trans (hb.mono hB.out.size)); clear hb hM hB hO hi))
    go_ret
    exact ⟨rfl, hB2.out⟩
end Go.Proofs.Ytbmkkaecfogmoaa

/- Levels of machines: their codes, and what states and their inverses make of them. -/
namespace Go.Proofs.Ytbmkkaecfogmoaa
open Go.RowKit
set_option linter.unusedVariables false
set_option linter.unusedSimpArgs false

theorem pw_small (l n : Nat) (hl : l ≤ 3) (hn : n ≤ 5) : pw l n ≤ 243 := by
  have : ∀ a : Fin 4, ∀ b : Fin 6, pw a b ≤ 243 := by decide
  exact this ⟨l, by omega⟩ ⟨n, by omega⟩

open Classical in
/-- The code of a machine and a level. -/
noncomputable def levelI (m : Mach) (n : Int) : Int := if IsM m then if 0 ≤ n ∧ n ≤ 7 - m.L then 0 else 2 else 1
theorem levelI_1 {m : Mach} {n : Int} (h : ¬ IsM m) : levelI m n = 1 := by unfold levelI; rw [if_neg h]
theorem levelI_2 {m : Mach} {n : Int} {l s : Nat} (g : Good m l s) (h : ¬ (0 ≤ n ∧ n ≤ 7 - (l : Int))) : levelI m n = 2 := by unfold levelI; rw [if_pos g.isM, g.L, if_neg h]
theorem levelI_0 {m : Mach} {n : Int} {l s : Nat} (g : Good m l s) (h : 0 ≤ n ∧ n ≤ 7 - (l : Int)) : levelI m n = 0 := by unfold levelI; rw [if_pos g.isM, g.L, if_pos h]

set_option maxHeartbeats 1000000 in
theorem isLevel_any (b : Nat) (w : World) (m : Mach) (hm : MB w 27 b m) (l s : Nat) (g : Good m l s) (n : Int) (r : Bool) (hr : r = decide (0 ≤ n ∧ n ≤ 7 - (l : Int))) :
    Calls Try.prog 199 #[.pointer (some ⟨b, 0, none⟩), .int .i64 n] w fun e w' => e = .returned (.bool r) ∧ w = w' := by
  have cL := hm.cL
  rw [g.L] at cL
  have l2 := g.l2
  have l3 := g.l3
  clear hm g
  by_cases h5 : 0 ≤ n ∧ n ≤ 5
  · have hin := hid (fun W => within_any n 0 5 true (decide_eq_true h5).symm W)
    by_cases hl : l = 2
    · subst hl
      have hr' : r = true := by rw [hr]; exact decide_eq_true (by omega)
      subst hr'
      clear hr h5
      go_enter Try.func199, Try.ntmps199
      go_wp2_with (first
        | (go_at_call 124; (with_reducible refine (hin.out _).mono ?_); rintro e w1 ⟨rfl, rfl⟩))
      go_ret
      exact ⟨rfl, rfl⟩
    · have hl' : l = 3 := by omega
      subst hl'
      have hr' : r = decide (n < 5) := by rw [hr]; congr 1; apply propext; omega
      subst hr'
      clear hr
      go_enter Try.func199, Try.ntmps199
      go_wp2_with (first
        | (go_at_call 124; (with_reducible refine (hin.out _).mono ?_); rintro e w1 ⟨rfl, rfl⟩))
      go_ret
      exact ⟨rfl, rfl⟩
  · have hin := hid (fun W => within_any n 0 5 false (decide_eq_false h5).symm W)
    have hr' : r = false := by rw [hr]; exact decide_eq_false (by omega)
    subst hr'
    clear hr h5
    go_enter Try.func199, Try.ntmps199
    go_wp2_with (first
      | (go_at_call 124; (with_reducible refine (hin.out _).mono ?_); rintro e w1 ⟨rfl, rfl⟩))
    go_ret
    exact ⟨rfl, rfl⟩

set_option maxHeartbeats 1000000 in
theorem levelCode_any (w : World) (m : Mach) (hk : m.Ok) (n : Int) :
    Calls Try.prog 100 #[.agg (mcells m), .int .i64 n] w fun e w' => e = .returned (.int .i64 (levelI m n)) ∧ Below w.heap.size w w' := by
  have hM := hid (MB.new w m 27)
  have hB := hid (below_alloc (Below.refl w.heap.size w) (Nat.le_refl _) (.cells (mcells m) 27))
  by_cases hm : IsM m
  · obtain ⟨l, s, g⟩ := hm.good
    have hi := hid (show Tells true (IsM m) from ⟨fun _ => hm, fun _ => rfl⟩)
    by_cases hn : 0 ≤ n ∧ n ≤ 7 - (l : Int)
    · rw [levelI_0 g hn]
      have hl := hid (fun W hW => isLevel_any w.heap.size W m hW l s g n true (decide_eq_true hn).symm)
      replace hk := hid hk; clear hm hn g
      go_enter Try.func100, Try.ntmps100
      go_wp2_with (first
        | ((with_reducible refine gate (N := 6) rfl ?_); refine load_mach rfl _ rfl w.heap.size rfl m hM.out ?_)
        | (go_at_call 65; (with_reducible refine (IsMachine_any _ m hk.out true hi.out.out).mono ?_); rintro e w1 ⟨rfl, hb⟩; have hM2 := hid (hM.out.below hb hM.out.lt); have hB2 := hid (hB.out.trans (hb.mono hB.out.size)); clear hb hM hB hi)
        | (go_at_call 199; (with_reducible refine (hl.out _ hM2.out).mono ?_); rintro e w3 ⟨rfl, rfl⟩))
      go_ret
      exact ⟨rfl, hB2.out⟩
    · rw [levelI_2 g hn]
      have hl := hid (fun W hW => isLevel_any w.heap.size W m hW l s g n false (decide_eq_false hn).symm)
      replace hk := hid hk; clear hm hn g
      go_enter Try.func100, Try.ntmps100
      go_wp2_with (first
        | ((with_reducible refine gate (N := 6) rfl ?_); refine load_mach rfl _ rfl w.heap.size rfl m hM.out ?_)
        | (go_at_call 65; (with_reducible refine (IsMachine_any _ m hk.out true hi.out.out).mono ?_); rintro e w1 ⟨rfl, hb⟩; have hM2 := hid (hM.out.below hb hM.out.lt); have hB2 := hid (hB.out.trans (hb.mono hB.out.size)); clear hb hM hB hi)
        | (go_at_call 199; (with_reducible refine (hl.out _ hM2.out).mono ?_); rintro e w3 ⟨rfl, rfl⟩))
      go_ret
      exact ⟨rfl, hB2.out⟩
  · rw [levelI_1 hm]
    have hi := hid (show Tells false (IsM m) from ⟨fun h => (by cases h), fun h => absurd h hm⟩)
    replace hk := hid hk; clear hm
    go_enter Try.func100, Try.ntmps100
    go_wp2_with (first
      | ((with_reducible refine gate (N := 6) rfl ?_); refine load_mach rfl _ rfl w.heap.size rfl m hM.out ?_)
      | (go_at_call 65; (with_reducible refine (IsMachine_any _ m hk.out false hi.out.out).mono ?_); rintro e w1 ⟨rfl, hb⟩; have hB2 := hid (hB.out.trans (hb.mono hB.out.size)); clear hb hM hB hi))
    go_ret
    exact ⟨rfl, hB2.out⟩

set_option maxHeartbeats 1000000 in
theorem l05Code_any (w : World) (m : Mach) (hk : m.Ok) (n : Int) :
    Calls Try.prog 195 #[.agg (mcells m), .int .i64 n] w fun e w' => e = .returned (.int .i64 (levelI m n)) ∧ Below w.heap.size w w' := by
  have hM := hid (MB.new w m 27)
  have hB := hid (below_alloc (Below.refl w.heap.size w) (Nat.le_refl _) (.cells (mcells m) 27))
  by_cases hm : IsM m
  · obtain ⟨l, s, g⟩ := hm.good
    have hi := hid (show Tells true (IsM m) from ⟨fun _ => hm, fun _ => rfl⟩)
    have gL := hid g.L
    have l2 := g.l2
    have l3 := g.l3
    by_cases hn : 0 ≤ n ∧ n ≤ 7 - (l : Int)
    · rw [levelI_0 g hn]
      have hl := hid (fun W => l01In_any n 0 (7 - (l : Int)) true (decide_eq_true hn).symm W)
      replace hk := hid hk; clear hm hn g
      go_enter Try.func195, Try.ntmps195
      go_wp2_with (first
        | ((with_reducible refine gate (N := 6) rfl ?_); refine load_mach rfl _ rfl w.heap.size rfl m hM.out ?_)
        | (go_at_call 80; (with_reducible refine (l01Is_any _ m hk.out true hi.out.out).mono ?_); rintro e w1 ⟨rfl, hb⟩; have hM2 := hid (hM.out.below hb hM.out.lt); have hB2 := hid (hB.out.trans (hb.mono hB.out.size)); have cL := hM2.out.cL; rw [gL.out] at cL; clear hb hM hB hi)
        | (go_at_call 91; (with_reducible refine (hl.out _).mono ?_); rintro e w3 ⟨rfl, rfl⟩))
      go_ret
      exact ⟨rfl, hB2.out⟩
    · rw [levelI_2 g hn]
      have hl := hid (fun W => l01In_any n 0 (7 - (l : Int)) false (decide_eq_false hn).symm W)
      replace hk := hid hk; clear hm hn g
      go_enter Try.func195, Try.ntmps195
      go_wp2_with (first
        | ((with_reducible refine gate (N := 6) rfl ?_); refine load_mach rfl _ rfl w.heap.size rfl m hM.out ?_)
        | (go_at_call 80; (with_reducible refine (l01Is_any _ m hk.out true hi.out.out).mono ?_); rintro e w1 ⟨rfl, hb⟩; have hM2 := hid (hM.out.below hb hM.out.lt); have hB2 := hid (hB.out.trans (hb.mono hB.out.size)); have cL := hM2.out.cL; rw [gL.out] at cL; clear hb hM hB hi)
        | (go_at_call 91; (with_reducible refine (hl.out _).mono ?_); rintro e w3 ⟨rfl, rfl⟩))
      go_ret
      exact ⟨rfl, hB2.out⟩
  · rw [levelI_1 hm]
    have hi := hid (show Tells false (IsM m) from ⟨fun h => (by cases h), fun h => absurd h hm⟩)
    replace hk := hid hk; clear hm
    go_enter Try.func195, Try.ntmps195
    go_wp2_with (first
      | ((with_reducible refine gate (N := 6) rfl ?_); refine load_mach rfl _ rfl w.heap.size rfl m hM.out ?_)
      | (go_at_call 80; (with_reducible refine (l01Is_any _ m hk.out false hi.out.out).mono ?_); rintro e w1 ⟨rfl, hb⟩; have hB2 := hid (hB.out.trans (hb.mono hB.out.size)); clear hb hM hB hi))
    go_ret
    exact ⟨rfl, hB2.out⟩

/-! ### What a state and its inverse make of a level undo each other -/
theorem inv_cells {m : Mach} {l s : Nat} (g : Good m l s) (q y : Nat) (hq : q < s) (hy : y < l) :
    (inv m l s).nx (q * 3 + m.ot (q * 3 + y)) = m.nx (q * 3 + y) ∧ (inv m l s).ot (q * 3 + m.ot (q * 3 + y)) = y := allI_in m l g.l3 s g.ot g.inj q y hq hy
theorem out_surj {m : Mach} {l s : Nat} (g : Good m l s) (q x : Nat) (hq : q < s) (hx : x < l) : ∃ y, y < l ∧ m.ot (q * 3 + y) = x :=
  surj_of_inj (f := fun y => m.ot (q * 3 + y)) (fun y hy => g.ot q y hq hy) (fun y x hy hx => g.inj q hq y x hy hx) x hx
theorem img_inv {m : Mach} {l s : Nat} (g : Good m l s) : ∀ (u : List Nat) (q : Nat), q < s → (∀ x ∈ u, x < l) → img (inv m l s) q (img m q u) = u ∧ sec (inv m l s) q (img m q u) = sec m q u
  | [], _, _, _ => ⟨rfl, rfl⟩
  | x :: u, q, hq, hu => by
    have hx := hu x (by simp)
    obtain ⟨h1, h2⟩ := inv_cells g q x hq hx
    have ih := img_inv g u (m.nx (q * 3 + x)) (g.nx q x hq hx) (fun y hy => hu y (by simp [hy]))
    simp only [img, sec, h1, h2, ih.1, ih.2]
    exact ⟨trivial, trivial⟩
theorem inv_img {m : Mach} {l s : Nat} (g : Good m l s) : ∀ (u : List Nat) (q : Nat), q < s → (∀ x ∈ u, x < l) → img m q (img (inv m l s) q u) = u
  | [], _, _, _ => rfl
  | x :: u, q, hq, hu => by
    obtain ⟨y, hy, rfl⟩ := out_surj g q x hq (hu x (by simp))
    obtain ⟨h1, h2⟩ := inv_cells g q y hq hy
    have ih := inv_img g u (m.nx (q * 3 + y)) (g.nx q y hq hy) (fun z hz => hu z (by simp [hz]))
    simp only [img, h1, h2, ih]

/-- One number of a level. -/
def pf (m : Mach) (d q n k : Nat) : Nat := num d (img m q (wrd d n k))
theorem perm_pf (m : Mach) (d q n : Nat) : perm m d q n = (List.range (pw d n)).map (pf m d q n) := rfl
theorem pf_lt {m : Mach} {l s : Nat} (g : Good m l s) (q n k : Nat) (hq : q < s) : pf m l q n k < pw l n :=
  num_lt l n _ ((img_length m _ q).trans (wrd_length l n k)) (img_lt g _ q hq (wrd_lt l (by have := g.l2; omega) n k))
theorem pf_inv {m : Mach} {l s : Nat} (g : Good m l s) (q n k : Nat) (hq : q < s) (hk : k < pw l n) : pf (inv m l s) l q n (pf m l q n k) = k := by
  have hl : 0 < l := by have := g.l2; omega
  unfold pf
  rw [wrd_num l hl n _ ((img_length m _ q).trans (wrd_length l n k)) (img_lt g _ q hq (wrd_lt l hl n k)), (img_inv g _ q hq (wrd_lt l hl n k)).1, num_wrd l hl n k hk]
theorem inv_pf {m : Mach} {l s : Nat} (g : Good m l s) (q n k : Nat) (hq : q < s) (hk : k < pw l n) : pf m l q n (pf (inv m l s) l q n k) = k := by
  have hl : 0 < l := by have := g.l2; omega
  have g' := inv_good g
  unfold pf
  rw [wrd_num l hl n _ ((img_length _ _ q).trans (wrd_length l n k)) (img_lt g' _ q hq (wrd_lt l hl n k)), inv_img g _ q hq (wrd_lt l hl n k), num_wrd l hl n k hk]
end Go.Proofs.Ytbmkkaecfogmoaa
