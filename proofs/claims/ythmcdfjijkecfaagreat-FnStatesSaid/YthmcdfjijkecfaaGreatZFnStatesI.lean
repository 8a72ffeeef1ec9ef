/- What the proof of FnStates leans on, part 9 of 29. -/
import Derived.Test.YthmcdfjijkecfaaGreatZFnStatesH
import Derived.Deep.RegionWith
import Derived.IntWalk
import Derived.Deep.RegionHeld3
import Derived.Deep.MidRow
import Derived.BigQuiet
import Derived.Laws.OwnMore
/- Words and their numbers: wordOf, numberOf of the program and of the reference. -/
namespace Go.Proofs.YthmcdfjijkecfaaGreat
open Go.RowKit
set_option linter.unusedVariables false
set_option linter.unusedSimpArgs false

/-- The word of the length n with the number k, for d letters. -/
def wrd (d : Nat) : Nat → Nat → List Nat
  | 0, _ => []
  | n + 1, k => wrd d n (k / d) ++ [k % d]
/-- The number of a word. -/
def num (d : Nat) (u : List Nat) : Nat := u.foldl (fun n x => n * d + x) 0

theorem wrd_length (d : Nat) : ∀ n k, (wrd d n k).length = n
  | 0, _ => rfl
  | n + 1, k => by simp [wrd, wrd_length d n]
theorem wrd_lt (d : Nat) (hd : 0 < d) : ∀ n k, ∀ x ∈ wrd d n k, x < d
  | 0, _, x, h => by simp [wrd] at h
  | n + 1, k, x, h => by
    simp only [wrd, List.mem_append, List.mem_singleton] at h
    rcases h with h | rfl
    · exact wrd_lt d hd n _ x h
    · exact Nat.mod_lt _ hd
theorem num_snoc (d : Nat) (u : List Nat) (x : Nat) : num d (u ++ [x]) = num d u * d + x := by simp [num]
theorem num_wrd (d : Nat) (hd : 0 < d) : ∀ n k, k < pw d n → num d (wrd d n k) = k
  | 0, k, h => by simp only [pw] at h; simp [wrd, num]; omega
  | n + 1, k, h => by
    rw [wrd, num_snoc, num_wrd d hd n (k / d) (by rw [Nat.div_lt_iff_lt_mul hd]; exact h)]
    exact Nat.div_add_mod' k d
theorem num_lt (d : Nat) : ∀ (n : Nat) (u : List Nat), u.length = n → (∀ x ∈ u, x < d) → num d u < pw d n
  | 0, u, h, _ => by obtain rfl := List.eq_nil_of_length_eq_zero h; simp [num, pw]
  | n + 1, u, h, hu => by
    have hne : u ≠ [] := fun e => by rw [e] at h; simp at h
    obtain ⟨v, x, rfl⟩ : ∃ v x, u = v ++ [x] := ⟨u.dropLast, u.getLast hne, (List.dropLast_concat_getLast hne).symm⟩
    have hv := num_lt d n v (by simpa using h) (fun y hy => hu y (by simp [hy]))
    have hx := hu x (by simp)
    rw [num_snoc]
    show _ < pw d n * d
    calc num d v * d + x < num d v * d + d := by omega
      _ = (num d v + 1) * d := by rw [Nat.succ_mul]
      _ ≤ pw d n * d := Nat.mul_le_mul_right _ hv
theorem wrd_num (d : Nat) (hd : 0 < d) : ∀ (n : Nat) (u : List Nat), u.length = n → (∀ x ∈ u, x < d) → wrd d n (num d u) = u
  | 0, u, h, _ => by obtain rfl := List.eq_nil_of_length_eq_zero h; rfl
  | n + 1, u, h, hu => by
    have hne : u ≠ [] := fun e => by rw [e] at h; simp at h
    obtain ⟨v, x, rfl⟩ : ∃ v x, u = v ++ [x] := ⟨u.dropLast, u.getLast hne, (List.dropLast_concat_getLast hne).symm⟩
    have hx := hu x (by simp)
    have h1 : (num d v * d + x) / d = num d v := by
      rw [Nat.mul_comm, Nat.mul_add_div hd, Nat.div_eq_of_lt hx, Nat.add_zero]
    have h2 : (num d v * d + x) % d = x := by
      rw [Nat.mul_comm, Nat.mul_add_mod, Nat.mod_eq_of_lt hx]
    rw [num_snoc]
    show wrd d n ((num d v * d + x) / d) ++ [(num d v * d + x) % d] = v ++ [x]
    rw [h1, h2, wrd_num d hd n v (by simpa using h) (fun y hy => hu y (by simp [hy]))]

/-- The last j digits of a word stand, and before them zero bytes. -/
def dgsB (u : List Nat) (from' : Nat) (i : Nat) : Value := .int .u8 (if from' ≤ i ∧ i < u.length then 48 + u.getD i 0 else 0 : Nat)

/-- The number that is left after j digits. -/
def shr (d : Nat) (k : Nat) : Nat → Nat
  | 0 => k
  | j + 1 => shr d k j / d
theorem shr_le (d k : Nat) : ∀ j, shr d k j ≤ k
  | 0 => Nat.le_refl _
  | j + 1 => Nat.le_trans (Nat.div_le_self _ _) (shr_le d k j)
theorem shr_succ (d k : Nat) : ∀ j, shr d (k / d) j = shr d k (j + 1)
  | 0 => rfl
  | j + 1 => by rw [shr, shr_succ d k j]; rfl
theorem wrd_getD (d : Nat) : ∀ n k j, j < n → (wrd d n k).getD (n - 1 - j) 0 = shr d k j % d
  | 0, _, j, h => absurd h (by omega)
  | n + 1, k, 0, _ => by
    simp [wrd, shr, wrd_length, List.getD_eq_getElem?_getD]
  | n + 1, k, j + 1, h => by
    have := wrd_getD d n (k / d) j (by omega)
    rw [shr_succ] at this
    rw [← this, wrd, List.getD_eq_getElem?_getD, List.getD_eq_getElem?_getD, List.getElem?_append_left (by rw [wrd_length]; omega)]
    congr 2; omega

theorem shr_dgs (d n k c i : Nat) (hc : c < n) : (if i = c then Value.int .u8 (48 + ((shr d k (n - (c + 1)) % d : Nat) : Int)) else dgsB (wrd d n k) (c + 1) i) = dgsB (wrd d n k) c i := by
  unfold dgsB
  rw [wrd_length]
  by_cases h : i = c
  · subst h
    have := wrd_getD d n k (n - (i + 1)) (by omega)
    rw [show n - 1 - (n - (i + 1)) = i by omega] at this
    rw [if_pos rfl, if_pos (by omega), this]
    simp
  · rw [if_neg h]
    by_cases h2 : c + 1 ≤ i ∧ i < n
    · rw [if_pos h2, if_pos (by omega)]
    · rw [if_neg h2, if_neg (by omega)]
theorem dgsB_zero (u : List Nat) (i : Nat) : dgsB u 0 i = dgs u i := by simp [dgsB, dgs]

set_option maxHeartbeats 1000000 in
set_option maxRecDepth 100000 in
theorem wordOf_any (d n k : Nat) (hd : 0 < d) (h3 : d ≤ 3) (hn : n ≤ 40) (hk : k ≤ 1000000000) (w : World) :
    Calls Tryz.prog 127 #[.int .i64 d, .int .i64 n, .int .i64 k] w fun e w' => e = .returned (.string (wstr (wrd d n k))) ∧ Below w.heap.size w w' := by
  have hmk := fun W : World => run_make_row' (P := Tryz.prog) 22 5 (.int .u8 0) 1 Tryz.underlying22 info_u8 rfl .i64 .i64 n (by omega) (by omega) W
  have hmade := hid (World.rowIs_made w (.int .u8 0) n 5)
  have hB := hid (below_alloc (Below.refl w.heap.size w) (Nat.le_refl _) (.cells (madeCells #[.int .u8 0] n) 5))
  generalize hmc : madeCells #[.int .u8 0] n = mc at *
  clear hmc
  go_enter Tryz.func127, Tryz.ntmps127
  go_wp2
  clear hmk
  go_loopw [2, 8] (fun p i wr => ∃ c : Nat, c ≤ n ∧ i = .int .i64 ((c : Int) - 1) ∧ p = .int .i64 (shr d k (n - c) : Nat) ∧ wr.rowIs w.heap.size 5 n (dgsB (wrd d n k) c) ∧ Below w.heap.size w wr) (fun _ i _ => ((intOf i) + 1).toNat)
  case atStart =>
    refine ⟨n, Nat.le_refl _, by go_num, by rw [Nat.sub_self]; rfl, World.rowIs.congr hmade.out (fun i hi => ?_), hB.out⟩
    unfold dgsB
    rw [if_neg (by omega)]; rfl
  case round =>
    obtain ⟨c, hc, rfl, rfl, r1, rB⟩ := hrel
    clear hmade hB
    have hle := shr_le d k (n - c)
    replace r1 := hid r1; replace rB := hid rB
    cases c with
    | succ c =>
      have hst := hid (fun i => shr_dgs d n k c i hc)
      have hsd := hid (show shr d k (n - c) = shr d k (n - (c + 1)) / d by rw [show n - c = (n - (c + 1)) + 1 by omega]; rfl)
      have hmod := Nat.mod_lt (shr d k (n - (c + 1))) hd
      obtain ⟨vo, co⟩ : ∃ v, wr.cell? ⟨w.heap.size, c, none⟩ = some v := ⟨_, r1.out.cell (by omega)⟩
      have fo : wr.frozen? ⟨w.heap.size, c, none⟩ = false := r1.out.frozen _
      have hdv := Nat.div_le_self (shr d k (n - (c + 1))) d
      generalize hp : shr d k (n - (c + 1)) = p at *
      replace hp := hid hp
      have e0 : ((c + 1 : Nat) : Int) - 1 = c := by omega
      rw [e0]
      clear e0
      have d0 : ¬ (d : Int) = 0 := by omega
      have m1 : Int.tmod (p : Int) (d : Int) = ((p % d : Nat) : Int) := by rw [Int.tmod_eq_emod_of_nonneg (by omega)]; omega
      have m2 : Int.tdiv (p : Int) (d : Int) = ((p / d : Nat) : Int) := by rw [Int.tdiv_eq_ediv_of_nonneg (by omega)]; omega
      generalize p % d = r at *
      generalize hpd : p / d = q at *
      replace hpd := hid hpd
      go_wp2_with (first
        | (go_at_call 183; (with_reducible refine (letter_any r (by omega) _).mono ?_); rintro e w1 ⟨rfl, rfl⟩))
      go_roundw
      case rel =>
        exact ⟨c, by omega, rfl, by rw [hsd.out], World.rowIs.congr (World.rowIs.set r1.out c _) (fun i _ => hst.out i), rB.out.setCell (by simp) _⟩
      case measure => simp [intOf]
    | zero =>
      have hconv := conv_dgs (wrd_length d n k) (World.rowIs.congr r1.out (fun i hi => by rw [dgsB_zero]))
      go_wp2
      go_ret
      exact ⟨rfl, rB.out⟩

/-- A word's letters as the number grows, in range. -/
theorem num_step (d : Nat) (hd : 0 < d) (u : List Nat) (hu : ∀ x ∈ u, x < d) (hb : pw d u.length < 9223372036854775808) (k : Nat) (hk : k < u.length) :
    num d (u.take (k + 1)) = num d (u.take k) * d + u.getD k 0 ∧ num d (u.take k) * d + u.getD k 0 < 9223372036854775808 := by
  have h1 : num d (u.take (k + 1)) = num d (u.take k) * d + u.getD k 0 := by rw [take_snoc' u k hk, num_snoc]
  have h2 := num_lt d (k + 1) (u.take (k + 1)) (by rw [List.length_take]; omega) (fun x hx => hu x (List.mem_of_mem_take hx))
  have h3 := pw_le d hd (show k + 1 ≤ u.length by omega)
  exact ⟨h1, by omega⟩

set_option maxHeartbeats 1000000 in
set_option maxRecDepth 100000 in
theorem numberOf_any (d : Nat) (hd : 0 < d) (h3 : d ≤ 3) (u : List Nat) (hu : ∀ x ∈ u, x < d) (hb : pw d u.length < 9223372036854775808) (hlen : u.length ≤ 1000) (w : World) :
    Calls Tryz.prog 193 #[.int .i64 d, .string (wstr u)] w fun e w' => e = .returned (.int .i64 (num d u : Nat)) ∧ w = w' := by
  have hsz := wstr_size u
  have hbyte := hid (fun k hk => wstr_byte u k hk (fun x hx => by have := hu x hx; omega))
  have hst := hid (fun k hk => num_step d hd u hu hb k hk)
  have hmem := hid (fun k hk => hu _ (getD_mem u k hk))
  generalize hws : wstr u = ws at *
  clear hws hu hb
  go_enter Tryz.func193, Tryz.ntmps193
  go_wp2
  go_loop [5, 9] (fun p i => ∃ k : Nat, k ≤ u.length ∧ i = .int .i64 k ∧ p = .int .i64 (num d (u.take k) : Nat)) (fun _ i => u.length - (intOf i).toNat)
  case atStart => exact ⟨0, by omega, rfl, rfl⟩
  case round =>
    obtain ⟨k, hk, rfl, rfl⟩ := hrel
    by_cases hlt : k < u.length
    · have hby := hbyte.out k (by omega)
      have hx := hmem.out k hlt
      obtain ⟨hs1, hs2⟩ := hst.out k hlt
      generalize u.getD k 0 = x at *
      generalize num d (u.take k) = p at *
      replace hs1 := hid hs1
      have e1 : 48 + (x : Int) - 48 = x := by omega
      have e2 : (p : Int) * (d : Int) = ((p * d : Nat) : Int) := by simp
      have hpd : p * d < 9223372036854775808 := by omega
      generalize hpe : p * d = pd at *
      replace hpe := hid hpe
      go_wp2
      go_round
      case rel => exact ⟨k + 1, by omega, by go_num, by rw [hs1.out]; simp⟩
      case measure => simp [intOf]; omega
    · obtain rfl : k = u.length := by omega
      rw [List.take_length]
      go_wp2
      go_ret
      exact ⟨rfl, rfl⟩

set_option maxHeartbeats 1000000 in
set_option maxRecDepth 100000 in
theorem l01NumberOf_any (d : Nat) (hd : 0 < d) (h3 : d ≤ 3) (u : List Nat) (hu : ∀ x ∈ u, x < d) (hb : pw d u.length < 9223372036854775808) (hlen : u.length ≤ 1000) (w : World) :
    Calls Tryz.prog 210 #[.int .i64 d, .string (wstr u)] w fun e w' => e = .returned (.int .i64 (num d u : Nat)) ∧ w = w' := by
  have hsz := wstr_size u
  have hbyte := hid (fun k hk => wstr_byte u k hk (fun x hx => by have := hu x hx; omega))
  have hst := hid (fun k hk => num_step d hd u hu hb k hk)
  have hmem := hid (fun k hk => hu _ (getD_mem u k hk))
  generalize hws : wstr u = ws at *
  clear hws hu hb
  go_enter Tryz.func210, Tryz.ntmps210
  go_wp2
  go_loop [5, 6] (fun p i => ∃ k : Nat, k ≤ u.length ∧ i = .int .i64 k ∧ p = .int .i64 (num d (u.take k) : Nat)) (fun _ i => u.length - (intOf i).toNat)
  case atStart => exact ⟨0, by omega, rfl, rfl⟩
  case round =>
    obtain ⟨k, hk, rfl, rfl⟩ := hrel
    by_cases hlt : k < u.length
    · have hby := hbyte.out k (by omega)
      have hx := hmem.out k hlt
      obtain ⟨hs1, hs2⟩ := hst.out k hlt
      generalize u.getD k 0 = x at *
      generalize num d (u.take k) = p at *
      replace hs1 := hid hs1
      have e1 : 48 + (x : Int) - 48 = x := by omega
      have e2 : (p : Int) * (d : Int) = ((p * d : Nat) : Int) := by simp
      have hpd : p * d < 9223372036854775808 := by omega
      generalize hpe : p * d = pd at *
      replace hpe := hid hpe
      go_wp2
      go_round
      case rel => exact ⟨k + 1, by omega, by go_num, by rw [hs1.out]; simp⟩
      case measure => simp [intOf]; omega
    · obtain rfl : k = u.length := by omega
      rw [List.take_length]
      go_wp2
      go_ret
      exact ⟨rfl, rfl⟩

theorem wstr_append (u v : List Nat) : wstr (u ++ v) = wstr u ++ wstr v := by
  simp [wstr, strOfNums, ByteArray.ext_iff]
theorem conv1 (b : Nat) (W : World) (r : Nat) (hc : W.cell? ⟨b, 0, none⟩ = some (.int .u8 (48 + (r : Int)))) :
    (convert 22 9 (.slice (some ⟨b, 0, none⟩) 1 1)).run Tryz.prog W = .ok (.string (wstr [r])) W := by
  refine run_convert_bytes_arg W 22 5 Tryz.underlying22 Tryz.underlying5 b 0 1 1 [48 + (r : Int)] (by simp) (fun i hi => ?_) 9 Tryz.underlying9
  obtain rfl : i = 0 := by simpa using hi
  rw [hc]; rfl

theorem fin1 {w w1 : World} (hb : Below w.drew.heap.size w.drew w1) (o : Obj) : Below w.heap.size w (w1.alloc o) :=
  Below.alloc (w := w1) (show Below w.heap.size w w1 from Below.trans (Below.drew (Below.refl w.heap.size w)) hb) hb.size o
theorem fin2 {w w1 : World} {o : Obj} (hb : Below (w.alloc o).drew.heap.size (w.alloc o).drew w1) : Below w.heap.size w w1 :=
  (below_alloc (Below.refl w.heap.size w) (Nat.le_refl _) o).drew.trans (hb.mono (by rw [show (w.alloc o).drew.heap.size = (w.alloc o).heap.size from rfl, heap_alloc_size]; omega))

set_option maxHeartbeats 2000000 in
set_option maxRecDepth 100000 in
theorem l01WordOf_any (d : Nat) (hd : 0 < d) (h3 : d ≤ 3) : ∀ (n k : Nat) (_ : n ≤ 40) (_ : k ≤ 1000000000) (w : World),
    Calls Tryz.prog 128 #[.int .i64 d, .int .i64 n, .int .i64 k] w fun e w' => e = .returned (.string (wstr (wrd d n k))) ∧ Below w.heap.size w w'
  | 0, k, hn, hk, w => by
    have hw := hid (show wstr (wrd d 0 k) = ByteArray.empty by rfl)
    have hw' := hid (show ByteArray.empty = ({ data := #[] } : ByteArray) by rfl)
    rw [hw.out, hw'.out]
    go_enter Tryz.func128, Tryz.ntmps128
    go_wp2
    go_ret
    exact ⟨rfl, Below.refl _ _⟩
  | n + 1, k, hn, hk, w => by
    have hdv := Nat.div_le_self k d
    have ih := hid (fun W => l01WordOf_any d hd h3 n (k / d) (by omega) (by omega) W)
    have hmod := Nat.mod_lt k hd
    have hw := hid (show wrd d (n + 1) k = wrd d n (k / d) ++ [k % d] from rfl)
    have d0 : ¬ (d : Int) = 0 := by omega
    have m1 : Int.tmod (k : Int) (d : Int) = ((k % d : Nat) : Int) := by rw [Int.tmod_eq_emod_of_nonneg (by omega)]; omega
    have m2 : Int.tdiv (k : Int) (d : Int) = ((k / d : Nat) : Int) := by rw [Int.tdiv_eq_ediv_of_nonneg (by omega)]; omega
    generalize hr : k % d = r at *
    generalize hpd : k / d = q at *
    replace hpd := hid hpd; replace hr := hid hr
    go_enter Tryz.func128, Tryz.ntmps128
    have e1 : ((n + 1 : Nat) : Int) - 1 = n := by omega
    have s1 : IntKind.i64.wrap (((n + 1 : Nat) : Int) - 1) = n := by rw [e1]; exact IntWalk.i64_in _ (by omega)
    have s4 : IntKind.i64.wrap (q : Int) = q := IntWalk.i64_in _ (by omega)
    have s2 : IntKind.i64.wrap (48 + (r : Int)) = 48 + r := IntWalk.i64_in _ (by omega)
    have s3 : IntKind.u8.wrap (48 + (r : Int)) = 48 + r := IntWalk.u8_in _ (by omega)
    have hcv := fun (b : Nat) (W : World) (hc : W.cell? ⟨b, 0, none⟩ = some (.int .u8 (48 + (r : Int)))) => conv1 b W r hc
    have hz1 : (wstr (wrd d n q)).size = n := by rw [wstr_size, wrd_length]
    have hz2 : (wstr [r]).size = 1 := by rw [wstr_size]; rfl
    have hz3 : (wstr (wrd d n q) ++ wstr [r]).size = n + 1 := by rw [ByteArray.size_append, hz1, hz2]
    replace hw := hid (show wstr (wrd d (n + 1) k) = wstr (wrd d n q) ++ wstr [r] by rw [hw.out, wstr_append])
    generalize wstr (wrd d (n + 1) k) = res at *
    generalize wstr (wrd d n q) = res1 at *
    generalize wstr [r] = res2 at *
    go_upto_region 3 with (fail)
    go_region_with (go_at_call 128; (with_reducible refine (ih.out _).mono ?_); rintro e w1 ⟨rfl, hb⟩; (have hc1 := fun h => hb.cell (p := ⟨w.heap.size, 0, none⟩) h; simp at hc1))
    all_goals (go_wp2; go_ret; refine ⟨by rw [hw.out]; rfl, ?_⟩; first | exact fin1 hb _ | exact fin2 hb)
end Go.Proofs.YthmcdfjijkecfaaGreat

/- Levels: the words of a level, and what a state makes of them. -/
namespace Go.Proofs.YthmcdfjijkecfaaGreat
open Go.RowKit
set_option linter.unusedVariables false
set_option linter.unusedSimpArgs false

/-- Numbers as the cells of a slice. -/
def ints (l : List Int) : List Value := l.map (Value.int .i64)
def nats (l : List Nat) : List Value := l.map fun x : Nat => .int .i64 (x : Int)
theorem ints_length (l : List Int) : (ints l).length = l.length := by simp [ints]
theorem nats_length (l : List Nat) : (nats l).length = l.length := by simp [nats]
theorem ints_snoc (l : List Int) (x : Int) : ints (l ++ [x]) = ints l ++ [.int .i64 x] := by simp [ints]
theorem nats_snoc (l : List Nat) (x : Nat) : nats (l ++ [x]) = nats l ++ [.int .i64 (x : Int)] := by simp [nats]
theorem nats_ints (l : List Nat) : nats l = ints (l.map Int.ofNat) := by simp [nats, ints]
theorem info_i64 : (Tryz.prog.info? 2).map (fun i => (i.zero, i.size, i.bytes)) = some (some (.int .i64 0), 1, 8) := by kernel_rfl

/-- What a state makes of a level: the numbers of the words to which it leads the words. -/
def perm (m : Mach) (d q n : Nat) : List Nat := (List.range (pw d n)).map fun k => num d (img m q (wrd d n k))
theorem perm_length (m : Mach) (d q n : Nat) : (perm m d q n).length = pw d n := by simp [perm]

/-- The words of a level. -/
def lvl (d n k : Nat) : List Value := (List.range k).map fun i => .string (wstr (wrd d n i))
theorem lvl_snoc (d n k : Nat) : lvl d n (k + 1) = lvl d n k ++ [.string (wstr (wrd d n k))] := by simp [lvl, List.range_succ]
theorem lvl_length (d n k : Nat) : (lvl d n k).length = k := by simp [lvl]
theorem lvl_get (d n k i : Nat) (h : i < k) : (lvl d n k)[i]? = some (.string (wstr (wrd d n i))) := by simp [lvl, h]
/-- A level of a state, in part. -/
def rng (f : Nat → Nat) (k : Nat) : List Value := nats ((List.range k).map f)
theorem rng_snoc (f : Nat → Nat) (k : Nat) : rng f (k + 1) = rng f k ++ [.int .i64 ((f k : Nat) : Int)] := by simp [rng, nats, List.range_succ]
theorem rng_length (f : Nat → Nat) (k : Nat) : (rng f k).length = k := by simp [rng, nats]

theorem info_str : (Tryz.prog.info? 9).map (fun i => (i.zero, i.size, i.bytes)) = some (some (.string { data := #[] }), 1, 16) := by kernel_rfl
set_option maxHeartbeats 1000000 in
set_option maxRecDepth 100000 in
theorem level_any (d n : Nat) (hd : 0 < d) (h3 : d ≤ 3) (hn : n ≤ 40) (hb : pw d n ≤ 100000) (w : World) :
    Calls Tryz.prog 182 #[.int .i64 d, .int .i64 n] w fun e w' => ∃ v, e = .returned v ∧ Own w' w.heap.size 9 v (lvl d n (pw d n)) ∧ Below w.heap.size w w' := by
  have hp := hid (fun W => power_any d n hd (by omega) (by omega) W)
  have hw := hid (fun k hk W => wordOf_any d n k hd h3 hn hk W)
  generalize pw d n = M at *
  go_enter Tryz.func182, Tryz.ntmps182
  go_wp2_with (first
    | (go_at_call 171; (with_reducible refine (hp.out _).mono ?_); rintro e w1 ⟨rfl, rfl⟩))
  go_loopw [5, 10] (fun v i wr => ∃ k : Nat, k ≤ M ∧ i = .int .i64 k ∧ Own wr w.heap.size 9 v (lvl d n k) ∧ Below w.heap.size w wr) (fun _ i _ => M - (intOf i).toNat)
  case atStart => exact ⟨0, Nat.zero_le _, rfl, Own.nil _ _ _, Below.refl _ _⟩
  case round =>
    obtain ⟨k, hk, rfl, r1, rB⟩ := hrel
    have hll := hid (lvl_length d n k)
    replace r1 := hid r1; replace rB := hid rB
    by_cases hlt : k < M
    · have dk : decide ((k : Int) < (M : Int)) = true := decide_eq_true (by omega)
      have hsn := hid (lvl_snoc d n k)
      go_wp2_with (first
        | (go_at_call 127; (with_reducible refine (hw.out k (by omega) _).mono ?_); rintro e w1 ⟨rfl, hb1⟩; replace r1 := hid (r1.out.below hb1); replace rB := hid (rB.out.trans (hb1.mono rB.out.size)); clear hb1)
        | ((with_reducible refine gate (N := 19) rfl ?_); refine app1 64 9 (.string { data := #[] }) 16 Tryz.underlying64 info_str rfl (by omega) rfl _ _ rfl w.heap.size _ _ rfl r1.out rB.out.size _ rfl rfl (by have := hll.out; omega) ?_; intro gn cap w2 hO2 hb2 hold hsz2 _; replace hO2 := hid hO2; have tB := hid (rB.out.trans hb2); clear hb2 hold hsz2 r1 rB))
      go_roundw
      case rel => exact ⟨k + 1, by omega, by go_num, by rw [hsn.out]; exact hO2.out, tB.out⟩
      case measure => simp [intOf]; omega
    · obtain rfl : k = M := by omega
      go_wp2
      go_ret
      exact ⟨_, rfl, r1.out, rB.out⟩

set_option maxHeartbeats 2000000 in
set_option maxRecDepth 100000 in
theorem permutation_any (d n : Nat) (hd : 0 < d) (h3 : d ≤ 3) (hn : n ≤ 40) (hb : pw d n ≤ 100000) (w : World) (c1 c2 : Value) (F : List Nat → List Nat)
    (hF : ∀ u, u.length = n → (∀ x ∈ u, x < d) → (F u).length = n ∧ ∀ x ∈ F u, x < d)
    (hf : ∀ W, Below w.heap.size w W → ∀ u, u.length = n → (∀ x ∈ u, x < d) → Calls Tryz.prog 198 #[.string (wstr u), c1, c2] W fun e W' => e = .returned (.string (wstr (F u))) ∧ Below W.heap.size W W') :
    Calls Tryz.prog 94 #[.int .i64 d, .int .i64 n, .func (.func 198) #[] #[c1, c2]] w fun e w' => ∃ v, e = .returned v ∧ Own w' w.heap.size 2 v (rng (fun k => num d (F (wrd d n k))) (pw d n)) ∧ Below w.heap.size w w' := by
  have hl := hid (level_any d n hd h3 hn hb w)
  have hpos := pw_pos d hd n
  have hwl := hid (fun k => wrd_length d n k)
  have hwm := hid (fun k => wrd_lt d hd n k)
  have hFo := hid (fun k => hF (wrd d n k) (wrd_length d n k) (wrd_lt d hd n k))
  have hnum := hid (fun k W => numberOf_any d hd h3 (F (wrd d n k)) (hFo.out k).2 (by rw [(hFo.out k).1]; omega) (by rw [(hFo.out k).1]; omega) W)
  replace hf := hid hf
  clear hF
  generalize hM : pw d n = M at *
  go_enter Tryz.func94, Tryz.ntmps94
  go_wp2_with (first
    | (go_at_call 182; (with_reducible refine (hl.out).mono ?_); rintro e w1 ⟨v, rfl, hO, hB⟩; obtain ⟨g, cap, rfl, hg1, hg2⟩ := hO.blk (fun e => by have := lvl_length d n M; rw [e] at this; simp at this; omega); have hll := lvl_length d n M; rw [hll] at hO; rw [hll]; clear hll; replace hO := hid hO; replace hB := hid hB; clear hl))
  go_loopw [7, 14] (fun v i wr => ∃ k : Nat, k ≤ M ∧ i = .int .i64 k ∧ Own wr w1.heap.size 2 v (rng (fun k => num d (F (wrd d n k))) k) ∧ Below w1.heap.size w1 wr) (fun _ i _ => M - (intOf i).toNat)
  case atStart => exact ⟨0, Nat.zero_le _, rfl, Own.nil _ _ _, Below.refl _ _⟩
  case round =>
    obtain ⟨k, hk, rfl, r1, rB⟩ := hrel
    have hll := hid (rng_length (fun k => num d (F (wrd d n k))) k)
    replace r1 := hid r1; replace rB := hid rB
    by_cases hlt : k < M
    · have dk : decide ((k : Int) < (M : Int)) = true := decide_eq_true (by omega)
      have hsn := hid (rng_snoc (fun k => num d (F (wrd d n k))) k)
      have ck := (hO.out.below rB.out).cellAt k _ (lvl_get d n M k hlt)
      have hBw := hid (hB.out.trans (rB.out.mono hB.out.size))
      go_wp2_with (first
        | (go_at_call 198; (with_reducible refine (hf.out _ hBw.out _ (hwl.out k) (hwm.out k)).mono ?_); rintro e w2 ⟨rfl, hb1⟩; replace r1 := hid (r1.out.below hb1); replace rB := hid (rB.out.trans (hb1.mono rB.out.size)); clear hb1 ck hBw)
        | (go_at_call 193; (with_reducible refine (hnum.out k _).mono ?_); rintro e w3 ⟨rfl, rfl⟩)
        | ((with_reducible refine gate (N := 25) rfl ?_); refine app1 32 2 (.int .i64 0) 8 Tryz.underlying32 info_i64 rfl (by omega) rfl _ _ rfl w1.heap.size _ _ rfl r1.out rB.out.size _ rfl rfl (by have := hll.out; omega) ?_; intro gn cap w2 hO2 hb2 hold hsz2 _; replace hO2 := hid hO2; have tB := hid (rB.out.trans hb2); clear hb2 hold hsz2 r1 rB))
      go_roundw
      case rel => exact ⟨k + 1, by omega, by go_num, by rw [hsn.out]; exact hO2.out, tB.out⟩
      case measure => simp [intOf]; omega
    · obtain rfl : k = M := by omega
      go_wp2
      go_ret
      exact ⟨_, rfl, r1.out.mono hB.out.size, hB.out.trans (rB.out.mono hB.out.size)⟩

set_option maxHeartbeats 2000000 in
set_option maxRecDepth 100000 in
theorem ofState1_any (b : Nat) (w : World) (m : Mach) (hm : MB w 27 b m) (l s : Nat) (g : Good m l s) (q : Nat) (hq : q < s) (u : List Nat) (hu : ∀ x ∈ u, x < l) (hlen : u.length ≤ 1000)
    (b1 b2 : Nat) (h1 : w.cell? ⟨b1, 0, none⟩ = some (.pointer (some ⟨b, 0, none⟩))) (h2 : w.cell? ⟨b2, 0, none⟩ = some (.int .i64 q)) :
    Calls Tryz.prog 198 #[.string (wstr u), .pointer (some ⟨b1, 0, none⟩), .pointer (some ⟨b2, 0, none⟩)] w fun e w' => e = .returned (.string (wstr (img m q u))) ∧ Below w.heap.size w w' := by
  have hl := hid (lead_any b w m hm l s g q hq u hu hlen)
  clear hm
  go_enter Tryz.func198, Tryz.ntmps198
  go_wp2_with (first
    | (go_at_call 90; (with_reducible refine (hl.out).mono ?_); rintro e w1 ⟨rfl, hb⟩; replace hb := hid hb))
  go_ret
  exact ⟨rfl, hb.out⟩

set_option maxHeartbeats 2000000 in
set_option maxRecDepth 100000 in
theorem ofState_any (b : Nat) (w : World) (m : Mach) (hm : MB w 27 b m) (l s : Nat) (g : Good m l s) (q : Nat) (hq : q < s) (n : Nat) (hn : n ≤ 40) (hb : pw l n ≤ 100000) :
    Calls Tryz.prog 103 #[.pointer (some ⟨b, 0, none⟩), .int .i64 q, .int .i64 n] w fun e w' => ∃ v, e = .returned v ∧ Own w' w.heap.size 2 v (nats (perm m l q n)) ∧ Below w.heap.size w w' := by
  have hM := hid ((hm.alloc (.cells #[.pointer (some ⟨b, 0, none⟩)] 95)).alloc (.cells #[.int .i64 q] 2))
  have hB := hid (below_alloc (below_alloc (Below.refl w.heap.size w) (Nat.le_refl _) (.cells #[.pointer (some ⟨b, 0, none⟩)] 95)) (Nat.le_refl _) (.cells #[.int .i64 q] 2))
  have cL := hM.out.cL
  have c1 : ((w.alloc (.cells #[.pointer (some ⟨b, 0, none⟩)] 95)).alloc (.cells #[.int .i64 q] 2)).cell? ⟨w.heap.size, 0, none⟩ = some (.pointer (some ⟨b, 0, none⟩)) := by simp
  have c2 : ((w.alloc (.cells #[.pointer (some ⟨b, 0, none⟩)] 95)).alloc (.cells #[.int .i64 q] 2)).cell? ⟨w.heap.size + 1, 0, none⟩ = some (.int .i64 q) := by simp
  rw [g.L] at cL
  have hblt := hm.lt
  have hs2 : ((w.alloc (.cells #[.pointer (some ⟨b, 0, none⟩)] 95)).alloc (.cells #[.int .i64 q] 2)).heap.size = w.heap.size + 2 := by rw [heap_alloc_size, heap_alloc_size]
  have l2 := g.l2
  have l3 := g.l3
  have hper := hid (permutation_any l n (by omega) l3 hn hb _ (.pointer (some ⟨w.heap.size, 0, none⟩)) (.pointer (some ⟨w.heap.size + 1, 0, none⟩)) (fun u => img m q u) (fun u hu hx => ⟨(img_length m u q).trans hu, img_lt g u q hq hx⟩)
    (fun W hW u hu hx => ofState1_any b W m (hM.out.below hW hM.out.lt) l s g q hq u hx (by omega) w.heap.size (w.heap.size + 1) ((hW.cell (by dsimp only; omega)).trans c1) ((hW.cell (by dsimp only; omega)).trans c2)))
  have hres := hid (show rng (fun k => num l (img m q (wrd l n k))) (pw l n) = nats (perm m l q n) from rfl)
  clear c2 hs2
  replace hm := hid hm
  replace g := hid g
  have hmf : ∀ (fn : Fn) (first cap : Array Value) (w : World), (Instr.makeFunc fn first cap).run Tryz.prog w = .ok (.func fn first cap) w := fun _ _ _ _ => rfl
  go_enter Tryz.func103, Tryz.ntmps103
  go_wp2_with (first
    | (go_at_call 94; (with_reducible refine (hper.out).mono ?_); rintro e w1 ⟨v, rfl, hO, hb⟩; replace hO := hid hO; replace hb := hid hb))
  go_ret
  exact ⟨_, rfl, by rw [← hres.out]; exact hO.out.mono hB.out.size, hB.out.trans (hb.out.mono hB.out.size)⟩

theorem load_run {w : World} {b : Nat} {m : Mach} (hm : MB w 27 b m) : (loadVar 27 ⟨b, 0, none⟩).run Tryz.prog w = .ok (.agg (mcells m)) w := by
  have := run_loadVar_mid (P := Tryz.prog) w b 0 27 (mcells m).toList _ (fun j v hv => by
    have hj : j < 98 := by have := (List.getElem?_eq_some_iff.1 hv).1; rwa [Array.length_toList, size_mcells] at this
    have h2 := World.rowIs.cell hm hj
    have h3 := mcells_get m j hj
    rw [Array.getElem?_toList, h3] at hv
    rw [Nat.zero_add, h2, hv]) Tryz.underlying27 rfl (by rw [Array.length_toList, size_mcells]; exact sz_mach)
  simpa using this
theorem exec_load {a : Act} {o : Oper} {W : World} {A : Addr} {ty : TypeId} {v : Value} (x : Operand) (ho : o.op = .load ty x) (hx : a.eval x = .pointer (some A)) (h : (loadVar ty A).run Tryz.prog W = .ok v W) :
    (execOp a.eval o).run Tryz.prog W = .ok (.value v) W := by
  unfold execOp
  simp only [ho, hx, Instr.loadAt, Instr.sureAddr, Sem.run_bind, Sem.run_pure, Result.andThen_ok, h]
/-- What a region keeps of the world while it calls: a machine in its block, its letters, and all that lay before. -/
theorem keepM {W w1 w0 : World} {b B0 : Nat} {m : Mach} {l : Nat} (h : Hid (MB W 27 b m) ∧ Hid (Below B0 w0 W) ∧ (loadVar 27 ⟨b, 0, none⟩).run Tryz.prog W = .ok (.agg (mcells m)) W ∧ W.cell? ⟨b, 0, none⟩ = some (.int .i64 (l : Int)))
    (hb : Hid (Below W.heap.size W w1) ∧ B0 ≤ w0.heap.size) : Hid (MB w1 27 b m) ∧ Hid (Below B0 w0 w1) ∧ (loadVar 27 ⟨b, 0, none⟩).run Tryz.prog w1 = .ok (.agg (mcells m)) w1 ∧ w1.cell? ⟨b, 0, none⟩ = some (.int .i64 (l : Int)) := by
  have h1 := h.1.out.below hb.1.out h.1.out.lt
  exact ⟨h1, h.2.1.out.trans (hb.1.out.mono (Nat.le_trans hb.2 h.2.1.out.size)), load_run h1, (hb.1.out.cell h.1.out.lt).trans h.2.2.2⟩

set_option maxHeartbeats 2000000 in
set_option maxRecDepth 100000 in
theorem l01Level_any (w : World) (m : Mach) (l s : Nat) (g : Good m l s) (q : Nat) (hq : q < s) (n : Nat) (hn : n ≤ 40) (hb : pw l n ≤ 100000) :
    Calls Tryz.prog 172 #[.agg (mcells m), .int .i64 q, .int .i64 n] w fun e w' => ∃ v, e = .returned v ∧ Own w' w.heap.size 2 v (nats (perm m l q n)) ∧ Below w.heap.size w w' := by
  have hM := hid ((MB.new w m 27).alloc (.cells #[] 2))
  have hB := hid (below_alloc (below_alloc (Below.refl w.heap.size w) (Nat.le_refl _) (.cells (mcells m) 27)) (Nat.le_refl _) (.cells #[] 2))
  have hO := Own.new (w.alloc (.cells (mcells m) 27)) (w.heap.size + 1) 2 (by simp)
  rw [heap_alloc_size] at hO
  replace hO := hid hO
  have hres := hid (show rng (fun k => num l (img m q (wrd l n k))) (pw l n) = nats (perm m l q n) from rfl)
  have l2 := g.l2
  have l3 := g.l3
  have gL := hid g.L
  have hpw := hid (fun W => l01Power_any l n (by omega) (by omega) (by omega) W)
  have hwo := hid (fun k (hk : k < pw l n) W => l01WordOf_any l (by omega) l3 n k hn (by omega) W)
  have hact := hid (fun k W => l01Act_any W m l s g q hq (wrd l n k) (wrd_lt l (by omega) n k) (by rw [wrd_length]; omega))
  have him := hid (fun k => img_lt g (wrd l n k) q hq (wrd_lt l (by omega) n k))
  have hil := hid (fun k => (img_length m (wrd l n k) q).trans (wrd_length l n k))
  have hnum := hid (fun k W => l01NumberOf_any l (by omega) l3 (img m q (wrd l n k)) (him.out k) (by rw [hil.out k]; omega) (by rw [hil.out k]; omega) W)
  clear him hil
  replace g := hid g
  generalize hMn : pw l n = M at *
  go_enter Tryz.func172, Tryz.ntmps172
  go_wp2
  go_loopw [7, 8] (fun v i wr => ∃ k : Nat, k ≤ M ∧ i = .int .i64 k ∧ MB wr 27 w.heap.size m ∧ Own wr (w.heap.size + 1) 2 v (rng (fun k => num l (img m q (wrd l n k))) k) ∧ Below w.heap.size w wr) (fun _ i _ => M - (intOf i).toNat)
  case atStart => exact ⟨0, Nat.zero_le _, rfl, hM.out, hO.out, hB.out⟩
  case round =>
    obtain ⟨k, hk, rfl, r1, r2, rB⟩ := hrel
    clear hM hB hO
    have hll := hid (rng_length (fun k => num l (img m q (wrd l n k))) k)
    have cL := r1.cL
    rw [gL.out] at cL
    have hlt1 := hid r1.lt
    replace r1 := hid r1; replace r2 := hid r2; replace rB := hid rB
    by_cases hlt : k < M
    · have dk : decide ((k : Int) < (M : Int)) = true := decide_eq_true (by omega)
      have hsn := hid (rng_snoc (fun k => num l (img m q (wrd l n k))) k)
      have hld := load_run r1.out
      go_wp2_with (first
        | (go_at_call 120; (with_reducible refine (hpw.out _).mono ?_); rintro e w1 ⟨rfl, rfl⟩))
      refine wp_region_held_drew (S := fun w' => Hid (MB w' 27 w.heap.size m) ∧ Hid (Below wr.heap.size wr w') ∧ (loadVar 27 ⟨w.heap.size, 0, none⟩).run Tryz.prog w' = .ok (.agg (mcells m)) w' ∧ w'.cell? ⟨w.heap.size, 0, none⟩ = some (.int .i64 (l : Int))) (by kernel_rfl) ⟨hid r1.out.drew, hid (Below.refl _ _).drew, load_run r1.out.drew, cL⟩ (fun hHeld => ?_)
      refine wpAnyH_take (i := 0) (v := .agg (mcells m)) rfl (by kernel_rfl) (by kernel_rfl) (by kernel_rfl) (fun _ _ _ h => h) (Or.inl ⟨by rfl, ?_⟩) (by assumption) ?_
      · (intro W hW; exact exec_load _ rfl rfl (load_run hW.1.out))
      try simp only [Act.put, List.setIfInBounds_toArray, List.set_cons_zero, List.set_cons_succ]
      refine wpAnyH_take (i := 1) (v := ?_) rfl (by kernel_rfl) (by kernel_rfl) (by kernel_rfl) (fun _ _ _ h => h) (Or.inl ⟨by rfl, ?_⟩) (by assumption) ?_
      rotate_left
      · (intro W hW; (try dsimp only at hW); go_simp; (with_reducible rfl))
      try simp only [Act.put, List.setIfInBounds_toArray, List.set_cons_zero, List.set_cons_succ]
      refine wpAnyH_take (i := 2) (v := ?_) rfl (by kernel_rfl) (by kernel_rfl) (by kernel_rfl) (fun _ _ _ h => h) (Or.inl ⟨by rfl, ?_⟩) (by assumption) ?_
      rotate_left
      · (intro W hW; (try dsimp only at hW); go_simp; (with_reducible rfl))
      try simp only [Act.put, List.setIfInBounds_toArray, List.set_cons_zero, List.set_cons_succ]
      refine wpAnyH_take (i := 3) (v := ?_) rfl (by kernel_rfl) (by kernel_rfl) (by kernel_rfl) (fun _ _ _ h => h) (Or.inl ⟨by rfl, ?_⟩) (by assumption) ?_
      rotate_left
      · (intro W hW; (try dsimp only at hW); go_simp; (with_reducible rfl))
      try simp only [Act.put, List.setIfInBounds_toArray, List.set_cons_zero, List.set_cons_succ]
      refine wpAnyH_take (i := 4) (v := ?_) rfl (by kernel_rfl) (by kernel_rfl) (by kernel_rfl) (fun _ _ _ h => h) (Or.inl ⟨by rfl, ?_⟩) (by assumption) ?_
      rotate_left
      · (intro W hW; (try dsimp only at hW); go_simp; (with_reducible rfl))
      try simp only [Act.put, List.setIfInBounds_toArray, List.set_cons_zero, List.set_cons_succ]
      refine wpAnyH_take (i := 5) (v := ?_) rfl (by kernel_rfl) (by kernel_rfl) (by kernel_rfl) (fun _ _ _ h => h) (Or.inl ⟨by rfl, ?_⟩) (by assumption) ?_
      rotate_left
      · (intro W hW; (try dsimp only at hW); go_simp; (with_reducible rfl))
      try simp only [Act.put, List.setIfInBounds_toArray, List.set_cons_zero, List.set_cons_succ]
      refine wpAnyH_ready (rs := [6]) (by kernel_rfl) (by simp) ?_
      refine AllReadyH.cons rfl (fun K hK => ?_) AllReadyH.nil
      go_simp
      go_at_call 128; (with_reducible refine (hwo.out k hlt _).mono ?_); rintro e w1 ⟨rfl, hb1⟩; replace hb1 := hid hb1; go_simp
      refine hK.out _ _ (keepM hHeld ⟨hb1, Nat.le_refl _⟩) (fun hHeld' => ?_)
      clear hK K hb1 hHeld
      have hHeld := hHeld'
      clear hHeld'
      try simp only [Act.put, List.setIfInBounds_toArray, List.set_cons_zero, List.set_cons_succ]
      refine wpAnyH_ready (rs := [7]) (by kernel_rfl) (by simp) ?_
      refine AllReadyH.cons rfl (fun K hK => ?_) AllReadyH.nil
      go_simp
      go_at_call 220; (with_reducible refine (hact.out k _).mono ?_); rintro e w2 ⟨rfl, hb1⟩; replace hb1 := hid hb1; go_simp
      refine hK.out _ _ (keepM hHeld ⟨hb1, Nat.le_refl _⟩) (fun hHeld' => ?_)
      clear hK K hb1 hHeld
      have hHeld := hHeld'
      clear hHeld'
      try simp only [Act.put, List.setIfInBounds_toArray, List.set_cons_zero, List.set_cons_succ]
      refine wpAnyH_take (i := 8) (v := ?_) rfl (by kernel_rfl) (by kernel_rfl) (by kernel_rfl) (fun _ _ _ h => h) (Or.inl ⟨by rfl, ?_⟩) (by assumption) ?_
      rotate_left
      · (intro W hW; (try dsimp only at hW); go_simp; (with_reducible rfl))
      try simp only [Act.put, List.setIfInBounds_toArray, List.set_cons_zero, List.set_cons_succ]
      refine wpAnyH_take (i := 9) (v := ?_) rfl (by kernel_rfl) (by kernel_rfl) (by kernel_rfl) (fun _ _ _ h => h) (Or.inl ⟨by rfl, ?_⟩) (by assumption) ?_
      rotate_left
      · (intro W hW; (try dsimp only at hW); go_simp; (with_reducible rfl))
      try simp only [Act.put, List.setIfInBounds_toArray, List.set_cons_zero, List.set_cons_succ]
      refine wpAnyH_take (i := 10) (v := ?_) rfl (by kernel_rfl) (by kernel_rfl) (by kernel_rfl) (fun _ _ _ h => h) (Or.inl ⟨by rfl, ?_⟩) (by assumption) ?_
      rotate_left
      · (intro W hW; (try dsimp only at hW); go_simp; (with_reducible rfl))
      try simp only [Act.put, List.setIfInBounds_toArray, List.set_cons_zero, List.set_cons_succ]
      refine wpAnyH_take (i := 11) (v := ?_) rfl (by kernel_rfl) (by kernel_rfl) (by kernel_rfl) (fun _ _ _ h => h) (Or.inl ⟨by rfl, ?_⟩) (by assumption) ?_
      rotate_left
      · (intro W hW; (try dsimp only at hW); go_simp; (with_reducible rfl))
      try simp only [Act.put, List.setIfInBounds_toArray, List.set_cons_zero, List.set_cons_succ]
      refine wpAnyH_take (i := 12) (v := ?_) rfl (by kernel_rfl) (by kernel_rfl) (by kernel_rfl) (fun _ _ _ h => h) (Or.inl ⟨by rfl, ?_⟩) (by assumption) ?_
      rotate_left
      · (intro W hW; (try dsimp only at hW); go_simp; (with_reducible rfl))
      try simp only [Act.put, List.setIfInBounds_toArray, List.set_cons_zero, List.set_cons_succ]
      refine wpAnyH_done (by kernel_rfl) ?_ _
      obtain ⟨t1, tb, _, cL2⟩ := hHeld
      have t2 := hid (r2.out.below tb.out)
      have tB := hid (rB.out.trans (tb.out.mono rB.out.size))
      have tlt := hid t1.out.lt
      clear hld cL r1 r2 rB tb
      go_wp2_with (first
        | (go_at_call 210; (with_reducible refine (hnum.out k _).mono ?_); rintro e w3 ⟨rfl, rfl⟩)
        | ((with_reducible refine gate (N := 37) rfl ?_); refine app1 32 2 (.int .i64 0) 8 Tryz.underlying32 info_i64 rfl (by omega) rfl _ _ rfl (w.heap.size + 1) _ _ rfl t2.out tlt.out _ rfl rfl (by have := hll.out; omega) ?_; intro gn cap w4 hO2 hb2 hold hsz2 _; have y1 := hid (show MB w4 27 w.heap.size m from World.rowIs.of_block t1.out (hold _ tlt.out (fun e => by have := (t2.out.lt _ e).1; omega))); replace hO2 := hid hO2; have yB := hid (tB.out.trans (hb2.mono (Nat.le_succ _))); clear hb2 hold hsz2 t1 t2 tB cL2))
      go_roundw
      case rel => exact ⟨k + 1, by omega, by go_num, y1.out, by rw [hsn.out]; exact hO2.out, yB.out⟩
      case measure => simp [intOf]; omega
    · obtain rfl : k = M := by omega
      go_wp2_with (first
        | (go_at_call 120; (with_reducible refine (hpw.out _).mono ?_); rintro e w1 ⟨rfl, rfl⟩))
      go_ret
      exact ⟨_, rfl, by rw [← hres.out]; exact r2.out.mono (Nat.le_succ _), rB.out⟩
end Go.Proofs.YthmcdfjijkecfaaGreat

/- Lists of numbers that come back: compared, marked, and held. -/
namespace Go.Proofs.YthmcdfjijkecfaaGreat
open Go.RowKit
set_option linter.unusedVariables false
set_option linter.unusedSimpArgs false

theorem Own.set {w : World} {base e g n cap : Nat} {cs : List Value} (h : Own w base e (.slice (some ⟨g, 0, none⟩) n cap) cs) (hn : cs.length = n) (j : Nat) (u : Value) (hj : j < n) :
    Own (w.setCell ⟨g, j, none⟩ u) base e (.slice (some ⟨g, 0, none⟩) n cap) (cs.set j u) := by
  unfold Own at *
  rw [List.length_set, hn]
  rw [hn] at h
  exact (World.ownsRow.stored h j u).1
theorem Own.frozenAt {w : World} {base e g n cap : Nat} {cs : List Value} (h : Own w base e (.slice (some ⟨g, 0, none⟩) n cap) cs) (hn : cs.length = n) (j : Nat) : w.frozen? ⟨g, j, none⟩ = false := by
  unfold Own at h
  rw [hn] at h
  exact World.ownsRow.frozenAt h j


/-- The marks. -/
def marks (k n : Nat) : List Value := (List.range n).map fun i => .int .i64 ((k + i : Nat) : Int)
theorem marks_get (k n i : Nat) (h : i < n) : (marks k n)[i]? = some (.int .i64 ((k + i : Nat) : Int)) := by simp [marks, h]
theorem marks_length (k n : Nat) : (marks k n).length = n := by simp [marks]



end Go.Proofs.YthmcdfjijkecfaaGreat

/- The code of a machine, a word and states. -/
namespace Go.Proofs.YthmcdfjijkecfaaGreat
open Go.RowKit
set_option linter.unusedVariables false
set_option linter.unusedSimpArgs false

/-- A text is a word for d letters. -/
def IsWd (d : Int) (ws : ByteArray) : Prop := ws.size ≤ 40 ∧ ∀ k (h : k < ws.size), 48 ≤ (ws[k]'h).toNat ∧ ((ws[k]'h).toNat : Int) - 48 < d

theorem wstr_of_bytes (ws : ByteArray) (h : ∀ k (h : k < ws.size), 48 ≤ (ws[k]'h).toNat) : ws = wstr (ws.data.toList.map fun b => b.toNat - 48) := by
  have hs : ws.data.size = ws.size := rfl
  apply ByteArray.ext
  apply Array.ext
  · simp [wstr, strOfNums]
  · intro i h1 h2
    have := h i h1
    have e : (ws[i]'h1) = ws.data[i] := rfl
    rw [e] at this
    simp only [wstr, strOfNums, List.map_map, List.getElem_toArray, List.getElem_map, Function.comp, Array.getElem_toList]
    apply UInt8.toNat_inj.1
    rw [UInt8.toNat_ofNat']
    have := UInt8.toNat_lt (ws.data[i])
    omega

/-- A word's letters. -/
theorem IsWd.letters {d : Int} {ws : ByteArray} (h : IsWd d ws) : ∃ u : List Nat, ws = wstr u ∧ (∀ x ∈ u, (x : Int) < d) ∧ u.length ≤ 40 := by
  refine ⟨_, wstr_of_bytes ws (fun k hk => (h.2 k hk).1), fun x hx => ?_, by simpa using h.1⟩
  obtain ⟨b, hb, rfl⟩ := List.mem_map.1 hx
  obtain ⟨k, hk, rfl⟩ := List.getElem_of_mem hb
  have hk' : k < ws.size := by simpa using hk
  have := h.2 k hk'
  have e : ws.data.toList[k] = ws[k]'hk' := by rw [Array.getElem_toList]; rfl
  rw [e]
  omega
theorem isWd_wstr {d : Int} {u : List Nat} (hu : ∀ x ∈ u, (x : Int) < d) (hd : d ≤ 200) (hl : u.length ≤ 40) : IsWd d (wstr u) := by
  refine ⟨by rw [wstr_size]; exact hl, fun k hk => ?_⟩
  have hk' : k < u.length := by rwa [wstr_size] at hk
  have hm := hu _ (getD_mem u k hk')
  rw [wstr_byte u k hk (fun x hx => by have := hu x hx; omega)]
  omega
theorem isWd_nil (d : Int) : IsWd d { data := #[] } := ⟨by decide, fun k h => absurd h (by simp [ByteArray.size])⟩

open Classical in
/-- The code of a machine, a word and states. -/
noncomputable def codeI (m : Mach) (ws : ByteArray) (qs : List Int) : Int := if IsM m ∧ IsWd m.L ws then if ∀ q ∈ qs, 0 ≤ q ∧ q < m.S then 0 else 2 else 1

set_option maxHeartbeats 1000000 in
set_option maxRecDepth 100000 in
theorem isWord_any (d : Int) (_ : 2 ≤ d) (_ : d ≤ 3) (ws : ByteArray) (hws : ws.size < 1000000000000) (r : Bool) (hr : Tells r (IsWd d ws)) (w : World) :
    Calls Tryz.prog 134 #[.int .i64 d, .string ws] w fun e w' => e = .returned (.bool r) ∧ w = w' := by
  replace hr := hid hr
  go_enter Tryz.func134, Tryz.ntmps134
  go_wp2
  go_loop [8] (fun i => ∃ k : Nat, k ≤ ws.size ∧ i = .int .i64 k ∧ Hid (∀ j (h : j < ws.size), j < k → 48 ≤ (ws[j]'h).toNat ∧ ((ws[j]'h).toNat : Int) - 48 < d)) (fun i => ws.size - (intOf i).toNat)
  case atStart => exact ⟨0, Nat.zero_le _, rfl, fun j _ h => absurd h (by omega)⟩
  case round =>
    obtain ⟨k, hk, rfl, hall⟩ := hrel
    by_cases hlt : k < ws.size
    · have hstep : (48 ≤ (ws[k]'hlt).toNat ∧ ((ws[k]'hlt).toNat : Int) - 48 < d) → Hid (∀ j (h : j < ws.size), j < k + 1 → 48 ≤ (ws[j]'h).toNat ∧ ((ws[j]'h).toNat : Int) - 48 < d) := fun hc j hj hjk => by
        by_cases e : j = k
        · subst e; exact hc
        · exact hall.out j hj (by omega)
      have hfail : ¬ (48 ≤ (ws[k]'hlt).toNat ∧ ((ws[k]'hlt).toNat : Int) - 48 < d) → r = false := fun hc => by
        cases r
        · rfl
        · exact absurd ((hr.out.out.1 rfl).2 k hlt) hc
      have hbl := UInt8.toNat_lt (ws[k]'hlt)
      generalize hb : (ws[k]'hlt).toNat = b at *
      replace hstep := hid hstep
      by_cases h48 : 48 ≤ b
      · obtain ⟨x, rfl⟩ := Nat.exists_eq_add_of_le h48
        have e1 : 48 + (x : Int) - 48 = x := by omega
        by_cases hxd : (x : Int) < d
        · clear hfail
          go_wp2
          go_round
          case rel => exact ⟨k + 1, by omega, by go_num, hstep.out ⟨by omega, by omega⟩⟩
          case measure => simp [intOf]; omega
        · have hf := hfail (fun hc => hxd (by omega))
          subst hf
          have dx : decide ((x : Int) ≥ d) = true := decide_eq_true (by omega)
          clear hfail
          go_wp2
          go_ret
          exact ⟨rfl, rfl⟩
      · have hf := hfail (fun hc => h48 hc.1)
        subst hf
        have dx : decide ((b : Int) < 48) = true := decide_eq_true (by omega)
        clear hfail
        go_wp2
        go_ret
        exact ⟨rfl, rfl⟩
    · obtain rfl : k = ws.size := by omega
      have hrr : r = decide ((ws.size : Int) ≤ 40) := by
        have h1 := hr.out.out
        cases r
        · rw [eq_comm, decide_eq_false_iff_not]
          intro hle
          have := h1.2 ⟨by omega, fun j hj => hall.out j hj hj⟩
          cases this
        · have := (h1.1 rfl).1
          rw [eq_comm, decide_eq_true_iff]
          omega
      replace hrr := hid hrr
      go_wp2
      go_ret
      exact ⟨retB hrr.out.symm, rfl⟩

set_option maxHeartbeats 1000000 in
theorem isState_any (b : Nat) (w : World) (m : Mach) (hm : MB w 27 b m) (l s : Nat) (g : Good m l s) (q : Int) (r : Bool) (hr : r = decide (0 ≤ q ∧ q < s)) :
    Calls Tryz.prog 175 #[.pointer (some ⟨b, 0, none⟩), .int .i64 q] w fun e w' => e = .returned (.bool r) ∧ w = w' := by
  have cS := hm.cS
  rw [g.S] at cS
  have s16 := g.s16
  have s1 := g.s1
  have hin := hid (fun W => within_any q 0 ((s : Int) - 1) r (by rw [hr]; congr 1; apply propext; omega) W)
  clear hm g hr
  go_enter Tryz.func175, Tryz.ntmps175
  go_wp2_with (first
    | (go_at_call 86; (with_reducible refine (hin.out _).mono ?_); rintro e w1 ⟨rfl, rfl⟩))
  go_ret
  exact ⟨rfl, rfl⟩

theorem codeI_2 {m : Mach} {l s : Nat} {ws : ByteArray} {qs : List Int} (g : Good m l s) (hw : IsWd l ws) (hq : ¬ ∀ q ∈ qs, 0 ≤ q ∧ q < (s : Int)) : codeI m ws qs = 2 := by
  unfold codeI; rw [g.L, g.S, if_pos ⟨g.isM, hw⟩, if_neg hq]
theorem codeI_0 {m : Mach} {l s : Nat} {ws : ByteArray} {qs : List Int} (g : Good m l s) (hw : IsWd l ws) (hq : ∀ q ∈ qs, 0 ≤ q ∧ q < (s : Int)) : codeI m ws qs = 0 := by
  unfold codeI; rw [g.L, g.S, if_pos ⟨g.isM, hw⟩, if_pos hq]
theorem codeI_w {m : Mach} {l s : Nat} {ws : ByteArray} {qs : List Int} (g : Good m l s) (hw : ¬ IsWd l ws) : codeI m ws qs = 1 := by
  unfold codeI; rw [g.L, if_neg (fun h => hw h.2)]
theorem codeI_1 {m : Mach} {ws : ByteArray} {qs : List Int} (hm : ¬ IsM m) : codeI m ws qs = 1 := by
  unfold codeI; rw [if_neg (fun h => hm h.1)]

set_option maxHeartbeats 1000000 in
theorem codeOf1_any (b : Nat) (w : World) (m : Mach) (hm : MB w 27 b m) (l s : Nat) (g : Good m l s) (q : Int) (r : Bool) (hr : r = decide (0 ≤ q ∧ q < s)) :
    Calls Tryz.prog 181 #[.int .i64 q, .pointer (some ⟨b, 0, none⟩)] w fun e w' => e = .returned (.bool (!r)) ∧ w = w' := by
  have hin := hid (isState_any b w m hm l s g q r hr)
  clear hm g hr
  go_enter Tryz.func181, Tryz.ntmps181
  go_wp2_with (first
    | (go_at_call 175; (with_reducible refine (hin.out).mono ?_); rintro e w1 ⟨rfl, rfl⟩))
  go_ret
  exact ⟨rfl, rfl⟩

/-- What is found: a place that tells of something that is no state, or -1. -/
def Found (s : Nat) (qs : List Int) (r : Int) : Prop := -1 ≤ r ∧ r < 1000000 ∧ (0 ≤ r ↔ ¬ ∀ q ∈ qs, 0 ≤ q ∧ q < (s : Int))
set_option maxHeartbeats 1000000 in
set_option maxRecDepth 100000 in
theorem indexFunc_states (b : Nat) (w : World) (m : Mach) (hm : MB w 27 b m) (l s : Nat) (g : Good m l s) (base : Nat) (v : Value) (qs : List Int) (h : Own w base 2 v (ints qs)) (hl : qs.length < 1000000) :
    Calls Tryz.prog 232 #[v, .func (.func 181) #[] #[.pointer (some ⟨b, 0, none⟩)]] w fun e w' => ∃ r : Int, e = .returned (.int .i64 r) ∧ Found s qs r ∧ w = w' := by
  have hil := ints_length qs
  have hone := hid (fun q r hr => codeOf1_any b w m hm l s g q r hr)
  clear hm g
  by_cases hne : qs = []
  · subst hne
    obtain ⟨A1, c1, rfl, _, _⟩ := h.form
    rw [hil]
    clear h
    go_enter Tryz.func232, Tryz.ntmps232
    go_wp2
    go_loop [8] (fun i => i = .int .i64 0) (fun _ => 0)
    case atStart => rfl
    case round =>
      obtain rfl := hrel
      go_wp2
      go_ret
      exact ⟨_, rfl, ⟨by omega, by omega, fun h => absurd h (by omega), fun h => absurd (fun q hq => by simp at hq) h⟩, rfl⟩
  · have hne' : ints qs ≠ [] := fun e => hne (by rw [← List.length_eq_zero_iff, ← hil, e]; rfl)
    obtain ⟨g1, c1, rfl, _, hg1⟩ := h.blk hne'
    rw [hil] at h ⊢
    have hget := hid (fun (k : Nat) (x : Int) (hx : qs[k]? = some x) => (show (ints qs)[k]? = some (.int .i64 x) by simp [ints, hx]))
    replace h := hid h
    clear hne hne' hil
    generalize hn : qs.length = n at *
    go_enter Tryz.func232, Tryz.ntmps232
    go_wp2
    go_loop [8] (fun i => ∃ k : Nat, k ≤ n ∧ i = .int .i64 k ∧ Hid (∀ j x, j < k → qs[j]? = some x → 0 ≤ x ∧ x < (s : Int))) (fun i => n - (intOf i).toNat)
    case atStart => exact ⟨0, Nat.zero_le _, rfl, fun j x h => absurd h (by omega)⟩
    case round =>
      obtain ⟨k, hk, rfl, hall⟩ := hrel
      by_cases hlt : k < n
      · obtain ⟨x, hx⟩ : ∃ x, qs[k]? = some x := ⟨_, List.getElem?_eq_getElem (by omega)⟩
        have d1 := h.out.cellAt k _ (hget.out k x hx)
        by_cases hv : 0 ≤ x ∧ x < (s : Int)
        · have hc := hid (hone.out x true (decide_eq_true hv).symm)
          have hnext : Hid (∀ j x, j < k + 1 → qs[j]? = some x → 0 ≤ x ∧ x < (s : Int)) := fun j y hj hy => by
            by_cases e : j = k
            · subst e; rw [hx] at hy; injection hy with hy; subst hy; exact hv
            · exact hall.out j y (by omega) hy
          clear hx hv
          go_wp2_with (first
            | (go_at_call 181; (with_reducible refine (hc.out).mono ?_); rintro e w1 ⟨rfl, rfl⟩))
          go_round
          case rel => exact ⟨k + 1, by omega, by go_num, hnext⟩
          case measure => simp [intOf]; omega
        · have hc := hid (hone.out x false (decide_eq_false hv).symm)
          have hbad : Hid (¬ ∀ q ∈ qs, 0 ≤ q ∧ q < (s : Int)) := fun h => hv (h x (List.mem_of_getElem? hx))
          clear hx hv
          go_wp2_with (first
            | (go_at_call 181; (with_reducible refine (hc.out).mono ?_); rintro e w1 ⟨rfl, rfl⟩))
          go_ret
          exact ⟨_, rfl, ⟨by omega, by omega, fun _ => hbad.out, fun _ => by omega⟩, rfl⟩
      · obtain rfl : k = n := by omega
        have hok : Hid (∀ q ∈ qs, 0 ≤ q ∧ q < (s : Int)) := fun q hq => by
          obtain ⟨j, hj, e⟩ := List.getElem_of_mem hq
          exact hall.out j q (by omega) (by rw [← e]; exact List.getElem?_eq_getElem hj)
        go_wp2
        go_ret
        refine ⟨_, rfl, ⟨by omega, by omega, fun h => absurd h (by omega), fun h => ?_⟩, rfl⟩
        exact absurd hok.out h

set_option maxHeartbeats 1000000 in
theorem containsFunc_states (b : Nat) (w : World) (m : Mach) (hm : MB w 27 b m) (l s : Nat) (g : Good m l s) (base : Nat) (v : Value) (qs : List Int) (h : Own w base 2 v (ints qs)) (hl : qs.length < 1000000)
    (c : Bool) (hc : Tells c (∀ q ∈ qs, 0 ≤ q ∧ q < (s : Int))) :
    Calls Tryz.prog 180 #[v, .func (.func 181) #[] #[.pointer (some ⟨b, 0, none⟩)]] w fun e w' => e = .returned (.bool (!c)) ∧ w = w' := by
  have hi := hid (indexFunc_states b w m hm l s g base v qs h hl)
  clear hm g h hl
  replace hc := hid hc
  go_enter Tryz.func180, Tryz.ntmps180
  go_wp2_with (first
    | (go_at_call 232; (with_reducible refine (hi.out).mono ?_); rintro e w1 ⟨r, rfl, hr, rfl⟩; replace hr := hid hr))
  go_ret
  refine ⟨retB ?_, rfl⟩
  have h1 := hr.out.2.2
  have h2 := hc.out.out
  cases c
  · have : 0 ≤ r := h1.2 (fun h => by have := h2.2 h; cases this)
    simp; omega
  · have : ¬ 0 ≤ r := fun h => (h1.1 h) (h2.1 rfl)
    simp; omega

set_option maxHeartbeats 2000000 in
set_option maxRecDepth 100000 in
theorem codeOf_any (w : World) (m : Mach) (hk : m.Ok) (ws : ByteArray) (hws : ws.size < 1000000000000) (base : Nat) (v : Value) (qs : List Int) (h : Own w base 2 v (ints qs)) (hl : qs.length < 1000000) :
    Calls Tryz.prog 85 #[.agg (mcells m), .string ws, v] w fun e w' => e = .returned (.int .i64 (codeI m ws qs)) ∧ Below w.heap.size w w' := by
  have hM := hid (MB.new w m 27)
  have hO := hid (h.alloc (.cells (mcells m) 27))
  have hB := hid (below_alloc (Below.refl w.heap.size w) (Nat.le_refl _) (.cells (mcells m) 27))
  have hmf : ∀ (fn : Fn) (first cap : Array Value) (w : World), (Instr.makeFunc fn first cap).run Tryz.prog w = .ok (.func fn first cap) w := fun _ _ _ _ => rfl
  clear h
  by_cases hm : IsM m
  · obtain ⟨l, s, g⟩ := hm.good
    have hi := hid (show Tells true (IsM m) from ⟨fun _ => hm, fun _ => rfl⟩)
    have l2 := g.l2
    have l3 := g.l3
    have gL := hid g.L
    by_cases hw : IsWd l ws
    · have hwd := hid (fun W => isWord_any l (by omega) (by omega) ws hws true ⟨fun _ => hw, fun _ => rfl⟩ W)
      by_cases hq : ∀ q ∈ qs, 0 ≤ q ∧ q < (s : Int)
      · rw [codeI_0 g hw hq]
        have hcf := hid (fun W hM hO => containsFunc_states w.heap.size W m hM l s g base v qs hO hl true ⟨fun _ => hq, fun _ => rfl⟩)
        replace hk := hid hk; replace g := hid g; clear hm hw hq
        go_enter Tryz.func85, Tryz.ntmps85
        go_wp2_with (first
          | ((with_reducible refine gate (N := 8) rfl ?_); refine load_mach rfl _ rfl w.heap.size rfl m hM.out ?_)
          | (go_at_call 97; (with_reducible refine (IsMachine_any _ m hk.out true hi.out.out).mono ?_); rintro e w1 ⟨rfl, hb⟩; have hM2 := hid (hM.out.below hb hM.out.lt); have hO2 := hid (hO.out.below hb); have hB2 := hid (hB.out.trans (hb.mono hB.out.size)); have cL := hM2.out.cL; rw [gL.out] at cL; clear hb hM hB hO hi)
          | (go_at_call 134; (with_reducible refine (hwd.out _).mono ?_); rintro e w3 ⟨rfl, rfl⟩)
          | (go_at_call 180; (with_reducible refine (hcf.out _ hM2.out hO2.out).mono ?_); rintro e w4 ⟨rfl, rfl⟩))
        go_ret
        exact ⟨rfl, hB2.out⟩
      · rw [codeI_2 g hw hq]
        have hcf := hid (fun W hM hO => containsFunc_states w.heap.size W m hM l s g base v qs hO hl false ⟨fun h => (by cases h), fun h => absurd h hq⟩)
        replace hk := hid hk; replace g := hid g; clear hm hw hq
        go_enter Tryz.func85, Tryz.ntmps85
        go_wp2_with (first
          | ((with_reducible refine gate (N := 8) rfl ?_); refine load_mach rfl _ rfl w.heap.size rfl m hM.out ?_)
          | (go_at_call 97; (with_reducible refine (IsMachine_any _ m hk.out true hi.out.out).mono ?_); rintro e w1 ⟨rfl, hb⟩; have hM2 := hid (hM.out.below hb hM.out.lt); have hO2 := hid (hO.out.below hb); have hB2 := hid (hB.out.trans (hb.mono hB.out.size)); have cL := hM2.out.cL; rw [gL.out] at cL; clear hb hM hB hO hi)
          | (go_at_call 134; (with_reducible refine (hwd.out _).mono ?_); rintro e w3 ⟨rfl, rfl⟩)
          | (go_at_call 180; (with_reducible refine (hcf.out _ hM2.out hO2.out).mono ?_); rintro e w4 ⟨rfl, rfl⟩))
        go_ret
        exact ⟨rfl, hB2.out⟩
    · rw [codeI_w g hw]
      have hwd := hid (fun W => isWord_any l (by omega) (by omega) ws hws false ⟨fun h => (by cases h), fun h => absurd h hw⟩ W)
      replace hk := hid hk; replace g := hid g; clear hm hw
      go_enter Tryz.func85, Tryz.ntmps85
      go_wp2_with (first
        | ((with_reducible refine gate (N := 8) rfl ?_); refine load_mach rfl _ rfl w.heap.size rfl m hM.out ?_)
        | (go_at_call 97; (with_reducible refine (IsMachine_any _ m hk.out true hi.out.out).mono ?_); rintro e w1 ⟨rfl, hb⟩; have hM2 := hid (hM.out.below hb hM.out.lt); have hB2 := hid (hB.out.trans (hb.mono hB.out.size)); have cL := hM2.out.cL; rw [gL.out] at cL; clear hb hM hB hO hi)
        | (go_at_call 134; (with_reducible refine (hwd.out _).mono ?_); rintro e w3 ⟨rfl, rfl⟩))
      go_ret
      exact ⟨rfl, hB2.out⟩
  · rw [codeI_1 hm]
    have hi := hid (show Tells false (IsM m) from ⟨fun h => (by cases h), fun h => absurd h hm⟩)
    replace hk := hid hk; clear hm
    go_enter Tryz.func85, Tryz.ntmps85
    go_wp2_with (first
      | ((with_reducible refine gate (N := 8) rfl ?_); refine load_mach rfl _ rfl w.heap.size rfl m hM.out ?_)
      | (go_at_call 97; (with_reducible refine (IsMachine_any _ m hk.out false hi.out.out).mono ?_); rintro e w1 ⟨rfl, hb⟩; have hB2 := hid (hB.out.trans (hb.mono hB.out.size)); clear hb hM hB hO hi))
    go_ret
    exact ⟨rfl, hB2.out⟩
end Go.Proofs.YthmcdfjijkecfaaGreat

/- Levels of machines: their codes, and what states and their inverses make of them. -/
namespace Go.Proofs.YthmcdfjijkecfaaGreat
open Go.RowKit
set_option linter.unusedVariables false
set_option linter.unusedSimpArgs false

theorem pw_small (l n : Nat) (hl : l ≤ 3) (hn : n ≤ 5) : pw l n ≤ 243 := by
  have : ∀ a : Fin 4, ∀ b : Fin 6, pw a b ≤ 243 := by decide
  exact this ⟨l, by omega⟩ ⟨n, by omega⟩

open Classical in
/-- The code of a machine and a level. -/
noncomputable def levelI (m : Mach) (n : Int) : Int := if IsM m then if 0 ≤ n ∧ n ≤ 7 - m.L then 0 else 2 else 1
theorem levelI_1 {m : Mach} {n : Int} (h : ¬ IsM m) : levelI m n = 1 := by unfold levelI; rw [if_neg h]
theorem levelI_2 {m : Mach} {n : Int} {l s : Nat} (g : Good m l s) (h : ¬ (0 ≤ n ∧ n ≤ 7 - (l : Int))) : levelI m n = 2 := by unfold levelI; rw [if_pos g.isM, g.L, if_neg h]
theorem levelI_0 {m : Mach} {n : Int} {l s : Nat} (g : Good m l s) (h : 0 ≤ n ∧ n ≤ 7 - (l : Int)) : levelI m n = 0 := by unfold levelI; rw [if_pos g.isM, g.L, if_pos h]

set_option maxHeartbeats 1000000 in
theorem isLevel_any (b : Nat) (w : World) (m : Mach) (hm : MB w 27 b m) (l s : Nat) (g : Good m l s) (n : Int) (r : Bool) (hr : r = decide (0 ≤ n ∧ n ≤ 7 - (l : Int))) :
    Calls Tryz.prog 201 #[.pointer (some ⟨b, 0, none⟩), .int .i64 n] w fun e w' => e = .returned (.bool r) ∧ w = w' := by
  have cL := hm.cL
  rw [g.L] at cL
  have l2 := g.l2
  have l3 := g.l3
  clear hm g
  by_cases h5 : 0 ≤ n ∧ n ≤ 5
  · have hin := hid (fun W => within_any n 0 5 true (decide_eq_true h5).symm W)
    by_cases hl : l = 2
    · subst hl
      have hr' : r = true := by rw [hr]; exact decide_eq_true (by omega)
      subst hr'
      clear hr h5
      go_enter Tryz.func201, Tryz.ntmps201
      go_wp2_with (first
        | (go_at_call 86; (with_reducible refine (hin.out _).mono ?_); rintro e w1 ⟨rfl, rfl⟩))
      go_ret
      exact ⟨rfl, rfl⟩
    · have hl' : l = 3 := by omega
      subst hl'
      have hr' : r = decide (n < 5) := by rw [hr]; congr 1; apply propext; omega
      subst hr'
      clear hr
      go_enter Tryz.func201, Tryz.ntmps201
      go_wp2_with (first
        | (go_at_call 86; (with_reducible refine (hin.out _).mono ?_); rintro e w1 ⟨rfl, rfl⟩))
      go_ret
      exact ⟨rfl, rfl⟩
  · have hin := hid (fun W => within_any n 0 5 false (decide_eq_false h5).symm W)
    have hr' : r = false := by rw [hr]; exact decide_eq_false (by omega)
    subst hr'
    clear hr h5
    go_enter Tryz.func201, Tryz.ntmps201
    go_wp2_with (first
      | (go_at_call 86; (with_reducible refine (hin.out _).mono ?_); rintro e w1 ⟨rfl, rfl⟩))
    go_ret
    exact ⟨rfl, rfl⟩

set_option maxHeartbeats 1000000 in
theorem levelCode_any (w : World) (m : Mach) (hk : m.Ok) (n : Int) :
    Calls Tryz.prog 108 #[.agg (mcells m), .int .i64 n] w fun e w' => e = .returned (.int .i64 (levelI m n)) ∧ Below w.heap.size w w' := by
  have hM := hid (MB.new w m 27)
  have hB := hid (below_alloc (Below.refl w.heap.size w) (Nat.le_refl _) (.cells (mcells m) 27))
  by_cases hm : IsM m
  · obtain ⟨l, s, g⟩ := hm.good
    have hi := hid (show Tells true (IsM m) from ⟨fun _ => hm, fun _ => rfl⟩)
    by_cases hn : 0 ≤ n ∧ n ≤ 7 - (l : Int)
    · rw [levelI_0 g hn]
      have hl := hid (fun W hW => isLevel_any w.heap.size W m hW l s g n true (decide_eq_true hn).symm)
      replace hk := hid hk; clear hm hn g
      go_enter Tryz.func108, Tryz.ntmps108
      go_wp2_with (first
        | ((with_reducible refine gate (N := 6) rfl ?_); refine load_mach rfl _ rfl w.heap.size rfl m hM.out ?_)
        | (go_at_call 97; (with_reducible refine (IsMachine_any _ m hk.out true hi.out.out).mono ?_); rintro e w1 ⟨rfl, hb⟩; have hM2 := hid (hM.out.below hb hM.out.lt); have hB2 := hid (hB.out.trans (hb.mono hB.out.size)); clear hb hM hB hi)
        | (go_at_call 201; (with_reducible refine (hl.out _ hM2.out).mono ?_); rintro e w3 ⟨rfl, rfl⟩))
      go_ret
      exact ⟨rfl, hB2.out⟩
    · rw [levelI_2 g hn]
      have hl := hid (fun W hW => isLevel_any w.heap.size W m hW l s g n false (decide_eq_false hn).symm)
      replace hk := hid hk; clear hm hn g
      go_enter Tryz.func108, Tryz.ntmps108
      go_wp2_with (first
        | ((with_reducible refine gate (N := 6) rfl ?_); refine load_mach rfl _ rfl w.heap.size rfl m hM.out ?_)
        | (go_at_call 97; (with_reducible refine (IsMachine_any _ m hk.out true hi.out.out).mono ?_); rintro e w1 ⟨rfl, hb⟩; have hM2 := hid (hM.out.below hb hM.out.lt); have hB2 := hid (hB.out.trans (hb.mono hB.out.size)); clear hb hM hB hi)
        | (go_at_call 201; (with_reducible refine (hl.out _ hM2.out).mono ?_); rintro e w3 ⟨rfl, rfl⟩))
      go_ret
      exact ⟨rfl, hB2.out⟩
  · rw [levelI_1 hm]
    have hi := hid (show Tells false (IsM m) from ⟨fun h => (by cases h), fun h => absurd h hm⟩)
    replace hk := hid hk; clear hm
    go_enter Tryz.func108, Tryz.ntmps108
    go_wp2_with (first
      | ((with_reducible refine gate (N := 6) rfl ?_); refine load_mach rfl _ rfl w.heap.size rfl m hM.out ?_)
      | (go_at_call 97; (with_reducible refine (IsMachine_any _ m hk.out false hi.out.out).mono ?_); rintro e w1 ⟨rfl, hb⟩; have hB2 := hid (hB.out.trans (hb.mono hB.out.size)); clear hb hM hB hi))
    go_ret
    exact ⟨rfl, hB2.out⟩

set_option maxHeartbeats 1000000 in
theorem l05Code_any (w : World) (m : Mach) (hk : m.Ok) (n : Int) :
    Calls Tryz.prog 119 #[.agg (mcells m), .int .i64 n] w fun e w' => e = .returned (.int .i64 (levelI m n)) ∧ Below w.heap.size w w' := by
  have hM := hid (MB.new w m 27)
  have hB := hid (below_alloc (Below.refl w.heap.size w) (Nat.le_refl _) (.cells (mcells m) 27))
  by_cases hm : IsM m
  · obtain ⟨l, s, g⟩ := hm.good
    have hi := hid (show Tells true (IsM m) from ⟨fun _ => hm, fun _ => rfl⟩)
    have gL := hid g.L
    have l2 := g.l2
    have l3 := g.l3
    by_cases hn : 0 ≤ n ∧ n ≤ 7 - (l : Int)
    · rw [levelI_0 g hn]
      have hl := hid (fun W => l01In_any n 0 (7 - (l : Int)) true (decide_eq_true hn).symm W)
      replace hk := hid hk; clear hm hn g
      go_enter Tryz.func119, Tryz.ntmps119
      go_wp2_with (first
        | ((with_reducible refine gate (N := 6) rfl ?_); refine load_mach rfl _ rfl w.heap.size rfl m hM.out ?_)
        | (go_at_call 141; (with_reducible refine (l01Is_any _ m hk.out true hi.out.out).mono ?_); rintro e w1 ⟨rfl, hb⟩; have hM2 := hid (hM.out.below hb hM.out.lt); have hB2 := hid (hB.out.trans (hb.mono hB.out.size)); have cL := hM2.out.cL; rw [gL.out] at cL; clear hb hM hB hi)
        | (go_at_call 142; (with_reducible refine (hl.out _).mono ?_); rintro e w3 ⟨rfl, rfl⟩))
      go_ret
      exact ⟨rfl, hB2.out⟩
    · rw [levelI_2 g hn]
      have hl := hid (fun W => l01In_any n 0 (7 - (l : Int)) false (decide_eq_false hn).symm W)
      replace hk := hid hk; clear hm hn g
      go_enter Tryz.func119, Tryz.ntmps119
      go_wp2_with (first
        | ((with_reducible refine gate (N := 6) rfl ?_); refine load_mach rfl _ rfl w.heap.size rfl m hM.out ?_)
        | (go_at_call 141; (with_reducible refine (l01Is_any _ m hk.out true hi.out.out).mono ?_); rintro e w1 ⟨rfl, hb⟩; have hM2 := hid (hM.out.below hb hM.out.lt); have hB2 := hid (hB.out.trans (hb.mono hB.out.size)); have cL := hM2.out.cL; rw [gL.out] at cL; clear hb hM hB hi)
        | (go_at_call 142; (with_reducible refine (hl.out _).mono ?_); rintro e w3 ⟨rfl, rfl⟩))
      go_ret
      exact ⟨rfl, hB2.out⟩
  · rw [levelI_1 hm]
    have hi := hid (show Tells false (IsM m) from ⟨fun h => (by cases h), fun h => absurd h hm⟩)
    replace hk := hid hk; clear hm
    go_enter Tryz.func119, Tryz.ntmps119
    go_wp2_with (first
      | ((with_reducible refine gate (N := 6) rfl ?_); refine load_mach rfl _ rfl w.heap.size rfl m hM.out ?_)
      | (go_at_call 141; (with_reducible refine (l01Is_any _ m hk.out false hi.out.out).mono ?_); rintro e w1 ⟨rfl, hb⟩; have hB2 := hid (hB.out.trans (hb.mono hB.out.size)); clear hb hM hB hi))
    go_ret
    exact ⟨rfl, hB2.out⟩

/-! ### What a state and its inverse make of a level undo each other -/
theorem inv_cells {m : Mach} {l s : Nat} (g : Good m l s) (q y : Nat) (hq : q < s) (hy : y < l) :
    (inv m l s).nx (q * 3 + m.ot (q * 3 + y)) = m.nx (q * 3 + y) ∧ (inv m l s).ot (q * 3 + m.ot (q * 3 + y)) = y := allI_in m l g.l3 s g.ot g.inj q y hq hy
theorem out_surj {m : Mach} {l s : Nat} (g : Good m l s) (q x : Nat) (hq : q < s) (hx : x < l) : ∃ y, y < l ∧ m.ot (q * 3 + y) = x :=
  surj_of_inj (f := fun y => m.ot (q * 3 + y)) (fun y hy => g.ot q y hq hy) (fun y x hy hx => g.inj q hq y x hy hx) x hx
theorem img_inv {m : Mach} {l s : Nat} (g : Good m l s) : ∀ (u : List Nat) (q : Nat), q < s → (∀ x ∈ u, x < l) → img (inv m l s) q (img m q u) = u ∧ sec (inv m l s) q (img m q u) = sec m q u
  | [], _, _, _ => ⟨rfl, rfl⟩
  | x :: u, q, hq, hu => by
    have hx := hu x (by simp)
    obtain ⟨h1, h2⟩ := inv_cells g q x hq hx
    have ih := img_inv g u (m.nx (q * 3 + x)) (g.nx q x hq hx) (fun y hy => hu y (by simp [hy]))
    simp only [img, sec, h1, h2, ih.1, ih.2]
    exact ⟨trivial, trivial⟩
theorem inv_img {m : Mach} {l s : Nat} (g : Good m l s) : ∀ (u : List Nat) (q : Nat), q < s → (∀ x ∈ u, x < l) → img m q (img (inv m l s) q u) = u
  | [], _, _, _ => rfl
  | x :: u, q, hq, hu => by
    obtain ⟨y, hy, rfl⟩ := out_surj g q x hq (hu x (by simp))
    obtain ⟨h1, h2⟩ := inv_cells g q y hq hy
    have ih := inv_img g u (m.nx (q * 3 + y)) (g.nx q y hq hy) (fun z hz => hu z (by simp [hz]))
    simp only [img, h1, h2, ih]

/-- One number of a level. -/
def pf (m : Mach) (d q n k : Nat) : Nat := num d (img m q (wrd d n k))
theorem perm_pf (m : Mach) (d q n : Nat) : perm m d q n = (List.range (pw d n)).map (pf m d q n) := rfl
theorem pf_lt {m : Mach} {l s : Nat} (g : Good m l s) (q n k : Nat) (hq : q < s) : pf m l q n k < pw l n :=
  num_lt l n _ ((img_length m _ q).trans (wrd_length l n k)) (img_lt g _ q hq (wrd_lt l (by have := g.l2; omega) n k))
theorem pf_inv {m : Mach} {l s : Nat} (g : Good m l s) (q n k : Nat) (hq : q < s) (hk : k < pw l n) : pf (inv m l s) l q n (pf m l q n k) = k := by
  have hl : 0 < l := by have := g.l2; omega
  unfold pf
  rw [wrd_num l hl n _ ((img_length m _ q).trans (wrd_length l n k)) (img_lt g _ q hq (wrd_lt l hl n k)), (img_inv g _ q hq (wrd_lt l hl n k)).1, num_wrd l hl n k hk]
theorem inv_pf {m : Mach} {l s : Nat} (g : Good m l s) (q n k : Nat) (hq : q < s) (hk : k < pw l n) : pf m l q n (pf (inv m l s) l q n k) = k := by
  have hl : 0 < l := by have := g.l2; omega
  have g' := inv_good g
  unfold pf
  rw [wrd_num l hl n _ ((img_length _ _ q).trans (wrd_length l n k)) (img_lt g' _ q hq (wrd_lt l hl n k)), inv_img g _ q hq (wrd_lt l hl n k), num_wrd l hl n k hk]
end Go.Proofs.YthmcdfjijkecfaaGreat

/- Lists of lists of numbers, all of a function's own. -/
namespace Go.Proofs.YthmcdfjijkecfaaGreat
open Go.RowKit
set_option linter.unusedVariables false
set_option linter.unusedSimpArgs false

theorem info_ints : (Tryz.prog.info? 32).map (fun i => (i.zero, i.size, i.bytes)) = some (some (.slice none 0 0), 1, 24) := by kernel_rfl

/-- A slice of slices, each with a block of its own. -/
def Mat (w : World) (base : Nat) (v : Value) (M : List (List Int)) : Prop :=
  ∃ rows : List Value, Own w base 32 v rows ∧ rows.length = M.length ∧ ∀ (i : Nat) (r : Value) (l : List Int), rows[i]? = some r → M[i]? = some l → Own w base 2 r (ints l)

theorem Own.ne {w : World} {b b' e e' : Nat} {v v' : Value} {cs cs' : List Value} (h : Own w b e v cs) (h' : Own w b' e' v' cs') (hne : e ≠ e') (k : Nat) (hk : v.ownBlock = some k) : v'.ownBlock ≠ some k := by
  intro hk'
  rcases h.2 with ⟨rfl, _⟩ | ⟨g, cap, cur, rfl, hb, hg, rest⟩
  · cases hk
  · rcases h'.2 with ⟨rfl, _⟩ | ⟨g', cap', cur', rfl, hb', hg', rest'⟩
    · cases hk'
    · have e1 : g = k := by simpa [Value.ownBlock] using hk
      have e2 : g' = k := by simpa [Value.ownBlock] using hk'
      subst e1; subst e2
      rw [hg] at hg'
      injection hg' with hg'
      injection hg' with _ hg' _
      exact hne hg'

/-- A machine's block is none of them. -/
theorem Own.neMB {w : World} {b e t bm : Nat} {v : Value} {cs : List Value} {m : Mach} (h : Own w b e v cs) (hm : MB w t bm m) (hne : e ≠ t) : v.ownBlock ≠ some bm := by
  intro hk
  rcases h.2 with ⟨rfl, _⟩ | ⟨g, cap, cur, rfl, hb, hg, rest⟩
  · cases hk
  · have e1 : g = bm := by simpa [Value.ownBlock] using hk
    subst e1
    have h2 := hm.heap
    rw [hg] at h2
    injection h2 with h2
    injection h2 with _ h2 _
    exact hne h2

section
variable {w w' : World} {base : Nat} {v : Value} {M : List (List Int)}
theorem Mat.nil (w : World) (base : Nat) : Mat w base (.slice none 0 0) [] := ⟨[], Own.nil _ _ _, rfl, fun i r l h => by simp at h⟩
theorem Mat.new (w : World) (base : Nat) (hb : base ≤ w.heap.size) : Mat (w.alloc (.cells #[] 32)) base (.slice (some ⟨w.heap.size, 0, none⟩) 0 0) [] := ⟨[], Own.new _ _ _ hb, rfl, fun i r l h => by simp at h⟩
theorem Mat.below (h : Mat w base v M) (hb : Below w.heap.size w w') : Mat w' base v M := by
  obtain ⟨rows, h1, h2, h3⟩ := h
  exact ⟨rows, h1.below hb, h2, fun i r l hr hl => (h3 i r l hr hl).below hb⟩
theorem Mat.alloc (h : Mat w base v M) (o : Obj) : Mat (w.alloc o) base v M := by
  obtain ⟨rows, h1, h2, h3⟩ := h
  exact ⟨rows, h1.alloc o, h2, fun i r l hr hl => (h3 i r l hr hl).alloc o⟩
theorem Mat.drew (h : Mat w base v M) : Mat w.drew base v M := h
theorem Mat.mono {b' : Nat} (h : Mat w base v M) (hb : b' ≤ base) : Mat w b' v M := by
  obtain ⟨rows, h1, h2, h3⟩ := h
  exact ⟨rows, h1.mono hb, h2, fun i r l hr hl => (h3 i r l hr hl).mono hb⟩
/-- Where all that it has is as it was. -/
theorem Mat.keep (h : Mat w base v M) (hk : ∀ k, base ≤ k → k < w.heap.size → w'.heap[k]? = w.heap[k]?) : Mat w' base v M := by
  obtain ⟨rows, h1, h2, h3⟩ := h
  exact ⟨rows, h1.keep fun k hk' => hk k (h1.lt k hk').1 (h1.lt k hk').2, h2, fun i r l hr hl => (h3 i r l hr hl).keep fun k hk' => hk k ((h3 i r l hr hl).lt k hk').1 ((h3 i r l hr hl).lt k hk').2⟩
/-- Where all but a machine's block is as it was. -/
theorem Mat.keepM {t bm : Nat} {m : Mach} (h : Mat w base v M) (hm : MB w t bm m) (ht : t = 27) (hk : ∀ k, k ≠ bm → w'.heap[k]? = w.heap[k]?) : Mat w' base v M := by
  subst ht
  obtain ⟨rows, h1, h2, h3⟩ := h
  exact ⟨rows, h1.keep fun k hk' => hk k (fun e => h1.neMB hm (by decide) (e ▸ hk')), h2, fun i r l hr hl => (h3 i r l hr hl).keep fun k hk' => hk k (fun e => (h3 i r l hr hl).neMB hm (by decide) (e ▸ hk'))⟩
theorem Mat.neMB {bm : Nat} {m : Mach} (h : Mat w base v M) (hm : MB w 27 bm m) : v.ownBlock ≠ some bm := by
  obtain ⟨rows, h1, _⟩ := h
  exact h1.neMB hm (by decide)
theorem Mat.lt (h : Mat w base v M) : ∀ k, v.ownBlock = some k → base ≤ k ∧ k < w.heap.size := by
  obtain ⟨rows, h1, _⟩ := h
  exact h1.lt
theorem Mat.form (h : Mat w base v M) : ∃ A cap, v = .slice A M.length cap := by
  obtain ⟨rows, h1, h2, _⟩ := h
  obtain ⟨A, cap, hv, _⟩ := h1.form
  exact ⟨A, cap, by rw [hv, h2]⟩
theorem Mat.blk (h : Mat w base v M) (hne : M ≠ []) : ∃ g cap, v = .slice (some ⟨g, 0, none⟩) M.length cap ∧ base ≤ g ∧ g < w.heap.size := by
  obtain ⟨rows, h1, h2, _⟩ := h
  obtain ⟨g, cap, hv, hg⟩ := h1.blk (fun e => hne (List.eq_nil_of_length_eq_zero (by rw [← h2, e]; rfl)))
  exact ⟨g, cap, by rw [hv, h2], hg⟩
/-- One row. -/
theorem Mat.row {g n cap : Nat} (h : Mat w base (.slice (some ⟨g, 0, none⟩) n cap) M) (i : Nat) (l : List Int) (hl : M[i]? = some l) :
    ∃ r, w.cell? ⟨g, i, none⟩ = some r ∧ Own w base 2 r (ints l) := by
  obtain ⟨rows, h1, h2, h3⟩ := h
  have hi : i < rows.length := by rw [h2]; exact (List.getElem?_eq_some_iff.1 hl).1
  obtain ⟨r, hr⟩ : ∃ r, rows[i]? = some r := ⟨_, List.getElem?_eq_getElem hi⟩
  exact ⟨r, h1.cellAt i r hr, h3 i r l hr hl⟩
/-- One row more. -/
theorem Mat.snoc {v' r : Value} {rows : List Value} {l : List Int} (hrows : Own w base 32 v rows) (hlen : rows.length = M.length)
    (hall : ∀ (i : Nat) (r : Value) (l : List Int), rows[i]? = some r → M[i]? = some l → Own w base 2 r (ints l)) (hr : Own w base 2 r (ints l))
    (hnew : Own w' base 32 v' (rows ++ [r])) (hold : ∀ k, k < w.heap.size → v.ownBlock ≠ some k → w'.heap[k]? = w.heap[k]?) : Mat w' base v' (M ++ [l]) := by
  have keep : ∀ {r' : Value} {l' : List Int}, Own w base 2 r' (ints l') → Own w' base 2 r' (ints l') := fun h => h.keep fun k hk => hold k (h.lt k hk).2 (h.ne hrows (by decide) k hk)
  refine ⟨rows ++ [r], hnew, by simp [hlen], fun i r' l' h1 h2 => ?_⟩
  by_cases hi : i < rows.length
  · rw [List.getElem?_append_left hi] at h1
    rw [List.getElem?_append_left (by omega)] at h2
    exact keep (hall i r' l' h1 h2)
  · have hi2 : i = rows.length := by
      have := (List.getElem?_eq_some_iff.1 h1).1
      simp at this; omega
    subst hi2
    rw [List.getElem?_append_right (Nat.le_refl _)] at h1
    rw [List.getElem?_append_right (by omega)] at h2
    simp at h1
    simp [hlen] at h2
    subst h1; subst h2
    exact keep hr
end

/-- One row appended, as the walk meets it: behind the box of the row. -/
theorem appM {ops : Array Oper} {rest : List Oper} {o : Oper} {a : Act} {W : World} {Q : Exit → Act → World → Prop}
    (hgd : o.guard = none) (s x : Operand) (ho : o.op = .call { callee := .builtin .append, args := #[s, x], argTypes := #[43, 43] })
    (base : Nat) (v : Value) (M : List (List Int)) (hs : a.eval s = v) (hmat : Mat W base v M) (hbase : base ≤ W.heap.size) (r : Value) (l : List Int) (hr : Own W base 2 r (ints l)) (hr1 : r.oneCell' = true)
    (hx : a.eval x = .slice (some ⟨W.heap.size, 0, none⟩) 1 1) (hlen : M.length ≤ 1000000000)
    (h : ∀ g cap w', Mat w' base (.slice (some ⟨g, 0, none⟩) (M.length + 1) cap) (M ++ [l]) → Below base W w' → (∀ k, k < W.heap.size → v.ownBlock ≠ some k → w'.heap[k]? = W.heap[k]?) →
      wpList Tryz.prog ops Q rest (a.put o.dst (.slice (some ⟨g, 0, none⟩) (M.length + 1) cap)) w') :
    wpList Tryz.prog ops Q (o :: rest) a (W.alloc (.cells #[r] 32)) := by
  obtain ⟨rows, h1, h2, h3⟩ := hmat
  refine app1 43 32 (.slice none 0 0) 24 Tryz.underlying43 info_ints rfl (by omega) hgd s x ho base v rows hs h1 hbase r hr1 hx (by omega) ?_
  intro g cap w' k1 k2 k3 _ _
  rw [h2] at k1 ⊢
  exact h g cap w' (Mat.snoc h1 h2 h3 hr k1 k3) k2 k3
theorem Own.oneCell {w : World} {b e : Nat} {v : Value} {cs : List Value} (h : Own w b e v cs) : v.oneCell' = true := by
  rcases h.2 with ⟨rfl, _⟩ | ⟨g, cap, cur, rfl, _⟩ <;> rfl

/-- A level as numbers. -/
def permZ (m : Mach) (d q n : Nat) : List Int := (perm m d q n).map Int.ofNat
theorem permZ_length (m : Mach) (d q n : Nat) : (permZ m d q n).length = pw d n := by simp [permZ, perm_length]
theorem permZ_get (m : Mach) (d q n k : Nat) (hk : k < pw d n) : (permZ m d q n)[k]? = some ((pf m d q n k : Nat) : Int) := by simp [permZ, perm_pf, hk]

/-- What all states make of a level, and their inverses. -/
def tabA (m : Mach) (d n s : Nat) : List (List Int) := (List.range s).map fun q => permZ m d q n
theorem tabA_snoc (m : Mach) (d n s : Nat) : tabA m d n (s + 1) = tabA m d n s ++ [permZ m d s n] := by simp [tabA, List.range_succ]
theorem tabA_length (m : Mach) (d n s : Nat) : (tabA m d n s).length = s := by simp [tabA]
theorem tabA_get (m : Mach) (d n s q : Nat) (h : q < s) : (tabA m d n s)[q]? = some (permZ m d q n) := by simp [tabA, h]

set_option maxHeartbeats 2000000 in
set_option maxRecDepth 100000 in
theorem l05Tables_any (w : World) (m : Mach) (l s : Nat) (g : Good m l s) (hk : m.Ok) (n : Nat) (hn : n ≤ 40) (hb : pw l n ≤ 100000) :
    Calls Tryz.prog 114 #[.agg (mcells m), .int .i64 n] w fun e w' => ∃ v, e = .returned v ∧ Mat w' w.heap.size v (tabA m l n s ++ tabA (inv m l s) l n s) ∧ Below w.heap.size w w' := by
  have hM := hid ((MB.new w m 27).alloc (.cells #[] 32))
  have hB := hid (below_alloc (below_alloc (Below.refl w.heap.size w) (Nat.le_refl _) (.cells (mcells m) 27)) (Nat.le_refl _) (.cells #[] 32))
  have hT := Mat.new (w.alloc (.cells (mcells m) 27)) w.heap.size (by rw [heap_alloc_size]; omega)
  rw [heap_alloc_size] at hT
  replace hT := hid hT
  have hz := zeroM_run
  have h0 := hid (fun w' : World => MB.new w' zeroM 27)
  have gS := hid g.S
  have s16 := g.s16
  have hinv := hid (fun W => l01Inverse_any W m l s g hk)
  have hlev := hid (fun q (hq : q < s) W => l01Level_any W m l s g q hq n hn hb)
  have hlevi := hid (fun q (hq : q < s) W => l01Level_any W (inv m l s) l s (inv_good g) q hq n hn hb)
  have hnz := hid (fun m q => nats_ints (perm m l q n))
  generalize hI : inv m l s = I at *
  replace hI := hid hI
  replace g := hid g
  replace hk := hid hk
  generalize mcells zeroM = zs at *
  go_enter Tryz.func114, Tryz.ntmps114
  go_wp2_with (first
    | ((with_reducible refine gate (N := 10) rfl ?_); refine load_mach rfl _ rfl w.heap.size rfl m hM.out ?_)
    | (go_at_call 137; (with_reducible refine (hinv.out _).mono ?_); rintro e w1 ⟨rfl, hb1⟩; have hM1 := hid ((hM.out.below hb1 hM.out.lt).alloc (.cells zs 27)); have hlt := hid (hM.out.below hb1 hM.out.lt).lt; have hT1 := hid ((hT.out.below hb1).alloc (.cells zs 27)); have hB1 := hid (hB.out.trans (hb1.mono hB.out.size)); have hB1a := hid (below_alloc hB1.out (Nat.le_refl _) (.cells zs 27)); clear hb1 hM hT hB hinv)
    | ((with_reducible refine gateOp (op := .store 27 (.tmp 6) (.tmp 11)) rfl ?_); refine store_mach rfl _ _ rfl w1.heap.size rfl I rfl 27 _ (h0.out w1) ?_; intro w2 hV ho hsz hbl; have hV2 := hid hV; have hM2 := hid (show MB w2 27 w.heap.size m from World.rowIs.of_block hM1.out (ho _ (by have := hlt.out; omega))); have hB2 := hid (hbl _ _ hB1.out.size hB1a.out); have hT2 := hid (hT1.out.keepM (h0.out w1) rfl ho); clear hV ho hsz hbl hM1 hB1 hB1a hT1))
  go_loopw [5, 7] (fun v i wr => ∃ q : Nat, q ≤ s ∧ i = .int .i64 q ∧ MB wr 27 w.heap.size m ∧ MB wr 27 w1.heap.size I ∧ Mat wr w.heap.size v (tabA m l n q) ∧ Below w.heap.size w wr) (fun _ i _ => s - (intOf i).toNat)
  case atStart => exact ⟨0, Nat.zero_le _, rfl, hM2.out, hV2.out, hT2.out, hB2.out⟩
  case round =>
    obtain ⟨q, hq, rfl, r1, r2, r3, rB⟩ := hrel
    have cS := r1.cS
    rw [gS.out] at cS
    have hml := hid (show (tabA m l n q).length ≤ s + s by (try rw [List.length_append]); (try rw [tabA_length]); (try rw [tabA_length]); omega)
    replace r1 := hid r1; replace r2 := hid r2; replace r3 := hid r3; replace rB := hid rB
    by_cases hlq : q < s
    · have dq : decide ((q : Int) < (s : Int)) = true := decide_eq_true (by omega)
      have hsn := hid (tabA_snoc m l n q)
      go_wp2_with (first
        | ((with_reducible refine gate (N := 19) rfl ?_); refine load_mach rfl _ rfl w.heap.size rfl m r1.out ?_)
        | (go_at_call 172; (with_reducible refine (hlev.out q hlq _).mono ?_); rintro e w3 ⟨r, rfl, hO, hb3⟩; rw [hnz.out] at hO; obtain ⟨Ar, cr, rfl, _, _⟩ := hO.form; have hR := hid (hO.mono rB.out.size); have t1 := hid (r1.out.below hb3 r1.out.lt); have t2 := hid (r2.out.below hb3 r2.out.lt); have t3 := hid (r3.out.below hb3); have tB := hid (rB.out.trans (hb3.mono rB.out.size)); clear hO hb3 r1 r2 r3 rB cS)
        | ((with_reducible refine gate (N := 24) rfl ?_); refine appM rfl _ _ rfl w.heap.size _ (tabA m l n q) rfl t3.out tB.out.size _ (permZ m l q n) hR.out hR.out.oneCell rfl (by have := hml.out; omega) ?_; intro gn cap w4 hM4 hb4 hold; have y1 := hid (show MB w4 27 w.heap.size m from World.rowIs.of_block t1.out (hold _ t1.out.lt (t3.out.neMB t1.out))); have y2 := hid (show MB w4 27 w1.heap.size I from World.rowIs.of_block t2.out (hold _ t2.out.lt (t3.out.neMB t2.out))); have y3 := hid hM4; have yB := hid (tB.out.trans hb4); clear hM4 hb4 hold t1 t2 t3 tB hR))
      go_roundw
      case rel => exact ⟨q + 1, by omega, by go_num, y1.out, y2.out, by rw [hsn.out]; exact y3.out, yB.out⟩
      case measure => simp [intOf]; omega
    · obtain rfl : s = q := by omega
      clear hml hlq hq
      go_wp2
      go_loopw [5, 8] (fun v i wr => ∃ q : Nat, q ≤ s ∧ i = .int .i64 q ∧ MB wr 27 w.heap.size m ∧ MB wr 27 w1.heap.size I ∧ Mat wr w.heap.size v (tabA m l n s ++ tabA I l n q) ∧ Below w.heap.size w wr) (fun _ i _ => s - (intOf i).toNat)
      case atStart => exact ⟨0, Nat.zero_le _, rfl, r1.out, r2.out, by rw [show tabA I l n 0 = [] from rfl, List.append_nil]; exact r3.out, rB.out⟩
      case round =>
        obtain ⟨q, hq, rfl, r1, r2, r3, rB⟩ := hrel
        have cS := r1.cS
        rw [gS.out] at cS
        have hml := hid (show (tabA m l n s ++ tabA I l n q).length ≤ s + s by (try rw [List.length_append]); (try rw [tabA_length]); (try rw [tabA_length]); omega)
        replace r1 := hid r1; replace r2 := hid r2; replace r3 := hid r3; replace rB := hid rB
        by_cases hlq : q < s
        · have dq : decide ((q : Int) < (s : Int)) = true := decide_eq_true (by omega)
          have hsn := hid (tabA_snoc I l n q)
          go_wp2_with (first
            | ((with_reducible refine gate (N := 32) rfl ?_); refine load_mach rfl _ rfl w1.heap.size rfl I r2.out ?_)
            | (go_at_call 172; (with_reducible refine (hlevi.out q hlq _).mono ?_); rintro e w3 ⟨r, rfl, hO, hb3⟩; rw [hnz.out] at hO; obtain ⟨Ar, cr, rfl, _, _⟩ := hO.form; have hR := hid (hO.mono rB.out.size); have t1 := hid (r1.out.below hb3 r1.out.lt); have t2 := hid (r2.out.below hb3 r2.out.lt); have t3 := hid (r3.out.below hb3); have tB := hid (rB.out.trans (hb3.mono rB.out.size)); clear hO hb3 r1 r2 r3 rB cS)
            | ((with_reducible refine gate (N := 37) rfl ?_); refine appM rfl _ _ rfl w.heap.size _ (tabA m l n s ++ tabA I l n q) rfl t3.out tB.out.size _ (permZ I l q n) hR.out hR.out.oneCell rfl (by have := hml.out; omega) ?_; intro gn cap w4 hM4 hb4 hold; have y1 := hid (show MB w4 27 w.heap.size m from World.rowIs.of_block t1.out (hold _ t1.out.lt (t3.out.neMB t1.out))); have y2 := hid (show MB w4 27 w1.heap.size I from World.rowIs.of_block t2.out (hold _ t2.out.lt (t3.out.neMB t2.out))); have y3 := hid hM4; have yB := hid (tB.out.trans hb4); clear hM4 hb4 hold t1 t2 t3 tB hR))
          go_roundw
          case rel => exact ⟨q + 1, by omega, by go_num, y1.out, y2.out, by rw [hsn.out, ← List.append_assoc]; have h := y3.out; rw [List.length_append] at h; exact h, yB.out⟩
          case measure => simp [intOf]; omega
        · obtain rfl : s = q := by omega
          go_wp2
          go_ret
          exact ⟨_, rfl, r3.out, rB.out⟩
end Go.Proofs.YthmcdfjijkecfaaGreat

/- Portraits: permutations of letters, and lists of their numbers. -/
namespace Go.Proofs.YthmcdfjijkecfaaGreat
open Go.RowKit
set_option linter.unusedVariables false
set_option linter.unusedSimpArgs false

/-- All permutations of d letters, by their numbers. -/
def prms (d : Nat) : List (List Int) := if d = 2 then [[0, 1], [1, 0]] else [[0, 1, 2], [0, 2, 1], [1, 0, 2], [1, 2, 0], [2, 0, 1], [2, 1, 0]]
def cnt (d : Nat) : Nat := if d = 2 then 2 else 6
theorem prms_length (d : Nat) : (prms d).length = cnt d := by unfold prms cnt; split <;> rfl
/-- The number of words of the levels less than k. -/
def start (d : Nat) : Nat → Nat
  | 0 => 0
  | k + 1 => start d k + pw d k
theorem start_pw (d : Nat) (hd : 1 ≤ d) : ∀ k, start d k * (d - 1) + 1 = pw d k
  | 0 => by simp [start, pw]
  | k + 1 => by
    have h := start_pw d hd k
    obtain ⟨e, rfl⟩ : ∃ e, d = e + 1 := ⟨d - 1, by omega⟩
    simp only [Nat.add_sub_cancel, start, pw] at h ⊢
    rw [Nat.add_mul, Nat.mul_add, Nat.mul_one]
    omega
theorem start_div (d : Nat) (hd : 2 ≤ d) (k : Nat) : (pw d k - 1) / (d - 1) = start d k := by
  rw [← start_pw d (by omega) k, Nat.add_sub_cancel, Nat.mul_div_cancel _ (by omega)]
/-- What a function makes of the words of the levels less than k. -/
def byL (d : Nat) (F : List Nat → Int) : Nat → List Int
  | 0 => []
  | k + 1 => byL d F k ++ (List.range (pw d k)).map fun j => F (wrd d k j)
theorem byL_length (d : Nat) (F : List Nat → Int) : ∀ k, (byL d F k).length = start d k
  | 0 => rfl
  | k + 1 => by simp [byL, start, byL_length d F k]
theorem byL_get (d : Nat) (F : List Nat → Int) (k j : Nat) (hj : j < pw d k) : ∀ n, k < n → (byL d F n)[start d k + j]? = some (F (wrd d k j))
  | 0, h => absurd h (Nat.not_lt_zero _)
  | n + 1, h => by
    by_cases e : k = n
    · subst e
      rw [byL, List.getElem?_append_right (by rw [byL_length]; omega), byL_length, show start d k + j - start d k = j by omega]
      simp [hj]
    · have ih := byL_get d F k j hj n (by omega)
      rw [byL, List.getElem?_append_left (List.getElem?_eq_some_iff.1 ih).1]
      exact ih
theorem byL_congr (d : Nat) (F G : List Nat → Int) (n : Nat) (h : ∀ k, k < n → ∀ j, j < pw d k → F (wrd d k j) = G (wrd d k j)) : byL d F n = byL d G n := by
  induction n with
  | zero => rfl
  | succ n ih =>
    rw [byL, byL, ih fun k hk => h k (by omega)]
    congr 1
    exact List.map_congr_left fun j hj => h n (by omega) j (List.mem_range.1 hj)
/-- Is g a portrait? -/
def IsP (d n : Nat) (g : List Int) : Prop := g.length = start d n ∧ ∀ k ∈ g, 0 ≤ k ∧ k < (cnt d : Int)
/-- Are letters and depth in their ranges? -/
def IsD (d n : Int) : Prop := (2 ≤ d ∧ d ≤ 3) ∧ 1 ≤ n ∧ n ≤ 4
instance (d n : Int) : Decidable (IsD d n) := by unfold IsD; infer_instance
instance (d n : Nat) (g : List Int) : Decidable (IsP d n g) := by unfold IsP; infer_instance
/-- The code of portraits. -/
def pcode (d n : Int) (L : List (List Int)) : Int := if IsD d n then (if ∀ g ∈ L, IsP d.toNat n.toNat g then 0 else 1) else 2
theorem IsD.nat {d n : Int} (h : IsD d n) : ∃ (a b : Nat), d = a ∧ n = b ∧ (a = 2 ∨ a = 3) ∧ 1 ≤ b ∧ b ≤ 4 := by
  obtain ⟨⟨h1, h2⟩, h3, h4⟩ := h
  exact ⟨d.toNat, n.toNat, by omega, by omega, by omega, by omega, by omega⟩
theorem start_le {d n : Nat} (hd : d = 2 ∨ d = 3) (hn : n ≤ 4) : start d n ≤ 40 ∧ pw d n ≤ 81 := by
  have : n = 0 ∨ n = 1 ∨ n = 2 ∨ n = 3 ∨ n = 4 := by omega
  rcases hd with rfl | rfl <;> rcases this with rfl | rfl | rfl | rfl | rfl <;> decide
theorem start_mono (d : Nat) (k : Nat) : ∀ j, start d k ≤ start d (k + j)
  | 0 => Nat.le_refl _
  | j + 1 => Nat.le_trans (start_mono d k j) (Nat.le_add_right _ _)
theorem pw5 {d n : Nat} (hd : d = 2 ∨ d = 3) (hn : n ≤ 5) : pw d n ≤ 243 := by
  have : n = 0 ∨ n = 1 ∨ n = 2 ∨ n = 3 ∨ n = 4 ∨ n = 5 := by omega
  rcases hd with rfl | rfl <;> rcases this with rfl | rfl | rfl | rfl | rfl | rfl <;> decide
/-- The words of a level in part. -/
def byP (d : Nat) (F : List Nat → Int) (k j : Nat) : List Int := byL d F k ++ (List.range j).map fun i => F (wrd d k i)
theorem byP_zero (d : Nat) (F : List Nat → Int) (k : Nat) : byP d F k 0 = byL d F k := by simp [byP]
theorem byP_full (d : Nat) (F : List Nat → Int) (k : Nat) : byP d F k (pw d k) = byL d F (k + 1) := rfl
theorem byP_snoc (d : Nat) (F : List Nat → Int) (k j : Nat) : byP d F k (j + 1) = byP d F k j ++ [F (wrd d k j)] := by simp [byP, List.range_succ]
theorem byP_length (d : Nat) (F : List Nat → Int) (k j : Nat) : (byP d F k j).length = start d k + j := by simp [byP, byL_length]
/-- What stands in a list at a word. -/
def gAt (d : Nat) (g : List Int) (u : List Nat) : Int := g.getD (start d u.length + num d u) 0
end Go.Proofs.YthmcdfjijkecfaaGreat
