/- What the proof of FnTop leans on, part 25 of 28. -/
import Derived.Test.YthmcdfjijkecfaaGreatZFnTopX
/- The portrait of a map that respects beginnings, and how it is read from the map of a level. -/
namespace Go.Proofs.YthmcdfjijkecfaaGreat
open Go.RowKit
set_option linter.unusedVariables false
set_option linter.unusedSimpArgs false
-- @LONG

/-- What a map makes of the letters behind a word. -/
def lrow (d : Nat) (F : List Nat → List Nat) (u : List Nat) : List Int := (List.range d).map fun x => (((F (u ++ [x])).getD u.length 0 : Nat) : Int)
/-- The portrait of a map. -/
def prtF (d : Nat) (F : List Nat → List Nat) (n : Nat) : List Int := byL d (fun u => pnm (lrow d F u)) n
theorem pq_two (a b : Nat) (ha : a < 2) (hb : b < 2) (h : a ≠ b) : ∃ i, i < cnt 2 ∧ pnm [(a : Int), (b : Int)] = (i : Nat) ∧ pim 2 i 0 = a ∧ pim 2 i 1 = b := by
  have h1 : (a = 0 ∧ b = 1) ∨ (a = 1 ∧ b = 0) := by omega
  rcases h1 with ⟨rfl, rfl⟩ | ⟨rfl, rfl⟩
  · exact ⟨0, by decide, by decide, by decide, by decide⟩
  · exact ⟨1, by decide, by decide, by decide, by decide⟩
theorem pq_three (a b c : Nat) (ha : a < 3) (hb : b < 3) (hc : c < 3) (h : a ≠ b) (h2 : a ≠ c) (h3 : b ≠ c) : ∃ i, i < cnt 3 ∧ pnm [(a : Int), (b : Int), (c : Int)] = (i : Nat) ∧ pim 3 i 0 = a ∧ pim 3 i 1 = b ∧ pim 3 i 2 = c := by
  have h1 : (a = 0 ∧ b = 1 ∧ c = 2) ∨ (a = 0 ∧ b = 2 ∧ c = 1) ∨ (a = 1 ∧ b = 0 ∧ c = 2) ∨ (a = 1 ∧ b = 2 ∧ c = 0) ∨ (a = 2 ∧ b = 0 ∧ c = 1) ∨ (a = 2 ∧ b = 1 ∧ c = 0) := by omega
  rcases h1 with ⟨rfl, rfl, rfl⟩ | ⟨rfl, rfl, rfl⟩ | ⟨rfl, rfl, rfl⟩ | ⟨rfl, rfl, rfl⟩ | ⟨rfl, rfl, rfl⟩ | ⟨rfl, rfl, rfl⟩
  · exact ⟨0, by decide, by decide, by decide, by decide, by decide⟩
  · exact ⟨1, by decide, by decide, by decide, by decide, by decide⟩
  · exact ⟨2, by decide, by decide, by decide, by decide, by decide⟩
  · exact ⟨3, by decide, by decide, by decide, by decide, by decide⟩
  · exact ⟨4, by decide, by decide, by decide, by decide, by decide⟩
  · exact ⟨5, by decide, by decide, by decide, by decide, by decide⟩
section
variable {d n : Nat} {F : List Nat → List Nat}
theorem snoc_lt {u : List Nat} {x : Nat} (hu : ∀ y ∈ u, y < d) (hx : x < d) : ∀ y ∈ u ++ [x], y < d := fun y hy => (List.mem_append.1 hy).elim (hu y) fun hy => by rw [List.mem_singleton.1 hy]; exact hx
/-- The letter that is put out behind a word. -/
theorem Aut.last (h : Aut d F n) {u : List Nat} {x : Nat} (hu : ∀ y ∈ u, y < d) (hx : x < d) (hn : u.length < n) : F (u ++ [x]) = F u ++ [(F (u ++ [x])).getD u.length 0] ∧ (F (u ++ [x])).getD u.length 0 < d := by
  obtain ⟨y, hy⟩ := h.pre u x hu hx hn
  have hl := h.len u hu (by omega)
  have e : (F (u ++ [x])).getD u.length 0 = y := by
    rw [hy, List.getD_eq_getElem?_getD, ← hl, List.getElem?_append_right (Nat.le_refl _)]; simp
  refine ⟨by rw [e]; exact hy, ?_⟩
  rw [e]
  exact h.lt (u ++ [x]) (snoc_lt hu hx) (by simp; omega) y (by rw [hy]; simp)
theorem Aut.last_ne (h : Aut d F n) {u : List Nat} {x y : Nat} (hu : ∀ z ∈ u, z < d) (hx : x < d) (hy : y < d) (hn : u.length < n) (hne : x ≠ y) : (F (u ++ [x])).getD u.length 0 ≠ (F (u ++ [y])).getD u.length 0 := fun e => by
  have h1 := (h.last hu hx hn).1
  have h2 := (h.last hu hy hn).1
  rw [e] at h1
  have h3 := h.inj _ _ (snoc_lt hu hx) (snoc_lt hu hy) (by simp; omega) (by simp) (h1.trans h2.symm)
  have h4 := List.append_cancel_left h3
  exact hne (by simpa using h4)
theorem lrow_length (u : List Nat) : (lrow d F u).length = d := by simp [lrow]
/-- The number of what is made of the letters behind a word. -/
theorem lrow_num (hd : d = 2 ∨ d = 3) (h : Aut d F n) {u : List Nat} (hu : ∀ y ∈ u, y < d) (hn : u.length < n) : ∃ i, i < cnt d ∧ pnm (lrow d F u) = (i : Nat) ∧ ∀ x, x < d → pim d i x = (F (u ++ [x])).getD u.length 0 := by
  rcases hd with rfl | rfl
  · obtain ⟨i, h1, h2, h3, h4⟩ := pq_two _ _ (h.last hu (show 0 < 2 by omega) hn).2 (h.last hu (show 1 < 2 by omega) hn).2 (h.last_ne hu (show 0 < 2 by omega) (show 1 < 2 by omega) hn (by omega))
    refine ⟨i, h1, h2, fun x hx => ?_⟩
    have : x = 0 ∨ x = 1 := by omega
    rcases this with rfl | rfl
    · exact h3
    · exact h4
  · obtain ⟨i, h1, h2, h3, h4, h5⟩ := pq_three _ _ _ (h.last hu (show 0 < 3 by omega) hn).2 (h.last hu (show 1 < 3 by omega) hn).2 (h.last hu (show 2 < 3 by omega) hn).2 (h.last_ne hu (show 0 < 3 by omega) (show 1 < 3 by omega) hn (by omega)) (h.last_ne hu (show 0 < 3 by omega) (show 2 < 3 by omega) hn (by omega)) (h.last_ne hu (show 1 < 3 by omega) (show 2 < 3 by omega) hn (by omega))
    refine ⟨i, h1, h2, fun x hx => ?_⟩
    have : x = 0 ∨ x = 1 ∨ x = 2 := by omega
    rcases this with rfl | rfl | rfl
    · exact h3
    · exact h4
    · exact h5
theorem byL_all {G : List Nat → Int} {P : Int → Prop} : ∀ n, (∀ k, k < n → ∀ j, j < pw d k → P (G (wrd d k j))) → ∀ x ∈ byL d G n, P x
  | 0, _, x, hx => by cases hx
  | n + 1, h, x, hx => by
    rcases List.mem_append.1 hx with hx | hx
    · exact byL_all n (fun k hk => h k (by omega)) x hx
    · obtain ⟨j, hj, rfl⟩ := List.mem_map.1 hx
      exact h n (by omega) j (List.mem_range.1 hj)
theorem prtF_isP (hd : d = 2 ∨ d = 3) (h : Aut d F n) : IsP d n (prtF d F n) := by
  refine ⟨byL_length _ _ _, byL_all n fun k hk j hj => ?_⟩
  obtain ⟨i, h1, h2, _⟩ := lrow_num hd h (u := wrd d k j) (wrd_lt d (by omega) k j) (by rw [wrd_length]; exact hk)
  rw [h2]; omega
theorem prtF_gAt (hd : d = 2 ∨ d = 3) {u : List Nat} (hu : ∀ y ∈ u, y < d) (hn : u.length < n) : gAt d (prtF d F n) u = pnm (lrow d F u) := by
  have h1 := num_lt d u.length u rfl hu
  have h2 := byL_get d (fun u => pnm (lrow d F u)) u.length (num d u) h1 n hn
  unfold gAt prtF
  rw [List.getD_eq_getElem?_getD, h2, wrd_num d (by omega) _ u rfl hu]; rfl
/-- The portrait of a map leads words to where the map leads them. -/
theorem act_prtF (hd : d = 2 ∨ d = 3) (h : Aut d F n) : ∀ (k : Nat) (u : List Nat), u.length = k → k ≤ n → (∀ y ∈ u, y < d) → actP d (prtF d F n) u = F u
  | 0, u, hk, _, hu => by
    have h1 := h.len u hu (by omega)
    rw [List.length_eq_zero_iff.1 hk] at h1 ⊢
    exact (List.length_eq_zero_iff.1 h1).symm
  | k + 1, u, hk, hkn, hu => by
    obtain ⟨v, x, rfl⟩ : ∃ v x, u = v ++ [x] := ⟨u.dropLast, u.getLast (by intro e; rw [e] at hk; simp at hk), (List.dropLast_concat_getLast _).symm⟩
    have hv : ∀ y ∈ v, y < d := fun y hy => hu y (List.mem_append.2 (.inl hy))
    have hx : x < d := hu x (by simp)
    have hvk : v.length = k := by simpa using hk
    obtain ⟨i, h1, h2, h3⟩ := lrow_num hd h hv (by omega)
    rw [actP_snoc, act_prtF hd h k v hvk (by omega) hv, prtF_gAt hd hv (by omega), h2, Int.toNat_natCast, h3 x hx]
    exact (h.last hv hx (by omega)).1.symm
theorem pmF_congr {G : List Nat → List Nat} (hd : 0 < d) (h : ∀ u, u.length = n → (∀ y ∈ u, y < d) → F u = G u) : pmF d F n = pmF d G n :=
  List.map_congr_left fun k _ => by rw [h _ (wrd_length d n k) (wrd_lt d hd n k)]
theorem prtF_congr {G : List Nat → List Nat} (hd : 0 < d) (h : ∀ u, u.length ≤ n → (∀ y ∈ u, y < d) → F u = G u) : prtF d F n = prtF d G n := by
  refine byL_congr d _ _ n fun k hk j hj => congrArg pnm ?_
  refine List.map_congr_left fun x hx => ?_
  rw [h _ (by simp [wrd_length]; omega) (snoc_lt (wrd_lt d hd k j) (List.mem_range.1 hx))]
/-- What stands at a place of a word, read from its number. -/
theorem num_at (hd : 0 < d) : ∀ (j : Nat) (v : List Nat) (k : Nat), v.length = k + j + 1 → (∀ y ∈ v, y < d) → num d v / pw d j % d = v.getD k 0
  | 0, v, k, hl, hv => by
    obtain ⟨u, x, rfl⟩ : ∃ u x, v = u ++ [x] := ⟨v.dropLast, v.getLast (by intro e; rw [e] at hl; simp at hl), (List.dropLast_concat_getLast _).symm⟩
    have hk : u.length = k := by simpa using hl
    have hx : x < d := hv x (by simp)
    rw [show pw d 0 = 1 from rfl, Nat.div_one, num_snoc, Nat.mul_comm, Nat.mul_add_mod, Nat.mod_eq_of_lt hx, ← hk]
    simp [List.getD_eq_getElem?_getD]
  | j + 1, v, k, hl, hv => by
    obtain ⟨u, x, rfl⟩ : ∃ u x, v = u ++ [x] := ⟨v.dropLast, v.getLast (by intro e; rw [e] at hl; simp at hl), (List.dropLast_concat_getLast _).symm⟩
    have hk : u.length = k + j + 1 := by
      have : u.length + 1 = k + (j + 1) + 1 := by simpa using hl
      omega
    have hx : x < d := hv x (by simp)
    have h1 : (num d u * d + x) / d = num d u := by rw [Nat.mul_comm, Nat.mul_add_div hd, Nat.div_eq_of_lt hx, Nat.add_zero]
    rw [num_snoc, show pw d (j + 1) = pw d j * d from rfl, Nat.mul_comm (pw d j) d, ← Nat.div_div_eq_div_mul, h1, num_at hd j u k hk fun y hy => hv y (List.mem_append.2 (.inl hy))]
    rw [List.getD_eq_getElem?_getD, List.getD_eq_getElem?_getD, List.getElem?_append_left (by omega)]
/-- The number of a word with zeros behind it. -/
theorem num_zeros (u : List Nat) : ∀ j, num d (u ++ List.replicate j 0) = num d u * pw d j
  | 0 => by rw [List.replicate_zero, List.append_nil]; exact (Nat.mul_one _).symm
  | j + 1 => by
    rw [List.replicate_succ', ← List.append_assoc, num_snoc, num_zeros u j, Nat.add_zero, Nat.mul_assoc]; rfl
theorem zeros_lt (hd : 0 < d) {u : List Nat} (hu : ∀ y ∈ u, y < d) (j : Nat) : ∀ y ∈ u ++ List.replicate j 0, y < d := fun y hy => (List.mem_append.1 hy).elim (hu y) fun hy => by rw [List.eq_of_mem_replicate hy]; exact hd
/-- What a map makes of the beginning of a word. -/
theorem Aut.begin (hd : 0 < d) (h : Aut d F n) {u : List Nat} (hu : ∀ y ∈ u, y < d) : ∀ j, u.length + j ≤ n → ∃ v, F (u ++ List.replicate j 0) = F u ++ v ∧ v.length = j
  | 0, _ => ⟨[], by simp, rfl⟩
  | j + 1, hj => by
    obtain ⟨v, hv, hvl⟩ := Aut.begin hd h hu j (by omega)
    obtain ⟨y, hy⟩ := h.pre (u ++ List.replicate j 0) 0 (zeros_lt hd hu j) hd (by simp; omega)
    exact ⟨v ++ [y], by rw [List.replicate_succ', ← List.append_assoc, hy, hv, List.append_assoc], by simp [hvl]⟩
/-- How the letter behind a word is read from the numbers of a level. -/
theorem pmF_read (hd : d = 2 ∨ d = 3) (h : Aut d F n) {u : List Nat} (hu : ∀ y ∈ u, y < d) (hn : u.length < n) {x : Nat} (hx : x < d) : num d u * pw d (n - u.length) + x * pw d (n - u.length - 1) < pw d n ∧ (pmF d F n).getD (num d u * pw d (n - u.length) + x * pw d (n - u.length - 1)) 0 / pw d (n - u.length - 1) % d = (F (u ++ [x])).getD u.length 0 := by
  have d0 : 0 < d := by omega
  obtain ⟨j, hj⟩ : ∃ j, n = u.length + j + 1 := ⟨n - u.length - 1, by omega⟩
  have e1 : n - u.length = j + 1 := by omega
  have e2 : n - u.length - 1 = j := by omega
  rw [e2, e1]
  have hux := snoc_lt hu hx
  have e3 : num d u * pw d (j + 1) + x * pw d j = num d ((u ++ [x]) ++ List.replicate j 0) := by
    rw [num_zeros, num_snoc, Nat.add_mul, Nat.mul_assoc, show pw d (j + 1) = pw d j * d from rfl, Nat.mul_comm (pw d j) d]
  have hl : ((u ++ [x]) ++ List.replicate j 0).length = n := by simp; omega
  have hz := zeros_lt d0 hux j
  have hlt := num_lt d n _ hl hz
  rw [e3]
  refine ⟨hlt, ?_⟩
  rw [pmF_get hlt, wrd_num d d0 n _ hl hz]
  obtain ⟨v, hv, hvl⟩ := h.begin d0 hux j (by simp; omega)
  have hFl := h.len (u ++ [x]) hux (by simp; omega)
  have hF2 := h.len _ hz (by omega)
  rw [num_at d0 j _ u.length (by rw [hF2, hl]; omega) (h.lt _ hz (by omega)), hv]
  rw [List.getD_eq_getElem?_getD, List.getD_eq_getElem?_getD, List.getElem?_append_left (by rw [hFl]; simp)]
end
end Go.Proofs.YthmcdfjijkecfaaGreat
