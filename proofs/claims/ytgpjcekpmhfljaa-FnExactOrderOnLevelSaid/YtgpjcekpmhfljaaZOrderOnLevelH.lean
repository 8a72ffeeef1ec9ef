/- What the proof of OrderOnLevel leans on, part 8 of 8. -/
import Derived.Test.YtgpjcekpmhfljaaZOrderOnLevelG
import Derived.Shelf.SortM.Plain
import Derived.Shelf.SortM.SortNone
import Derived.Sort.OwnSortedInts
/- Cycles of a permutation: plain law. -/
namespace Go.Proofs.Ytgpjcekpmhfljaa
open Go.RowKit
set_option linter.unusedVariables false
set_option linter.unusedSimpArgs false

/-- How many are not met. -/
def cf (s : List Bool) : Nat := s.count false
/-- From a on, until a met number: what is met then, and how many were new. -/
def cyrun (p : List Nat) : Nat → List Bool → Nat → List Bool × Nat
  | 0, s, _ => (s, 0)
  | f + 1, s, a => if s.getD a true then (s, 0) else ((cyrun p f (s.set a true) (p.getD a 0)).1, (cyrun p f (s.set a true) (p.getD a 0)).2 + 1)
def crun (p : List Nat) (s : List Bool) (a : Nat) : List Bool × Nat := cyrun p (cf s) s a
theorem crun_seen {p : List Nat} {s : List Bool} {a : Nat} (h : s[a]? = some true) : crun p s a = (s, 0) := by
  unfold crun
  cases cf s with
  | zero => rfl
  | succ f => unfold cyrun; rw [List.getD_eq_getElem?_getD, h]; rfl
theorem cf_set : ∀ {s : List Bool} {a : Nat}, s[a]? = some false → cf s = cf (s.set a true) + 1
  | [], a, h => by simp at h
  | b :: s, 0, h => by
    simp at h; subst h
    simp [cf]
  | b :: s, a + 1, h => by
    have ih := cf_set (s := s) (a := a) (by simpa using h)
    simp only [cf, List.set_cons_succ, List.count_cons] at ih ⊢
    omega
theorem crun_new {p : List Nat} {s : List Bool} {a : Nat} (h : s[a]? = some false) : crun p s a = ((crun p (s.set a true) (p.getD a 0)).1, (crun p (s.set a true) (p.getD a 0)).2 + 1) := by
  unfold crun
  rw [cf_set h]
  conv => lhs; unfold cyrun
  rw [List.getD_eq_getElem?_getD, h]
  rfl
/-- What is met, and the cycles' lengths, before k. -/
def cyst (p : List Nat) : Nat → List Bool × List Nat
  | 0 => (List.replicate p.length false, [])
  | k + 1 => ((crun p (cyst p k).1 k).1, if 0 < (crun p (cyst p k).1 k).2 then (cyst p k).2 ++ [(crun p (cyst p k).1 k).2] else (cyst p k).2)
/-- The lengths of the cycles, in the order of their least numbers. -/
def cyc (p : List Nat) : List Nat := (cyst p p.length).2
theorem cyrun_len (p : List Nat) : ∀ f s a, (cyrun p f s a).1.length = s.length
  | 0, _, _ => rfl
  | f + 1, s, a => by
    unfold cyrun
    split
    · rfl
    · show (cyrun p f (s.set a true) _).1.length = _
      rw [cyrun_len p f]; simp
theorem crun_len (p : List Nat) (s : List Bool) (a : Nat) : (crun p s a).1.length = s.length := cyrun_len p _ s a
theorem cyst_len (p : List Nat) : ∀ k, (cyst p k).1.length = p.length
  | 0 => by simp [cyst]
  | k + 1 => by rw [cyst]; dsimp only; rw [crun_len, cyst_len p k]
theorem cyrun_le (p : List Nat) : ∀ f s a, (cyrun p f s a).2 ≤ f
  | 0, _, _ => Nat.le_refl _
  | f + 1, s, a => by
    unfold cyrun
    split
    · exact Nat.zero_le _
    · exact Nat.succ_le_succ (cyrun_le p f _ _)
theorem crun_le (p : List Nat) (s : List Bool) (a : Nat) : (crun p s a).2 ≤ s.length := Nat.le_trans (cyrun_le p _ s a) (by unfold cf; exact List.count_le_length)
theorem cyst_out (p : List Nat) : ∀ k, (cyst p k).2.length ≤ k
  | 0 => Nat.le_refl _
  | k + 1 => by
    have := cyst_out p k
    rw [cyst]; dsimp only
    split
    · simp; omega
    · omega
theorem cyst_pos (p : List Nat) : ∀ k c, c ∈ (cyst p k).2 → 0 < c ∧ c ≤ p.length
  | 0, c, h => by simp [cyst] at h
  | k + 1, c, h => by
    rw [cyst] at h; dsimp only at h
    split at h
    · rename_i hp
      rcases List.mem_append.1 h with h | h
      · exact cyst_pos p k c h
      · rw [List.mem_singleton] at h
        subst h
        exact ⟨hp, by have := crun_le p (cyst p k).1 k; rw [cyst_len] at this; exact this⟩
    · exact cyst_pos p k c h
/-! Cycles of a permutation. -/
def itp (p : List Nat) : Nat → Nat → Nat
  | 0, k => k
  | j + 1, k => p.getD (itp p j k) 0
/-- p leads the numbers below its length to such, each from one. -/
structure IsPm (p : List Nat) : Prop where
  lt : ∀ k, k < p.length → p.getD k 0 < p.length
  inj : ∀ i j, i < p.length → j < p.length → p.getD i 0 = p.getD j 0 → i = j
theorem itp_lt {p : List Nat} (h : IsPm p) {k : Nat} (hk : k < p.length) : ∀ j, itp p j k < p.length
  | 0 => hk
  | j + 1 => h.lt _ (itp_lt h hk j)
theorem itp_add (p : List Nat) (i k : Nat) : ∀ j, itp p (j + i) k = itp p j (itp p i k)
  | 0 => by rw [Nat.zero_add]; rfl
  | j + 1 => by rw [show j + 1 + i = (j + i) + 1 by omega]; show p.getD _ 0 = p.getD _ 0; rw [itp_add p i k j]
theorem itp_inj {p : List Nat} (h : IsPm p) {a b : Nat} (ha : a < p.length) (hb : b < p.length) : ∀ j, itp p j a = itp p j b → a = b
  | 0, e => e
  | j + 1, e => itp_inj h ha hb j (h.inj _ _ (itp_lt h ha j) (itp_lt h hb j) e)
theorem itp_mul {p : List Nat} {c k : Nat} (h : itp p c k = k) : ∀ j, itp p (j * c) k = k
  | 0 => by rw [Nat.zero_mul]; rfl
  | j + 1 => by rw [Nat.succ_mul, itp_add, h]; exact itp_mul h j
/-- c is the length of the cycle of k. -/
structure IsCy (p : List Nat) (k c : Nat) : Prop where
  pos : 0 < c
  back : itp p c k = k
  min : ∀ j, 0 < j → j < c → itp p j k ≠ k
theorem IsCy.dvd {p : List Nat} {k c K : Nat} (h : IsCy p k c) (hK : itp p K k = k) : c ∣ K := by
  have e : itp p (K % c) k = k := by
    have h1 : K = K % c + (K / c) * c := by have := Nat.div_add_mod K c; rw [Nat.mul_comm] at this; omega
    have h2 : itp p (K % c + (K / c) * c) k = k := by rw [← h1]; exact hK
    rw [itp_add, itp_mul h.back] at h2
    exact h2
  rcases Nat.eq_zero_or_pos (K % c) with h0 | h0
  · exact Nat.dvd_of_mod_eq_zero h0
  · exact absurd e (h.min _ h0 (Nat.mod_lt _ h.pos))
theorem cy_ex {p : List Nat} (h : IsPm p) {k : Nat} (hk : k < p.length) : ∃ c, IsCy p k c := by
  have hex : ∃ c, 0 < c ∧ itp p c k = k := by
    apply Classical.byContradiction
    intro hn
    have := inj_le (p.length + 1) p.length (fun i => itp p i k) (fun i _ => itp_lt h hk i) (fun i j hij _ e => by
      refine hn ⟨j - i, by omega, ?_⟩
      have h1 : itp p (i + (j - i)) k = itp p i (itp p (j - i) k) := itp_add p (j - i) k i
      rw [show i + (j - i) = j by omega] at h1
      exact itp_inj h (itp_lt h hk _) hk i (by rw [← h1]; exact e.symm))
    omega
  obtain ⟨c, hc⟩ := hex
  induction c using Nat.strongRecOn with
  | ind c ih =>
    by_cases hm : ∃ j, j < c ∧ 0 < j ∧ itp p j k = k
    · obtain ⟨j, h1, h2⟩ := hm
      exact ih j h1 h2
    · exact ⟨c, hc.1, hc.2, fun j h1 h2 h3 => hm ⟨j, h2, h1, h3⟩⟩
/-- Whole cycles are met. -/
def Clo (p : List Nat) (s : List Bool) : Prop := ∀ x, x < p.length → (s[x]? = some true ↔ s[p.getD x 0]? = some true)
def mkd (p : List Nat) (s : List Bool) (k : Nat) : Nat → List Bool
  | 0 => s
  | j + 1 => (mkd p s k j).set (itp p j k) true
theorem mkd_len (p : List Nat) (s : List Bool) (k : Nat) : ∀ j, (mkd p s k j).length = s.length
  | 0 => rfl
  | j + 1 => by rw [mkd, List.length_set, mkd_len p s k j]
theorem mkd_get {p : List Nat} {s : List Bool} {k x : Nat} (hx : x < s.length) : ∀ j, ((mkd p s k j)[x]? = some true ↔ s[x]? = some true ∨ ∃ i, i < j ∧ itp p i k = x)
  | 0 => ⟨fun h => .inl h, fun h => h.elim id fun ⟨i, hi, _⟩ => absurd hi (Nat.not_lt_zero _)⟩
  | j + 1 => by
    rw [mkd, List.getElem?_set, mkd_len]
    by_cases e : itp p j k = x
    · rw [if_pos e, if_pos (by omega)]
      exact ⟨fun _ => .inr ⟨j, by omega, e⟩, fun _ => rfl⟩
    · rw [if_neg e, mkd_get hx j]
      constructor
      · rintro (h | ⟨i, hi, h⟩)
        · exact .inl h
        · exact .inr ⟨i, by omega, h⟩
      · rintro (h | ⟨i, hi, h⟩)
        · exact .inl h
        · by_cases e2 : i = j
          · subst e2; exact absurd h e
          · exact .inr ⟨i, by omega, h⟩
theorem Clo.it {p : List Nat} {s : List Bool} (hc : Clo p s) (h : IsPm p) {k : Nat} (hk : k < p.length) : ∀ j, (s[k]? = some true ↔ s[itp p j k]? = some true)
  | 0 => Iff.rfl
  | j + 1 => (hc.it h hk j).trans (hc _ (itp_lt h hk j))
theorem get_bool {s : List Bool} {x : Nat} (hx : x < s.length) (h : ¬ s[x]? = some true) : s[x]? = some false := by
  rw [List.getElem?_eq_getElem hx] at h ⊢
  cases hb : s[x] with
  | true => rw [hb] at h; exact absurd rfl h
  | false => rfl
theorem crun_cy {p : List Nat} {s : List Bool} (h : IsPm p) (hl : s.length = p.length) (hc : Clo p s) {k c : Nat} (hk : k < p.length) (hs : ¬ s[k]? = some true) (hy : IsCy p k c) :
    ∀ f j, j + f = c → crun p (mkd p s k j) (itp p j k) = (mkd p s k c, f)
  | 0, j, e => by
    obtain rfl : j = c := by omega
    rw [hy.back]
    exact crun_seen ((mkd_get (by omega) j).2 (.inr ⟨0, hy.pos, rfl⟩))
  | f + 1, j, e => by
    have hlt := itp_lt h hk j
    have hn : (mkd p s k j)[itp p j k]? = some false := get_bool (by rw [mkd_len]; omega) fun ht => by
      rcases (mkd_get (by omega) j).1 ht with h1 | ⟨i, hi, h1⟩
      · exact hs ((hc.it h hk j).2 h1)
      · refine hy.min (j - i) (by omega) (by omega) (itp_inj h (itp_lt h hk _) hk i ?_)
        rw [← itp_add, show i + (j - i) = j by omega]
        exact h1.symm
    rw [crun_new hn]
    have ih := crun_cy h hl hc hk hs hy f (j + 1) (by omega)
    have e2 : (mkd p s k j).set (itp p j k) true = mkd p s k (j + 1) := rfl
    have e3 : p.getD (itp p j k) 0 = itp p (j + 1) k := rfl
    rw [e2, e3, ih]
theorem mkd_clo {p : List Nat} {s : List Bool} (h : IsPm p) (hl : s.length = p.length) (hc : Clo p s) {k c : Nat} (hk : k < p.length) (hy : IsCy p k c) : Clo p (mkd p s k c) := fun x hx => by
  have hp := h.lt x hx
  rw [mkd_get (by omega), mkd_get (by omega)]
  constructor
  · rintro (h1 | ⟨i, hi, rfl⟩)
    · exact .inl ((hc x hx).1 h1)
    · by_cases e : i + 1 = c
      · exact .inr ⟨0, hy.pos, by show k = itp p (i + 1) k; rw [e, hy.back]⟩
      · exact .inr ⟨i + 1, by omega, rfl⟩
  · rintro (h1 | ⟨i, hi, h1⟩)
    · exact .inl ((hc x hx).2 h1)
    · cases i with
      | zero =>
        obtain ⟨d, rfl⟩ : ∃ d, c = d + 1 := ⟨c - 1, by have := hy.pos; omega⟩
        have h2 : p.getD (itp p d k) 0 = p.getD x 0 := hy.back.trans h1
        exact .inr ⟨d, by omega, h.inj _ _ (itp_lt h hk d) hx h2⟩
      | succ i => exact .inr ⟨i, by omega, h.inj _ _ (itp_lt h hk i) hx h1⟩
theorem IsCy.of_it {p : List Nat} (h : IsPm p) {k c : Nat} (hk : k < p.length) (hy : IsCy p k c) (i : Nat) : IsCy p (itp p i k) c where
  pos := hy.pos
  back := by rw [← itp_add, Nat.add_comm, itp_add, hy.back]
  min := fun j h1 h2 h3 => hy.min j h1 h2 (itp_inj h (itp_lt h hk _) hk i (by rw [← itp_add, Nat.add_comm, itp_add]; exact h3))
/-- What is known of the numbers before k. -/
theorem cyst_ok {p : List Nat} (h : IsPm p) : ∀ k, k ≤ p.length → Clo p (cyst p k).1 ∧ (∀ c ∈ (cyst p k).2, ∃ x, x < p.length ∧ IsCy p x c) ∧ (∀ x, x < p.length → (cyst p k).1[x]? = some true → ∃ c ∈ (cyst p k).2, IsCy p x c) ∧ (∀ x, x < k → (cyst p k).1[x]? = some true)
  | 0, _ => by
    refine ⟨fun x hx => ?_, fun c hc => by simp [cyst] at hc, fun x hx ht => ?_, fun x hx => absurd hx (Nat.not_lt_zero _)⟩
    · have hp := h.lt x hx
      simp only [cyst, List.getElem?_replicate, hx, hp, if_true]
    · simp [cyst, hx] at ht
  | k + 1, hk => by
    obtain ⟨h1, h2, h3, h4⟩ := cyst_ok h k (by omega)
    have hl := cyst_len p k
    by_cases hs : (cyst p k).1[k]? = some true
    · have e : cyst p (k + 1) = cyst p k := by rw [cyst, crun_seen hs]; rfl
      rw [e]
      exact ⟨h1, h2, h3, fun x hx => by by_cases e : x = k; · subst e; exact hs
                                        · exact h4 x (by omega)⟩
    · obtain ⟨c, hy⟩ := cy_ex h (show k < p.length by omega)
      have hr := crun_cy h hl h1 (by omega) hs hy c 0 (by omega)
      have hr2 : crun p (cyst p k).1 k = (mkd p (cyst p k).1 k c, c) := hr
      have e : cyst p (k + 1) = (mkd p (cyst p k).1 k c, (cyst p k).2 ++ [c]) := by rw [cyst, hr2]; dsimp only; rw [if_pos hy.pos]
      rw [e]
      refine ⟨mkd_clo h hl h1 (by omega) hy, fun c' hc' => ?_, fun x hx ht => ?_, fun x hx => ?_⟩
      · rcases List.mem_append.1 hc' with hc' | hc'
        · exact h2 c' hc'
        · rw [List.mem_singleton] at hc'; subst hc'; exact ⟨k, by omega, hy⟩
      · rcases (mkd_get (by omega) c).1 ht with ht | ⟨i, hi, rfl⟩
        · obtain ⟨c', hc', hy'⟩ := h3 x hx ht
          exact ⟨c', List.mem_append.2 (.inl hc'), hy'⟩
        · exact ⟨c, by simp, hy.of_it h (by omega) i⟩
      · refine (mkd_get (by omega) c).2 ?_
        by_cases e : x = k
        · subst e; exact .inr ⟨0, hy.pos, rfl⟩
        · exact .inl (h4 x (by omega))
theorem cyc_cy {p : List Nat} (h : IsPm p) {c : Nat} (hc : c ∈ cyc p) : ∃ x, x < p.length ∧ IsCy p x c := (cyst_ok h p.length (Nat.le_refl _)).2.1 c hc
theorem cyc_all {p : List Nat} (h : IsPm p) {x : Nat} (hx : x < p.length) : ∃ c ∈ cyc p, IsCy p x c :=
  have hk := cyst_ok h p.length (Nat.le_refl _)
  hk.2.2.1 x hx (hk.2.2.2 x hx)
theorem cyc_dvd {p : List Nat} (h : IsPm p) {K : Nat} (hK : ∀ x, x < p.length → itp p K x = x) {c : Nat} (hc : c ∈ cyc p) : c ∣ K := by
  obtain ⟨x, hx, hy⟩ := cyc_cy h hc
  exact hy.dvd (hK x hx)
/-- The order so far. -/
def ordL (l : List Nat) : Nat := l.foldl Nat.lcm 1
theorem foldl_lcm_dvd {K : Nat} : ∀ (l : List Nat) (a : Nat), a ∣ K → (∀ c ∈ l, c ∣ K) → l.foldl Nat.lcm a ∣ K
  | [], _, h, _ => h
  | c :: l, a, h, hl => foldl_lcm_dvd l _ (Nat.lcm_dvd h (hl c (by simp))) fun d hd => hl d (by simp [hd])
theorem foldl_lcm_start : ∀ (l : List Nat) (a : Nat), a ∣ l.foldl Nat.lcm a
  | [], _ => Nat.dvd_refl _
  | c :: l, a => Nat.dvd_trans (Nat.dvd_lcm_left a c) (foldl_lcm_start l _)
theorem foldl_lcm_mem : ∀ (l : List Nat) (a : Nat) (c : Nat), c ∈ l → c ∣ l.foldl Nat.lcm a
  | d :: l, a, c, h => by
    rcases List.mem_cons.1 h with rfl | h
    · exact Nat.dvd_trans (Nat.dvd_lcm_right a c) (foldl_lcm_start l _)
    · exact foldl_lcm_mem l _ c h
theorem ordL_dvd {K : Nat} {l : List Nat} (h : ∀ c ∈ l, c ∣ K) : ordL l ∣ K := foldl_lcm_dvd l 1 (Nat.one_dvd _) h
theorem ordL_mem {l : List Nat} {c : Nat} (h : c ∈ l) : c ∣ ordL l := foldl_lcm_mem l 1 c h
theorem ordL_congr {l l' : List Nat} (h : ∀ c, c ∈ l ↔ c ∈ l') : ordL l = ordL l' :=
  Nat.dvd_antisymm (ordL_dvd fun c hc => ordL_mem ((h c).1 hc)) (ordL_dvd fun c hc => ordL_mem ((h c).2 hc))
end Go.Proofs.Ytgpjcekpmhfljaa

/- Maps that respect beginnings: how often they bring all words back. -/
namespace Go.Proofs.Ytgpjcekpmhfljaa
open Go.RowKit
set_option linter.unusedVariables false
set_option linter.unusedSimpArgs false

/-- F leads words to words of the same length, common beginnings to common beginnings, different words to different ones. -/
structure Aut (d : Nat) (F : List Nat → List Nat) (n : Nat) : Prop where
  len : ∀ u, (∀ x ∈ u, x < d) → u.length ≤ n → (F u).length = u.length
  lt : ∀ u, (∀ x ∈ u, x < d) → u.length ≤ n → ∀ y ∈ F u, y < d
  pre : ∀ u x, (∀ y ∈ u, y < d) → x < d → u.length < n → ∃ y, F (u ++ [x]) = F u ++ [y]
  inj : ∀ u v, (∀ x ∈ u, x < d) → (∀ x ∈ v, x < d) → u.length ≤ n → u.length = v.length → F u = F v → u = v
def itF (F : List Nat → List Nat) : Nat → List Nat → List Nat
  | 0, u => u
  | j + 1, u => F (itF F j u)
theorem itF_add (F : List Nat → List Nat) (i : Nat) (u : List Nat) : ∀ j, itF F (j + i) u = itF F j (itF F i u)
  | 0 => by rw [Nat.zero_add]; rfl
  | j + 1 => by rw [show j + 1 + i = (j + i) + 1 by omega]; show F _ = F _; rw [itF_add F i u j]
theorem itF_mul (F : List Nat → List Nat) (c : Nat) (u : List Nat) : ∀ j, itF F (j * c) u = itF (itF F c) j u
  | 0 => by rw [Nat.zero_mul]; rfl
  | j + 1 => by rw [Nat.succ_mul, Nat.add_comm, itF_add]; show _ = itF F c (itF (itF F c) j u); rw [itF_mul F c u j]
theorem Aut.id (d n : Nat) : Aut d (fun u => u) n := ⟨fun _ _ _ => rfl, fun _ h _ => h, fun _ x _ _ _ => ⟨x, rfl⟩, fun _ _ _ _ _ _ h => h⟩
theorem Aut.comp {d n : Nat} {F G : List Nat → List Nat} (hF : Aut d F n) (hG : Aut d G n) : Aut d (fun u => F (G u)) n where
  len := fun u h hl => by rw [hF.len _ (hG.lt u h hl) (by rw [hG.len u h hl]; exact hl), hG.len u h hl]
  lt := fun u h hl => hF.lt _ (hG.lt u h hl) (by rw [hG.len u h hl]; exact hl)
  pre := fun u x h hx hl => by
    obtain ⟨y, hy⟩ := hG.pre u x h hx hl
    have h1 : ∀ z ∈ G (u ++ [x]), z < d := hG.lt _ (fun z hz => (List.mem_append.1 hz).elim (h z) fun hz => by rw [List.mem_singleton.1 hz]; exact hx) (by simp; omega)
    rw [hy] at h1
    obtain ⟨z, hz⟩ := hF.pre (G u) y (fun a ha => h1 a (List.mem_append.2 (.inl ha))) (h1 y (by simp)) (by rw [hG.len u h (by omega)]; exact hl)
    exact ⟨z, by rw [hy, hz]⟩
  inj := fun u v hu hv hl he e => hG.inj u v hu hv hl he (hF.inj _ _ (hG.lt u hu hl) (hG.lt v hv (by omega)) (by rw [hG.len u hu hl]; exact hl) (by rw [hG.len u hu hl, hG.len v hv (by omega), he]) e)
theorem Aut.it {d n : Nat} {F : List Nat → List Nat} (h : Aut d F n) : ∀ j, Aut d (itF F j) n
  | 0 => Aut.id d n
  | j + 1 => h.comp (h.it j)
def itN (t : Nat → Nat) : Nat → Nat → Nat
  | 0, x => x
  | j + 1, x => t (itN t j x)
theorem two_back (t : Nat → Nat) (hl : ∀ x, x < 2 → t x < 2) (hi : ∀ x y, x < 2 → y < 2 → t x = t y → x = y) (x : Nat) (hx : x < 2) : itN t 2 x = x := by
  have h0 := hl 0 (by omega); have h1 := hl 1 (by omega)
  have h01 : t 0 ≠ t 1 := fun e => absurd (hi 0 1 (by omega) (by omega) e) (by decide)
  have hx' : x = 0 ∨ x = 1 := by omega
  have c : (t 0 = 0 ∧ t 1 = 1) ∨ (t 0 = 1 ∧ t 1 = 0) := by omega
  rcases c with ⟨a, b⟩ | ⟨a, b⟩ <;> rcases hx' with rfl | rfl <;> simp [itN, a, b]
theorem three_back (t : Nat → Nat) (hl : ∀ x, x < 3 → t x < 3) (hi : ∀ x y, x < 3 → y < 3 → t x = t y → x = y) (x : Nat) (hx : x < 3) : itN t 6 x = x := by
  have h0 := hl 0 (by omega); have h1 := hl 1 (by omega); have h2 := hl 2 (by omega)
  have h01 : t 0 ≠ t 1 := fun e => absurd (hi 0 1 (by omega) (by omega) e) (by decide)
  have h02 : t 0 ≠ t 2 := fun e => absurd (hi 0 2 (by omega) (by omega) e) (by decide)
  have h12 : t 1 ≠ t 2 := fun e => absurd (hi 1 2 (by omega) (by omega) e) (by decide)
  have hx' : x = 0 ∨ x = 1 ∨ x = 2 := by omega
  have c : (t 0 = 0 ∧ t 1 = 1 ∧ t 2 = 2) ∨ (t 0 = 0 ∧ t 1 = 2 ∧ t 2 = 1) ∨ (t 0 = 1 ∧ t 1 = 0 ∧ t 2 = 2) ∨ (t 0 = 1 ∧ t 1 = 2 ∧ t 2 = 0) ∨ (t 0 = 2 ∧ t 1 = 0 ∧ t 2 = 1) ∨ (t 0 = 2 ∧ t 1 = 1 ∧ t 2 = 0) := by omega
  rcases c with ⟨a, b, c⟩ | ⟨a, b, c⟩ | ⟨a, b, c⟩ | ⟨a, b, c⟩ | ⟨a, b, c⟩ | ⟨a, b, c⟩ <;> rcases hx' with rfl | rfl | rfl <;> simp [itN, a, b, c]
/-- A number of times that brings each of d letters back. -/
def bk (d : Nat) : Nat := if d = 2 then 2 else 6
theorem let_back {d : Nat} (hd : d = 2 ∨ d = 3) (t : Nat → Nat) (hl : ∀ x, x < d → t x < d) (hi : ∀ x y, x < d → y < d → t x = t y → x = y) (x : Nat) (hx : x < d) : itN t (bk d) x = x := by
  rcases hd with rfl | rfl
  · exact two_back t hl hi x hx
  · exact three_back t hl hi x hx
theorem aut_last {d n : Nat} {G : List Nat → List Nat} (hd : d = 2 ∨ d = 3) (hG : Aut d G n) (v : List Nat) (hv : ∀ y ∈ v, y < d) (hl : v.length < n) (hf : G v = v) (x : Nat) (hx : x < d) : itF G (bk d) (v ++ [x]) = v ++ [x] := by
  obtain ⟨t, ht⟩ : ∃ t : Nat → Nat, ∀ x, x < d → G (v ++ [x]) = v ++ [t x] := by
    refine ⟨fun x => (G (v ++ [x])).getD v.length 0, fun x hx => ?_⟩
    obtain ⟨y, hy⟩ := hG.pre v x hv hx hl
    rw [hf] at hy
    show G (v ++ [x]) = v ++ [(G (v ++ [x])).getD v.length 0]
    rw [hy]
    simp
  have hm : ∀ x, x < d → ∀ z ∈ v ++ [x], z < d := fun x hx z hz => (List.mem_append.1 hz).elim (hv z) fun hz => by rw [List.mem_singleton.1 hz]; exact hx
  have htl : ∀ x, x < d → t x < d := fun x hx => by
    have := hG.lt (v ++ [x]) (hm x hx) (by simp; omega)
    rw [ht x hx] at this
    exact this (t x) (by simp)
  have hti : ∀ x y, x < d → y < d → t x = t y → x = y := fun x y hx hy e => by
    have := hG.inj (v ++ [x]) (v ++ [y]) (hm x hx) (hm y hy) (by simp; omega) (by simp) (by rw [ht x hx, ht y hy, e])
    simpa using this
  have hit : ∀ j, itF G j (v ++ [x]) = v ++ [itN t j x] ∧ itN t j x < d := fun j => by
    induction j with
    | zero => exact ⟨rfl, hx⟩
    | succ j ih => exact ⟨by show G _ = _; rw [ih.1, ht _ ih.2]; rfl, htl _ ih.2⟩
  rw [(hit _).1, let_back hd t htl hti x hx]
theorem aut_back {d n : Nat} {F : List Nat → List Nat} (hd : d = 2 ∨ d = 3) (h : Aut d F n) : ∀ (k : Nat) (u : List Nat), u.length = k → k ≤ n → (∀ y ∈ u, y < d) → itF F (bk d ^ k) u = u
  | 0, u, hl, _, _ => by
    obtain rfl := List.length_eq_zero_iff.1 hl
    have h1 := (h.it (bk d ^ 0)).len [] (by simp) (by simp)
    exact List.length_eq_zero_iff.1 h1
  | k + 1, u, hl, hk, hu => by
    obtain ⟨v, x, rfl⟩ : ∃ v x, u = v ++ [x] := ⟨u.dropLast, u.getLast (by intro e; rw [e] at hl; simp at hl), (List.dropLast_concat_getLast _).symm⟩
    have hv : v.length = k := by simpa using hl
    have ih := aut_back hd h k v hv (by omega) fun y hy => hu y (List.mem_append.2 (.inl hy))
    rw [Nat.pow_succ, Nat.mul_comm, itF_mul]
    exact aut_last hd (h.it _) v (fun y hy => hu y (List.mem_append.2 (.inl hy))) (by omega) ih x (hu x (by simp))
/-- What F makes of a level, in numbers. -/
def pmF (d : Nat) (F : List Nat → List Nat) (n : Nat) : List Nat := (List.range (pw d n)).map fun k => num d (F (wrd d n k))
theorem pmF_length (d : Nat) (F : List Nat → List Nat) (n : Nat) : (pmF d F n).length = pw d n := by simp [pmF]
theorem pmF_get {d : Nat} {F : List Nat → List Nat} {n k : Nat} (hk : k < pw d n) : (pmF d F n).getD k 0 = num d (F (wrd d n k)) := by
  simp [pmF, List.getD_eq_getElem?_getD, hk]
theorem pmF_it {d n : Nat} {F : List Nat → List Nat} (hd : 0 < d) (h : Aut d F n) {k : Nat} (hk : k < pw d n) : ∀ j, itp (pmF d F n) j k = num d (itF F j (wrd d n k))
  | 0 => (num_wrd d hd n k hk).symm
  | j + 1 => by
    have ih := pmF_it hd h hk j
    have hl : (itF F j (wrd d n k)).length = n := by rw [(h.it j).len _ (wrd_lt d hd n k) (by rw [wrd_length]; exact Nat.le_refl n), wrd_length]
    have hm := (h.it j).lt _ (wrd_lt d hd n k) (by rw [wrd_length]; exact Nat.le_refl n)
    show (pmF d F n).getD (itp (pmF d F n) j k) 0 = _
    rw [ih, pmF_get (num_lt d n _ hl hm), wrd_num d hd n _ hl hm]
    rfl
theorem pmF_pm {d n : Nat} {F : List Nat → List Nat} (hd : 0 < d) (h : Aut d F n) : IsPm (pmF d F n) where
  lt := fun k hk => by
    rw [pmF_length] at hk ⊢
    rw [pmF_get hk]
    exact num_lt d n _ (by rw [h.len _ (wrd_lt d hd n k) (by rw [wrd_length]; exact Nat.le_refl n), wrd_length]) (h.lt _ (wrd_lt d hd n k) (by rw [wrd_length]; exact Nat.le_refl n))
  inj := fun i j hi hj e => by
    rw [pmF_length] at hi hj
    rw [pmF_get hi, pmF_get hj] at e
    have hn := fun k => (show (F (wrd d n k)).length = n by rw [h.len _ (wrd_lt d hd n k) (by rw [wrd_length]; exact Nat.le_refl n), wrd_length])
    have hm := fun k => h.lt _ (wrd_lt d hd n k) (by rw [wrd_length]; exact Nat.le_refl n)
    have e2 : F (wrd d n i) = F (wrd d n j) := by rw [← wrd_num d hd n _ (hn i) (hm i), ← wrd_num d hd n _ (hn j) (hm j), e]
    have e3 := h.inj _ _ (wrd_lt d hd n i) (wrd_lt d hd n j) (by rw [wrd_length]; exact Nat.le_refl n) (by rw [wrd_length, wrd_length]) e2
    rw [← num_wrd d hd n i hi, ← num_wrd d hd n j hj, e3]
theorem pmF_back {d n : Nat} {F : List Nat → List Nat} (hd : d = 2 ∨ d = 3) (h : Aut d F n) {k : Nat} (hk : k < pw d n) : itp (pmF d F n) (bk d ^ n) k = k := by
  rw [pmF_it (by omega) h hk, aut_back hd h n _ (wrd_length d n k) (Nat.le_refl n) (wrd_lt d (by omega) n k), num_wrd d (by omega) n k hk]
end Go.Proofs.Ytgpjcekpmhfljaa

/- States are maps that respect beginnings. -/
namespace Go.Proofs.Ytgpjcekpmhfljaa
open Go.RowKit
set_option linter.unusedVariables false
set_option linter.unusedSimpArgs false

theorem img_inj {m : Mach} {l s : Nat} (gd : Good m l s) : ∀ (u v : List Nat) (q : Nat), q < s → (∀ x ∈ u, x < l) → (∀ x ∈ v, x < l) → u.length = v.length → img m q u = img m q v → u = v
  | [], [], _, _, _, _, _, _ => rfl
  | [], y :: v, _, _, _, _, hl, _ => by simp at hl
  | x :: u, [], _, _, _, _, hl, _ => by simp at hl
  | x :: u, y :: v, q, hq, hu, hv, hl, e => by
    have hx := hu x (by simp)
    have hy := hv y (by simp)
    have e1 : m.ot (q * 3 + x) :: img m (m.nx (q * 3 + x)) u = m.ot (q * 3 + y) :: img m (m.nx (q * 3 + y)) v := e
    injection e1 with e2 e3
    have exy : x = y := by
      apply Classical.byContradiction
      intro hn
      rcases Nat.lt_or_gt_of_ne hn with h | h
      · exact gd.inj q hq x y h hy e2
      · exact gd.inj q hq y x h hx e2.symm
    subst exy
    rw [img_inj gd u v _ (gd.nx q x hq hx) (fun z hz => hu z (by simp [hz])) (fun z hz => hv z (by simp [hz])) (by simpa using hl) e3]
theorem aut_img {m : Mach} {l s : Nat} (gd : Good m l s) {q : Nat} (hq : q < s) (n : Nat) : Aut l (img m q) n where
  len := fun u _ _ => img_length m u q
  lt := fun u hu _ => img_lt gd u q hq hu
  pre := fun u x _ _ _ => ⟨_, img_snoc m x u q⟩
  inj := fun u v hu hv _ hl e => img_inj gd u v q hq hu hv hl e
theorem perm_pmF (m : Mach) (l q n : Nat) : perm m l q n = pmF l (img m q) n := rfl
end Go.Proofs.Ytgpjcekpmhfljaa

/- Cycles: divisors, multiples, and what the program and the reference make of a permutation. -/
namespace Go.Proofs.Ytgpjcekpmhfljaa
open Go.RowKit
set_option linter.unusedVariables false
set_option linter.unusedSimpArgs false
-- @LONG

theorem gcd_step (x y : Nat) : Nat.gcd y (x % y) = Nat.gcd x y := by
  rw [Nat.gcd_comm y (x % y), ← Nat.gcd_rec y x, Nat.gcd_comm]
theorem lcm_step (a b : Nat) : a / Nat.gcd a b * b = Nat.lcm a b := by
  have h := Nat.gcd_mul_lcm a b
  rcases Nat.eq_zero_or_pos (Nat.gcd a b) with h0 | h0
  · have ha := Nat.eq_zero_of_gcd_eq_zero_left h0
    subst ha; simp
  · obtain ⟨c, hc⟩ := Nat.gcd_dvd_left a b
    have h1 : a / Nat.gcd a b = c := by
      conv => lhs; lhs; rw [hc]
      exact Nat.mul_div_cancel_left c h0
    rw [h1]
    have h2 : Nat.gcd a b * Nat.lcm a b = Nat.gcd a b * (c * b) := by
      rw [h, ← Nat.mul_assoc, ← hc]
    exact (Nat.eq_of_mul_eq_mul_left h0 h2).symm
set_option maxHeartbeats 1000000 in
theorem common_any (a b : Nat) (ha : a < 9223372036854775807) (hb : b < 9223372036854775807) (w : World) :
    Calls Try.prog 117 #[.int .i64 a, .int .i64 b] w fun e w' => e = .returned (.int .i64 (Nat.gcd a b : Nat)) ∧ ∃ m, w' = w.drewN m := by
  have hst := hid gcd_step
  have hz := hid (fun x => Nat.gcd_zero_right x)
  have hS := hid (show ∃ m, w = w.drewN m from ⟨0, rfl⟩)
  generalize hG : Nat.gcd a b = G at *
  replace hG := hid hG
  go_enter Try.func117, Try.ntmps117
  go_wp2
  go_loopw [0, 1] (fun x y wr => ∃ i j : Nat, x = .int .i64 i ∧ y = .int .i64 j ∧ i < 9223372036854775807 ∧ j < 9223372036854775807 ∧ Hid (Nat.gcd i j = G) ∧ Hid (∃ m, wr = w.drewN m)) (fun _ y _ => (intOf y).toNat)
  case atStart => exact ⟨a, b, rfl, rfl, ha, hb, hG, hS⟩
  case round =>
    obtain ⟨i, j, rfl, rfl, hi, hj, hg, rS⟩ := hrel
    clear hS hG
    by_cases h0 : j = 0
    · subst h0
      have e := hid (hg.out.symm.trans (hz.out i))
      have d0 : decide (((0 : Nat) : Int) > 0) = false := by decide
      go_wp2
      go_ret
      exact ⟨retI (by rw [e.out]), rS.out⟩
    · have d0 : ((j : Int) != 0) = true := by simp; omega
      have d1 : decide (0 < (j : Int)) = true := decide_eq_true (by omega)
      have dz : ¬ (j : Int) = 0 := by omega
      have m1 : Int.tmod (i : Int) (j : Int) = ((i % j : Nat) : Int) := by rw [Int.tmod_eq_emod_of_nonneg (by omega)]; omega
      have hml := Nat.mod_lt i (show 0 < j by omega)
      have hg2 := hid ((hst.out i j).trans hg.out)
      generalize hr : i % j = r at *
      have m2 : (i : Int) % (j : Int) = (r : Int) := by omega
      replace hr := hid hr
      go_upto_region 2 with (fail)
      go_quiet (fail)
      go_wp2
      go_roundw
      case rel => exact ⟨j, r, rfl, rfl, hj, by omega, hg2, hid (by obtain ⟨m, h⟩ := rS.out; exact ⟨m + nq, by rw [h, drewN_add]⟩)⟩
      case measure => simp [intOf]; omega
set_option maxHeartbeats 1000000 in
theorem l03Divisor_any (a b : Nat) (ha : a < 9223372036854775807) (hb : b < 9223372036854775807) (w : World) :
    Calls Try.prog 50 #[.int .i64 a, .int .i64 b] w fun e w' => e = .returned (.int .i64 (Nat.gcd a b : Nat)) ∧ ∃ m, w' = w.drewN m := by
  have hst := hid gcd_step
  have hz := hid (fun x => Nat.gcd_zero_right x)
  have hS := hid (show ∃ m, w = w.drewN m from ⟨0, rfl⟩)
  generalize hG : Nat.gcd a b = G at *
  replace hG := hid hG
  go_enter Try.func50, Try.ntmps50
  go_wp2
  go_loopw [0, 1] (fun x y wr => ∃ i j : Nat, x = .int .i64 i ∧ y = .int .i64 j ∧ i < 9223372036854775807 ∧ j < 9223372036854775807 ∧ Hid (Nat.gcd i j = G) ∧ Hid (∃ m, wr = w.drewN m)) (fun _ y _ => (intOf y).toNat)
  case atStart => exact ⟨a, b, rfl, rfl, ha, hb, hG, hS⟩
  case round =>
    obtain ⟨i, j, rfl, rfl, hi, hj, hg, rS⟩ := hrel
    clear hS hG
    by_cases h0 : j = 0
    · subst h0
      have e := hid (hg.out.symm.trans (hz.out i))
      have d0 : decide (((0 : Nat) : Int) > 0) = false := by decide
      go_wp2
      go_ret
      exact ⟨retI (by rw [e.out]), rS.out⟩
    · have d0 : ((j : Int) != 0) = true := by simp; omega
      have d1 : decide (0 < (j : Int)) = true := decide_eq_true (by omega)
      have dz : ¬ (j : Int) = 0 := by omega
      have m1 : Int.tmod (i : Int) (j : Int) = ((i % j : Nat) : Int) := by rw [Int.tmod_eq_emod_of_nonneg (by omega)]; omega
      have hml := Nat.mod_lt i (show 0 < j by omega)
      have hg2 := hid ((hst.out i j).trans hg.out)
      generalize hr : i % j = r at *
      have m2 : (i : Int) % (j : Int) = (r : Int) := by omega
      replace hr := hid hr
      go_wp2
      go_roundw
      case rel => exact ⟨j, r, rfl, rfl, hj, by omega, hg2, rS⟩
      case measure => simp [intOf]; omega
set_option maxHeartbeats 1000000 in
theorem l06Divisor_any (a b : Nat) (ha : a < 9223372036854775807) (hb : b < 9223372036854775807) (w : World) :
    Calls Try.prog 65 #[.int .i64 a, .int .i64 b] w fun e w' => e = .returned (.int .i64 (Nat.gcd a b : Nat)) ∧ ∃ m, w' = w.drewN m := by
  have hst := hid gcd_step
  have hz := hid (fun x => Nat.gcd_zero_right x)
  have hS := hid (show ∃ m, w = w.drewN m from ⟨0, rfl⟩)
  generalize hG : Nat.gcd a b = G at *
  replace hG := hid hG
  go_enter Try.func65, Try.ntmps65
  go_wp2
  go_loopw [0, 1] (fun x y wr => ∃ i j : Nat, x = .int .i64 i ∧ y = .int .i64 j ∧ i < 9223372036854775807 ∧ j < 9223372036854775807 ∧ Hid (Nat.gcd i j = G) ∧ Hid (∃ m, wr = w.drewN m)) (fun _ y _ => (intOf y).toNat)
  case atStart => exact ⟨a, b, rfl, rfl, ha, hb, hG, hS⟩
  case round =>
    obtain ⟨i, j, rfl, rfl, hi, hj, hg, rS⟩ := hrel
    clear hS hG
    by_cases h0 : j = 0
    · subst h0
      have e := hid (hg.out.symm.trans (hz.out i))
      have d0 : decide (((0 : Nat) : Int) > 0) = false := by decide
      go_wp2
      go_ret
      exact ⟨retI (by rw [e.out]), rS.out⟩
    · have d0 : ((j : Int) != 0) = true := by simp; omega
      have d1 : decide (0 < (j : Int)) = true := decide_eq_true (by omega)
      have dz : ¬ (j : Int) = 0 := by omega
      have m1 : Int.tmod (i : Int) (j : Int) = ((i % j : Nat) : Int) := by rw [Int.tmod_eq_emod_of_nonneg (by omega)]; omega
      have hml := Nat.mod_lt i (show 0 < j by omega)
      have hg2 := hid ((hst.out i j).trans hg.out)
      generalize hr : i % j = r at *
      have m2 : (i : Int) % (j : Int) = (r : Int) := by omega
      replace hr := hid hr
      go_wp2
      go_roundw
      case rel => exact ⟨j, r, rfl, rfl, hj, by omega, hg2, rS⟩
      case measure => simp [intOf]; omega
set_option maxHeartbeats 1000000 in
theorem multiple_any (a b : Nat) (ha : 0 < a) (hb : 0 < b) (hl : Nat.lcm a b < 1000000000) (w : World) :
    Calls Try.prog 88 #[.int .i64 a, .int .i64 b] w fun e w' => e = .returned (.int .i64 (Nat.lcm a b : Nat)) ∧ Below w.heap.size w w' := by
  have h1 := Nat.le_of_dvd (by have := Nat.lcm_pos ha hb; exact this) (Nat.dvd_lcm_left a b)
  have h2 := Nat.le_of_dvd (by have := Nat.lcm_pos ha hb; exact this) (Nat.dvd_lcm_right a b)
  have hc := hid (fun W => common_any a b (by omega) (by omega) W)
  have hg := Nat.gcd_pos_of_pos_left b ha
  have hs := hid (lcm_step a b)
  have hq := Nat.div_le_self a (Nat.gcd a b)
  generalize hG : Nat.gcd a b = G at *
  generalize hL : Nat.lcm a b = L at *
  have dz : ¬ (G : Int) = 0 := by omega
  have m1 : Int.tdiv (a : Int) (G : Int) = ((a / G : Nat) : Int) := by rw [Int.tdiv_eq_ediv_of_nonneg (by omega)]; omega
  have m2 : (a : Int) / (G : Int) = ((a / G : Nat) : Int) := by omega
  generalize a / G = q at *
  have e3 : (q : Int) * (b : Int) = (L : Int) := by rw [← hs.out]; simp
  have ew : IntKind.i64.wrap (q : Int) = q := IntWalk.i64_in _ (by omega)
  have ew2 : IntKind.i64.wrap (L : Int) = L := IntWalk.i64_in _ (by omega)
  have ew3 : wrap64 (L : Int) = L := w64 (by omega) (by omega)
  clear hG hL
  go_enter Try.func88, Try.ntmps88
  go_wp2_with (first
    | (go_at_call 117; (with_reducible refine (hc.out _).mono ?_); rintro e w1 ⟨rfl, d, rfl⟩; have hB := hid (below_drewN (Below.refl w.heap.size w) d)))
  go_ret
  exact ⟨rfl, hB.out⟩
set_option maxHeartbeats 4000000 in
set_option maxRecDepth 100000 in
theorem l03Cycles_any (w : World) (b0 : Nat) (v : Value) (p : List Nat) (h : Own w b0 2 v (nats p)) (hn : p.length ≤ 1000) (hlt : ∀ x, x < p.length → p.getD x 0 < p.length) :
    Calls Try.prog 48 #[v] w fun e w' => ∃ v', e = .returned v' ∧ Own w' w.heap.size 2 v' (nats (cyc p)) ∧ Below w.heap.size w w' := by
  have hil := nats_length p
  obtain ⟨A, cp, rfl, _, hA⟩ := h.form
  rw [hil] at h ⊢
  have hpg := hid (fun (x : Nat) (hx : x < p.length) => (show (nats p)[x]? = some (.int .i64 ((p.getD x 0 : Nat) : Int)) from by simp [nats, List.getD_eq_getElem?_getD, List.getElem?_eq_getElem hx]))
  have hplt := hid (fun (x : Nat) (hx : x < p.length) => hlt x hx)
  have hA2 := hid (fun (hx : 0 < p.length) => (show ∃ gp, A = some ⟨gp, 0, none⟩ from by
    rcases hA with ⟨_, h1, _⟩ | ⟨g, h1, _⟩
    · have : p.length = 0 := by rw [← hil, h1]; rfl
      omega
    · exact ⟨g, h1⟩))
  have hmk := fun W : World => run_make_row' (P := Try.prog) 83 4 (.bool false) 1 Try.underlying83 info_bool rfl .i64 .i64 p.length (by omega) (by omega) W
  have hmc := hid (toList_madeCells_one (.bool false) p.length)
  generalize madeCells #[.bool false] p.length = mc at *
  have hmcs := hid (show mc.size = p.length by rw [← Array.length_toList, hmc.out, List.length_replicate])
  have hS := (St.arg w h).newArr mc p.length hmcs.out 4 (by omega)
  rw [hmc.out] at hS
  have hrep : List.replicate p.length (Value.bool false) = bls (cyst p 0).1 := by simp [bls, cyst]
  rw [hrep] at hS
  replace hS := hid hS
  have hcl := hid (cyst_len p)
  have hco := hid (cyst_out p)
  have hcs := hid (fun k => (show cyst p (k + 1) = ((crun p (cyst p k).1 k).1, if 0 < (crun p (cyst p k).1 k).2 then (cyst p k).2 ++ [(crun p (cyst p k).1 k).2] else (cyst p k).2) from rfl))
  have hcb := hid (fun k => (show (crun p (cyst p k).1 k).2 ≤ p.length from by have h := crun_le p (cyst p k).1 k; rw [cyst_len] at h; exact h))
  have hseen := hid (fun s a (h : s[a]? = some true) => crun_seen (p := p) h)
  have hnew := hid (fun s a (h : s[a]? = some false) => crun_new (p := p) h)
  have hresult := hid (show (cyst p p.length).2 = cyc p from rfl)
  clear hA hil hlt hrep hmc h
  generalize hN : p.length = N at *
  replace hN := hid hN
  have hS2 := hS.out.newOwn [] 2 (by simp)
  simp only [List.length_nil, heap_alloc_size] at hS2
  replace hS := hid hS2.f1
  clear hS2
  have hs0 := hid (show nats (cyst p 0).2 = [] from rfl)
  go_enter Try.func48, Try.ntmps48
  go_wp2
  go_loopw [4, 5] (fun o i wr => ∃ (k : Nat) (vo : Value), k ≤ N ∧ i = .int .i64 k ∧ vo = o ∧ St w.heap.size w [Asn.own w.heap.size 4 (.slice (some ⟨w.heap.size, 0, none⟩) N N) (bls (cyst p k).1), Asn.own w.heap.size 2 vo (nats (cyst p k).2), Asn.own 0 2 (.slice A N cp) (nats p)] wr) (fun _ i _ => N - (intOf i).toNat)
  case atStart => exact ⟨0, _, Nat.zero_le _, rfl, rfl, by rw [hs0.out]; exact hS.out⟩
  case round =>
    obtain ⟨k, vo, hk, rfl, rfl, rS⟩ := hrel
    clear hS
    replace rS := hid rS
    by_cases hlk : k < N
    · have dk : decide ((k : Int) < (N : Int)) = true := decide_eq_true (by omega)
      obtain ⟨gp, rfl⟩ := hA2.out (by omega)
      go_wp2
      go_loopw [6, 7] (fun c a wr => ∃ (x C : Nat) (s : List Bool), c = .int .i64 C ∧ a = .int .i64 x ∧ x < N ∧ s.length = N ∧ Hid ((crun p s x).1 = (crun p (cyst p k).1 k).1 ∧ C + (crun p s x).2 = (crun p (cyst p k).1 k).2) ∧ St w.heap.size w [Asn.own w.heap.size 4 (.slice (some ⟨w.heap.size, 0, none⟩) N N) (bls s), Asn.own w.heap.size 2 vo (nats (cyst p k).2), Asn.own 0 2 (.slice (some ⟨gp, 0, none⟩) N cp) (nats p)] wr) (fun c _ _ => (crun p (cyst p k).1 k).2 - (intOf c).toNat)
      case atStart => exact ⟨k, 0, (cyst p k).1, rfl, rfl, hlk, hcl.out k, hid ⟨rfl, Nat.zero_add _⟩, rS.out⟩
      case round =>
        obtain ⟨x, C, s, rfl, rfl, hx, hsl, hr, rS⟩ := hrel
        have x0 : (0 : Int) ≤ (x : Int) := Int.natCast_nonneg _
        have x1 : (x : Int) < (N : Int) := by omega
        have hblen := hid (show (bls s).length = N by rw [bls_length]; exact hsl)
        by_cases hb : s[x]? = some true
        · have cs := rS.o0.cellAt x _ (bls_get hb)
          have hr2 := hr.out
          rw [hseen.out s x hb] at hr2
          obtain ⟨e1, e2⟩ := hr2
          dsimp only at e1 e2
          rw [Nat.add_zero] at e2
          replace e1 := hid e1; replace e2 := hid e2
          clear hb hr
          rw [e1.out] at rS
          replace rS := hid rS
          by_cases hz : 0 < (crun p (cyst p k).1 k).2
          · have hk1 := hid (hcs.out k)
            rw [if_pos hz] at hk1
            have hcb2 := hcb.out k
            have hol := hid (hco.out k)
            have hol2 := hid (nats_length (cyst p k).2)
            have hol3 := hol.out
            generalize hcr : crun p (cyst p k).1 k = R at *
            replace hcr := hid hcr
            have dz : decide (0 < (C : Int)) = true := decide_eq_true (by have := e2.out; omega)
            have dn : decide (0 < C) = true := decide_eq_true (by have := e2.out; omega)
            generalize hq : (cyst p k) = Q at *
            replace hq := hid hq
            go_wp2_with (first
              | ((with_reducible refine gate (N := 38) rfl ?_); refine St.app 34 2 (.int .i64 0) 8 Try.underlying34 info_i64 rfl (by omega) rfl _ _ rfl _ _ rfl rS.out.f1 _ rfl rfl Q.2.length hol2.out (by omega) ?_; intro gn cn w5 rS'; replace rS := hid rS'.f1; clear rS'))
            go_roundw
            case rel => exact ⟨k + 1, _, by omega, by go_num, rfl, by rw [hk1.out]; dsimp only; rw [nats_snoc, ← e2.out]; exact rS.out⟩
            case measure => simp [intOf]; omega
          · have hk1 := hid (hcs.out k)
            rw [if_neg hz] at hk1
            generalize hcr : crun p (cyst p k).1 k = R at *
            replace hcr := hid hcr
            have dz : decide (0 < (C : Int)) = false := decide_eq_false (by have := e2.out; omega)
            have dn : decide (0 < C) = false := decide_eq_false (by have := e2.out; omega)
            generalize hq : (cyst p k) = Q at *
            replace hq := hid hq
            go_wp2
            go_roundw
            case rel => exact ⟨k + 1, _, by omega, by go_num, rfl, by rw [hk1.out]; exact rS.out⟩
            case measure => simp [intOf]; omega
        · have hb2 := get_bool (by omega) hb
          have cs := rS.o0.cellAt x _ (bls_get hb2)
          have fs := Own.frozenAt rS.o0 hblen.out x
          have hr2 := hr.out
          rw [hnew.out s x hb2] at hr2
          have hbnd := hcb.out k
          have hpx := hplt.out x hx
          have hcp := hid (hpg.out x hx)
          have hset := hid (bls_set s x true)
          have hsl2 := hid (show (s.set x true).length = N by rw [List.length_set]; exact hsl)
          generalize hS1 : (crun p (cyst p k).1 k).1 = S1 at *
          generalize hC1 : (crun p (cyst p k).1 k).2 = C1 at *
          replace hS1 := hid hS1; replace hC1 := hid hC1
          generalize p.getD x 0 = px at *
          generalize s.set x true = s2 at *
          obtain ⟨e1, e2⟩ := hr2
          dsimp only at e1 e2
          generalize hcr : crun p s2 px = R at *
          replace hcr := hid hcr; replace e1 := hid e1
          clear hb hb2 hr
          replace rS := hid rS
          have mk : True := trivial
          go_wp2_with (first
            | ((with_reducible refine gate (N := 27) rfl ?_); clear mk; replace rS := hid (rS.out.setOwn hblen.out x (.bool true) hx); rw [hset.out] at rS; (have ck := rS.out.o2.cellAt x _ hcp.out); generalize wr.setCell _ _ = wx at *))
          go_roundw
          case rel => exact ⟨px, C + 1, s2, by go_num, rfl, hpx, hsl2.out, hid ⟨by rw [hcr.out]; exact e1.out, by rw [hcr.out]; omega⟩, rS.out⟩
          case measure => simp [intOf]; omega
    · obtain rfl : k = N := by omega
      have dk : decide ((k : Int) < (k : Int)) = false := decide_eq_false (by omega)
      go_wp2
      go_ret
      exact ⟨_, rfl, by rw [← hresult.out]; exact rS.out.o1, rS.out.bel⟩
end Go.Proofs.Ytgpjcekpmhfljaa

/- slices.Sort over []int64. -/
namespace Go.Proofs.Ytgpjcekpmhfljaa
open Go.RowKit
set_option linter.unusedVariables false
set_option linter.unusedSimpArgs false

def srt (l : List Int) : List Int := l.mergeSort fun x y => decide (x ≤ y)
theorem srt_perm (l : List Int) : (srt l).Perm l := List.mergeSort_perm _ _
theorem srt_length (l : List Int) : (srt l).length = l.length := (srt_perm l).length_eq
theorem srt_sorted (l : List Int) : (srt l).Pairwise (· ≤ ·) := by
  have h := List.pairwise_mergeSort (le := fun x y : Int => decide (x ≤ y)) (fun a b c h1 h2 => by simp at *; omega) (fun a b => by simp; omega) l
  exact h.imp fun h => by simpa using h
theorem srt_eq {l l' : List Int} (hp : l'.Perm l) (hs : l'.Pairwise (· ≤ ·)) : l' = srt l :=
  List.Perm.eq_of_pairwise (le := (· ≤ ·)) (fun a b _ _ h1 h2 => Int.le_antisymm h1 h2) hs (srt_sorted l) (hp.trans (srt_perm l).symm)
/-- Where a number goes in. -/
def insA (x : Int) : List Int → Nat
  | [] => 0
  | y :: l => if y ≤ x then insA x l + 1 else 0
theorem insA_le (x : Int) : ∀ l, insA x l ≤ l.length
  | [] => Nat.le_refl _
  | y :: l => by
    have := insA_le x l
    unfold insA; split <;> simp <;> omega
theorem insA_lt {x : Int} : ∀ {l : List Int} {j : Nat}, j < insA x l → ∃ y, l[j]? = some y ∧ y ≤ x
  | [], j, h => absurd h (Nat.not_lt_zero _)
  | y :: l, j, h => by
    unfold insA at h
    split at h
    · rename_i hy
      cases j with
      | zero => exact ⟨y, rfl, hy⟩
      | succ j => exact insA_lt (l := l) (j := j) (by omega)
    · exact absurd h (Nat.not_lt_zero _)
theorem insA_at {x : Int} : ∀ {l : List Int}, insA x l < l.length → ∃ y, l[insA x l]? = some y ∧ ¬ y ≤ x
  | [], h => absurd h (Nat.not_lt_zero _)
  | y :: l, h => by
    by_cases hy : y ≤ x
    · have e : insA x (y :: l) = insA x l + 1 := by rw [insA, if_pos hy]
      rw [e] at h ⊢
      exact insA_at (l := l) (by simpa using h)
    · have e : insA x (y :: l) = 0 := by rw [insA, if_neg hy]
      rw [e]
      exact ⟨y, rfl, hy⟩
def insX (x : Int) (l : List Int) : List Int := l.take (insA x l) ++ x :: l.drop (insA x l)
theorem insX_perm (x : Int) (l : List Int) : (insX x l).Perm (x :: l) := by
  have h : (l.take (insA x l) ++ x :: l.drop (insA x l)).Perm (x :: (l.take (insA x l) ++ l.drop (insA x l))) := List.perm_middle
  rw [List.take_append_drop] at h
  exact h
theorem insX_sorted {x : Int} {l : List Int} (h : l.Pairwise (· ≤ ·)) : (insX x l).Pairwise (· ≤ ·) := by
  have hl := h
  rw [← List.take_append_drop (insA x l) l, List.pairwise_append] at hl
  obtain ⟨h1, h2, h3⟩ := hl
  have ht : ∀ y ∈ l.take (insA x l), y ≤ x := fun y hy => by
    obtain ⟨j, hj, rfl⟩ := List.getElem_of_mem hy
    have hj' : j < insA x l := by rw [List.length_take] at hj; omega
    obtain ⟨z, hz, hzx⟩ := insA_lt hj'
    rw [List.getElem_take]
    have := List.getElem?_eq_some_iff.1 hz
    obtain ⟨_, e⟩ := this
    rw [e]; exact hzx
  have hd : ∀ y ∈ l.drop (insA x l), x ≤ y := fun y hy => by
    by_cases hlt : insA x l < l.length
    · obtain ⟨z, hz, hzx⟩ := insA_at hlt
      have e : l.drop (insA x l) = z :: l.drop (insA x l + 1) := by
        obtain ⟨_, e⟩ := List.getElem?_eq_some_iff.1 hz
        rw [← e]; exact List.drop_eq_getElem_cons hlt
      rw [e] at hy h2
      rcases List.mem_cons.1 hy with rfl | hy
      · omega
      · have := (List.pairwise_cons.1 h2).1 y hy; omega
    · rw [List.drop_eq_nil_of_le (by omega)] at hy; cases hy
  unfold insX
  rw [List.pairwise_append]
  refine ⟨h1, List.pairwise_cons.2 ⟨hd, h2⟩, fun a ha b hb => ?_⟩
  rcases List.mem_cons.1 hb with rfl | hb
  · exact ht a ha
  · exact h3 a ha b hb
theorem insX_length (x : Int) (l : List Int) : (insX x l).length = l.length + 1 := by rw [(insX_perm x l).length_eq]; rfl
/-- The first k numbers of a list, put in one after the other. -/
def insL (l : List Int) : Nat → List Int
  | 0 => []
  | k + 1 => match l[k]? with
    | some x => insX x (insL l k)
    | none => insL l k
theorem insL_step {l : List Int} {k : Nat} {x : Int} (h : l[k]? = some x) : insL l (k + 1) = insX x (insL l k) := by rw [insL, h]
theorem insL_ok (l : List Int) : ∀ k, k ≤ l.length → (insL l k).Perm (l.take k) ∧ (insL l k).Pairwise (· ≤ ·)
  | 0, _ => ⟨by simp [insL], List.Pairwise.nil⟩
  | k + 1, hk => by
    obtain ⟨h1, h2⟩ := insL_ok l k (by omega)
    have hx : l[k]? = some l[k] := List.getElem?_eq_getElem (by omega)
    rw [insL_step hx]
    refine ⟨(insX_perm _ _).trans ?_, insX_sorted h2⟩
    rw [List.take_add_one, hx]
    exact ((h1.cons _).trans (List.perm_append_singleton _ _).symm)
theorem insL_len (l : List Int) (k : Nat) (hk : k ≤ l.length) : (insL l k).length = k := by rw [(insL_ok l k hk).1.length_eq, List.length_take]; omega
theorem insL_srt (l : List Int) : insL l l.length = srt l := by
  obtain ⟨h1, h2⟩ := insL_ok l l.length (Nat.le_refl _)
  rw [List.take_length] at h1
  exact srt_eq h1 h2
section
open Go.Shelf
def srtL_ren : Go.Shelf.Ren := ⟨fun | 5 => 95 | 8 => 126 | 7 => 125 | 19 => 151 | 20 => 152 | 10 => 142 | 11 => 143 | 12 => 144 | 13 => 145 | 14 => 146 | 15 => 147 | 16 => 148 | 17 => 149 | 18 => 150 | 30 => 162 | 31 => 163 | 32 => 164 | 33 => 165 | 34 => 166 | 35 => 167 | 40 => 174 | n => n, fun | 23 => 34 | 25 => 2 | 3 => 3 | 32 => 119 | 22 => 34 | 0 => 0 | 44 => 143 | 46 => 146 | 4 => 4 | 36 => 153 | 35 => 152 | 41 => 157 | 5 => 5 | 9 => 9 | 53 => 171 | 57 => 175 | 63 => 181 | 64 => 182 | n => n, fun | n => n⟩
theorem srtL : Go.Proofs.SlLaysM.n5 Try.prog srtL_ren := {
  mixed := by kernel_rfl
  f5 := ⟨Try.f95.name, by decide, Try.func95.trans (congrArg some (by kernel_rfl))⟩
  f7 := ⟨Try.f125.name, by decide, Try.func125.trans (congrArg some (by kernel_rfl))⟩
  f8 := Try.func126.trans (congrArg some (by kernel_rfl))
  f10 := ⟨Try.f142.name, by decide, Try.func142.trans (congrArg some (by kernel_rfl))⟩
  f11 := ⟨Try.f143.name, by decide, Try.func143.trans (congrArg some (by kernel_rfl))⟩
  f12 := ⟨Try.f144.name, by decide, Try.func144.trans (congrArg some (by kernel_rfl))⟩
  f13 := ⟨Try.f145.name, by decide, Try.func145.trans (congrArg some (by kernel_rfl))⟩
  f14 := ⟨Try.f146.name, by decide, Try.func146.trans (congrArg some (by kernel_rfl))⟩
  f15 := ⟨Try.f147.name, by decide, Try.func147.trans (congrArg some (by kernel_rfl))⟩
  f16 := ⟨Try.f148.name, by decide, Try.func148.trans (congrArg some (by kernel_rfl))⟩
  f17 := ⟨Try.f149.name, by decide, Try.func149.trans (congrArg some (by kernel_rfl))⟩
  f18 := ⟨Try.f150.name, by decide, Try.func150.trans (congrArg some (by kernel_rfl))⟩
  f19 := Try.func151.trans (congrArg some (by kernel_rfl))
  f20 := Try.func152.trans (congrArg some (by kernel_rfl))
  f30 := ⟨Try.f162.name, by decide, Try.func162.trans (congrArg some (by kernel_rfl))⟩
  f31 := Try.func163.trans (congrArg some (by kernel_rfl))
  f32 := Try.func164.trans (congrArg some (by kernel_rfl))
  f33 := ⟨Try.f165.name, by decide, Try.func165.trans (congrArg some (by kernel_rfl))⟩
  f34 := ⟨Try.f166.name, by decide, Try.func166.trans (congrArg some (by kernel_rfl))⟩
  f35 := ⟨Try.f167.name, by decide, Try.func167.trans (congrArg some (by kernel_rfl))⟩
  f40 := ⟨Try.f174.name, by decide, Try.func174.trans (congrArg some (by kernel_rfl))⟩
  t0 := Try.underlying0
  a0 := Try.isAgg0
  z0 := Try.sizeOf0
  v0 := Try.zeroValue0
  t3 := Try.underlying3
  a3 := Try.isAgg3
  z3 := Try.sizeOf3
  v3 := Try.zeroValue3
  t4 := Try.underlying4
  a4 := Try.isAgg4
  z4 := Try.sizeOf4
  v4 := Try.zeroValue4
  t5 := Try.underlying5
  a5 := Try.isAgg5
  z5 := Try.sizeOf5
  v5 := Try.zeroValue5
  t9 := Try.underlying9
  a9 := Try.isAgg9
  z9 := Try.sizeOf9
  v9 := Try.zeroValue9
  t22 := Try.underlying34
  a22 := Try.isAgg34
  z22 := Try.sizeOf34
  v22 := Try.zeroValue34
  t23 := Try.underlying34
  a23 := Try.isAgg34
  z23 := Try.sizeOf34
  v23 := Try.zeroValue34
  t25 := Try.underlying2
  a25 := Try.isAgg2
  z25 := Try.sizeOf2
  v25 := Try.zeroValue2
  t32 := Try.underlying119
  a32 := Try.isAgg119
  z32 := Try.sizeOf119
  v32 := Try.zeroValue119
  t35 := Try.underlying152
  a35 := Try.isAgg152
  z35 := Try.sizeOf152
  v35 := Try.zeroValue152
  t36 := Try.underlying153
  a36 := Try.isAgg153
  z36 := Try.sizeOf153
  v36 := Try.zeroValue153
  t41 := Try.underlying157
  a41 := Try.isAgg157
  z41 := Try.sizeOf157
  v41 := Try.zeroValue157
  t44 := Try.underlying143
  a44 := Try.isAgg143
  z44 := Try.sizeOf143
  v44 := Try.zeroValue143
  t46 := Try.underlying146
  a46 := Try.isAgg146
  z46 := Try.sizeOf146
  v46 := Try.zeroValue146
  t53 := Try.underlying171
  a53 := Try.isAgg171
  z53 := Try.sizeOf171
  v53 := Try.zeroValue171
  t57 := Try.underlying175
  a57 := Try.isAgg175
  z57 := Try.sizeOf175
  v57 := Try.zeroValue175
  t63 := Try.underlying181
  a63 := Try.isAgg181
  z63 := Try.sizeOf181
  v63 := Try.zeroValue181
  t64 := Try.underlying182
  a64 := Try.isAgg182
  z64 := Try.sizeOf182
  v64 := Try.zeroValue182 }
end
theorem slSort_st {base : Nat} {w0 : World} {L : List Asn} {W : World} {v : Value} {l : List Int} (h : St base w0 (Asn.own base 2 v (ints l) :: L) W) (hl : l.length < 1000000) :
    Calls Try.prog 95 #[v] W fun e w' => e = .returned (.tuple #[]) ∧ St base w0 (Asn.own base 2 v (ints (srt l)) :: L) w' := by
  have hO : W.ownsRow base 2 1 v (ints l).length (ints l) := h.o0
  have hil := ints_length l
  rcases hO.2 with ⟨rfl, hn⟩ | ⟨g, cap, cur, rfl, hg, hb, h1, h2, h3, h4⟩
  · have e : l = [] := by cases l with
      | nil => rfl
      | cons a t => simp [ints] at hn
    subst e
    have hc := AnyM.slices_Sort_int_none srtL none 0 W
    change Calls Try.prog 95 _ _ _ at hc
    refine hc.mono ?_
    rintro e w' ⟨rfl, rfl⟩
    exact ⟨rfl, by rw [show srt [] = [] by simp [srt]]; exact h⟩
  · rw [hil] at h1 h4 h ⊢
    rw [Nat.mul_one] at h4
    have hc := AnyM.slices_Sort_int srtL g 0 cap l W (holds_of_blockI hb h4) (Array.getElem?_eq_some_iff.1 hb).1 (by omega)
    change Calls Try.prog 95 _ _ _ at hc
    refine hc.mono ?_
    rintro e w' ⟨rfl, n, os, rfl⟩
    have hs := ownsRow_sortedI (n := n) (os := os) (ts := srt l) (srt_length l) hg hb h1 h2 h3
    have hgr := grownBy_sortedI (w := W) (g := g) (n := n) (os := os) (srt l).toArray
    refine ⟨rfl, h.turn (a' := Asn.own base 2 (.slice (some ⟨g, 0, none⟩) l.length cap) (ints (srt l))) ?_ (fun k hk => .inl ?_) (fun k hk => ?_) ?_ (fun k hk hne => ?_)⟩
    · show Own _ _ _ _ _
      unfold Own
      rw [ints_length, srt_length]
      exact hs
    · have e : g = k := by simpa [Asn.own, Value.ownBlock] using hk
      show Value.ownBlock _ = some k
      rw [← e]; rfl
    · have e : g = k := by
        have := hk
        simpa [Asn.own, Value.ownBlock] using this
      omega
    · exact ⟨hgr.os, hgr.tape, hgr.output, hgr.size, fun k hk => hgr.block k (by have := (Array.getElem?_eq_some_iff.1 hb).1; omega) (fun e => by injection e with e; omega)⟩
    · exact hgr.block k hk fun e => hne (by injection e with e; subst e; rfl)
end Go.Proofs.Ytgpjcekpmhfljaa

/- Cycles and orders of permutations: the program. -/
namespace Go.Proofs.Ytgpjcekpmhfljaa
open Go.RowKit
set_option linter.unusedVariables false
set_option linter.unusedSimpArgs false
-- @LONG

/-- The cycles' lengths, ascending. -/
def cysI (p : List Nat) : List Int := srt ((cyc p).map Int.ofNat)
set_option maxHeartbeats 4000000 in
set_option maxRecDepth 100000 in
theorem cycles_any (w : World) (b0 : Nat) (v : Value) (p : List Nat) (h : Own w b0 2 v (nats p)) (hn : p.length ≤ 1000) (hlt : ∀ x, x < p.length → p.getD x 0 < p.length) :
    Calls Try.prog 59 #[v] w fun e w' => ∃ v', e = .returned v' ∧ Own w' w.heap.size 2 v' (ints (cysI p)) ∧ Below w.heap.size w w' := by
  have hil := nats_length p
  obtain ⟨A, cp, rfl, _, hA⟩ := h.form
  rw [hil] at h ⊢
  have hpg := hid (fun (x : Nat) (hx : x < p.length) => (show (nats p)[x]? = some (.int .i64 ((p.getD x 0 : Nat) : Int)) from by simp [nats, List.getD_eq_getElem?_getD, List.getElem?_eq_getElem hx]))
  have hplt := hid (fun (x : Nat) (hx : x < p.length) => hlt x hx)
  have hA2 := hid (fun (hx : 0 < p.length) => (show ∃ gp, A = some ⟨gp, 0, none⟩ from by
    rcases hA with ⟨_, h1, _⟩ | ⟨g, h1, _⟩
    · have : p.length = 0 := by rw [← hil, h1]; rfl
      omega
    · exact ⟨g, h1⟩))
  have hmk := fun W : World => run_make_row' (P := Try.prog) 83 4 (.bool false) 1 Try.underlying83 info_bool rfl .i64 .i64 p.length (by omega) (by omega) W
  have hmc := hid (toList_madeCells_one (.bool false) p.length)
  generalize madeCells #[.bool false] p.length = mc at *
  have hmcs := hid (show mc.size = p.length by rw [← Array.length_toList, hmc.out, List.length_replicate])
  have hS := (St.arg w h).newArr mc p.length hmcs.out 4 (by omega)
  rw [hmc.out] at hS
  have hrep : List.replicate p.length (Value.bool false) = bls (cyst p 0).1 := by simp [bls, cyst]
  rw [hrep] at hS
  replace hS := hid hS
  have hcl := hid (cyst_len p)
  have hco := hid (cyst_out p)
  have hcs := hid (fun k => (show cyst p (k + 1) = ((crun p (cyst p k).1 k).1, if 0 < (crun p (cyst p k).1 k).2 then (cyst p k).2 ++ [(crun p (cyst p k).1 k).2] else (cyst p k).2) from rfl))
  have hcb := hid (fun k => (show (crun p (cyst p k).1 k).2 ≤ p.length from by have h := crun_le p (cyst p k).1 k; rw [cyst_len] at h; exact h))
  have hseen := hid (fun s a (h : s[a]? = some true) => crun_seen (p := p) h)
  have hnew := hid (fun s a (h : s[a]? = some false) => crun_new (p := p) h)
  have hresult := hid (show (cyst p p.length).2 = cyc p from rfl)
  clear hA hil hlt hrep hmc h
  generalize hN : p.length = N at *
  replace hN := hid hN
  have hS2 := hS.out.nilOwn 2
  replace hS := hid hS2.f1
  clear hS2
  have hs0 := hid (show nats (cyst p 0).2 = [] from rfl)
  have hni := hid (nats_ints (cyc p))
  have hcyl := hid (show (cyc p).length ≤ N from by rw [← hresult.out]; exact hco.out N)
  have hsrt := hid (fun W (vo : Value) (L : List Asn) (hS : St w.heap.size w (Asn.own w.heap.size 2 vo (ints ((cyc p).map Int.ofNat)) :: L) W) => slSort_st hS (by rw [List.length_map]; have := hcyl.out; omega))
  have hci := hid (show srt ((cyc p).map Int.ofNat) = cysI p from rfl)
  go_enter Try.func59, Try.ntmps59
  go_wp2
  go_loopw [4, 13] (fun o i wr => ∃ (k : Nat) (vo : Value), k ≤ N ∧ i = .int .i64 k ∧ vo = o ∧ St w.heap.size w [Asn.own w.heap.size 4 (.slice (some ⟨w.heap.size, 0, none⟩) N N) (bls (cyst p k).1), Asn.own w.heap.size 2 vo (nats (cyst p k).2), Asn.own 0 2 (.slice A N cp) (nats p)] wr) (fun _ i _ => N - (intOf i).toNat)
  case atStart => exact ⟨0, _, Nat.zero_le _, rfl, rfl, by rw [hs0.out]; exact hS.out⟩
  case round =>
    obtain ⟨k, vo, hk, rfl, rfl, rS⟩ := hrel
    clear hS
    replace rS := hid rS
    by_cases hlk : k < N
    · have dk : decide ((k : Int) < (N : Int)) = true := decide_eq_true (by omega)
      obtain ⟨gp, rfl⟩ := hA2.out (by omega)
      clear hsrt
      go_wp2
      go_loopw [6, 7] (fun c a wr => ∃ (x C : Nat) (s : List Bool), c = .int .i64 C ∧ a = .int .i64 x ∧ x < N ∧ s.length = N ∧ Hid ((crun p s x).1 = (crun p (cyst p k).1 k).1 ∧ C + (crun p s x).2 = (crun p (cyst p k).1 k).2) ∧ St w.heap.size w [Asn.own w.heap.size 4 (.slice (some ⟨w.heap.size, 0, none⟩) N N) (bls s), Asn.own w.heap.size 2 vo (nats (cyst p k).2), Asn.own 0 2 (.slice (some ⟨gp, 0, none⟩) N cp) (nats p)] wr) (fun c _ _ => (crun p (cyst p k).1 k).2 - (intOf c).toNat)
      case atStart => exact ⟨k, 0, (cyst p k).1, rfl, rfl, hlk, hcl.out k, hid ⟨rfl, Nat.zero_add _⟩, rS.out⟩
      case round =>
        obtain ⟨x, C, s, rfl, rfl, hx, hsl, hr, rS⟩ := hrel
        have x0 : (0 : Int) ≤ (x : Int) := Int.natCast_nonneg _
        have x1 : (x : Int) < (N : Int) := by omega
        have hblen := hid (show (bls s).length = N by rw [bls_length]; exact hsl)
        by_cases hb : s[x]? = some true
        · have cs := rS.o0.cellAt x _ (bls_get hb)
          have hr2 := hr.out
          rw [hseen.out s x hb] at hr2
          obtain ⟨e1, e2⟩ := hr2
          dsimp only at e1 e2
          rw [Nat.add_zero] at e2
          replace e1 := hid e1; replace e2 := hid e2
          clear hb hr
          rw [e1.out] at rS
          replace rS := hid rS
          by_cases hz : 0 < (crun p (cyst p k).1 k).2
          · have hk1 := hid (hcs.out k)
            rw [if_pos hz] at hk1
            have hcb2 := hcb.out k
            have hol := hid (hco.out k)
            have hol2 := hid (nats_length (cyst p k).2)
            have hol3 := hol.out
            generalize hcr : crun p (cyst p k).1 k = R at *
            replace hcr := hid hcr
            have dz : decide (0 < (C : Int)) = true := decide_eq_true (by have := e2.out; omega)
            have dn : decide (0 < C) = true := decide_eq_true (by have := e2.out; omega)
            generalize hq : (cyst p k) = Q at *
            replace hq := hid hq
            go_wp2_with (first
              | ((with_reducible refine gate (N := 36) rfl ?_); refine St.app 34 2 (.int .i64 0) 8 Try.underlying34 info_i64 rfl (by omega) rfl _ _ rfl _ _ rfl rS.out.f1 _ rfl rfl Q.2.length hol2.out (by omega) ?_; intro gn cn w5 rS'; replace rS := hid rS'.f1; clear rS'))
            go_roundw
            case rel => exact ⟨k + 1, _, by omega, by go_num, rfl, by rw [hk1.out]; dsimp only; rw [nats_snoc, ← e2.out]; exact rS.out⟩
            case measure => simp [intOf]; omega
          · have hk1 := hid (hcs.out k)
            rw [if_neg hz] at hk1
            generalize hcr : crun p (cyst p k).1 k = R at *
            replace hcr := hid hcr
            have dz : decide (0 < (C : Int)) = false := decide_eq_false (by have := e2.out; omega)
            have dn : decide (0 < C) = false := decide_eq_false (by have := e2.out; omega)
            generalize hq : (cyst p k) = Q at *
            replace hq := hid hq
            go_wp2
            go_roundw
            case rel => exact ⟨k + 1, _, by omega, by go_num, rfl, by rw [hk1.out]; exact rS.out⟩
            case measure => simp [intOf]; omega
        · have hb2 := get_bool (by omega) hb
          have cs := rS.o0.cellAt x _ (bls_get hb2)
          have fs := Own.frozenAt rS.o0 hblen.out x
          have hr2 := hr.out
          rw [hnew.out s x hb2] at hr2
          have hbnd := hcb.out k
          have hpx := hplt.out x hx
          have hcp := hid (hpg.out x hx)
          have hset := hid (bls_set s x true)
          have hsl2 := hid (show (s.set x true).length = N by rw [List.length_set]; exact hsl)
          generalize hS1 : (crun p (cyst p k).1 k).1 = S1 at *
          generalize hC1 : (crun p (cyst p k).1 k).2 = C1 at *
          replace hS1 := hid hS1; replace hC1 := hid hC1
          generalize p.getD x 0 = px at *
          generalize s.set x true = s2 at *
          obtain ⟨e1, e2⟩ := hr2
          dsimp only at e1 e2
          generalize hcr : crun p s2 px = R at *
          replace hcr := hid hcr; replace e1 := hid e1
          clear hb hb2 hr
          replace rS := hid rS
          have mk : True := trivial
          go_wp2_with (first
            | ((with_reducible refine gate (N := 25) rfl ?_); clear mk; replace rS := hid (rS.out.setOwn hblen.out x (.bool true) hx); rw [hset.out] at rS; (have ck := rS.out.o2.cellAt x _ hcp.out); generalize wr.setCell _ _ = wx at *))
          go_roundw
          case rel => exact ⟨px, C + 1, s2, by go_num, rfl, hpx, hsl2.out, hid ⟨by rw [hcr.out]; exact e1.out, by rw [hcr.out]; omega⟩, rS.out⟩
          case measure => simp [intOf]; omega
    · obtain rfl : k = N := by omega
      have dk : decide ((k : Int) < (k : Int)) = false := decide_eq_false (by omega)
      replace rS := hid rS.out.f1
      rw [hresult.out, hni.out] at rS
      go_wp2_with (first
        | (go_at_call 95; (with_reducible refine (hsrt.out _ _ _ rS.out).mono ?_); rintro e w2 ⟨rfl, rS'⟩; replace rS := hid rS'; clear rS' hsrt))
      go_ret
      exact ⟨_, rfl, by rw [← hci.out]; exact rS.out.o0, rS.out.bel⟩
theorem cysI_nat (p : List Nat) : ∃ q : List Nat, cysI p = q.map Int.ofNat ∧ q.Perm (cyc p) := by
  have hp : (cysI p).Perm ((cyc p).map Int.ofNat) := List.mergeSort_perm _ _
  refine ⟨(cysI p).map Int.toNat, ?_, ?_⟩
  · rw [List.map_map]
    have : ∀ x ∈ cysI p, (Int.ofNat ∘ Int.toNat) x = x := fun x hx => by
      obtain ⟨c, _, rfl⟩ := List.mem_map.1 (hp.mem_iff.1 hx)
      rfl
    rw [List.map_congr_left this, List.map_id']
  · have h := hp.map Int.toNat
    rw [List.map_map] at h
    have e : (Int.toNat ∘ Int.ofNat) = (id : Nat → Nat) := funext fun x => rfl
    rw [e, List.map_id] at h
    exact h
theorem ordL_take {q : List Nat} {k c : Nat} (h : q[k]? = some c) : ordL (q.take (k + 1)) = Nat.lcm (ordL (q.take k)) c := by
  unfold ordL
  rw [List.take_add_one, h]
  simp
set_option maxHeartbeats 4000000 in
set_option maxRecDepth 100000 in
theorem order_any (w : World) (b0 : Nat) (v : Value) (p : List Nat) (h : Own w b0 2 v (nats p)) (hn : p.length ≤ 1000) (hlt : ∀ x, x < p.length → p.getD x 0 < p.length) (K : Nat) (hK0 : 0 < K) (hK : K < 1000000000) (hdv : ∀ c ∈ cyc p, c ∣ K) :
    Calls Try.prog 52 #[v] w fun e w' => e = .returned (.int .i64 (ordL (cyc p) : Nat)) ∧ Below w.heap.size w w' := by
  have hcy := hid (cycles_any w b0 v p h hn hlt)
  obtain ⟨q, hq, hqp⟩ := cysI_nat p
  rw [hq, ← nats_ints] at hcy
  have hord := hid (show ordL (cyc p) = ordL (q.take q.length) from by rw [List.take_length]; exact ordL_congr fun c => hqp.mem_iff.symm)
  rw [hord.out]
  have hqb := hid (fun k c (hc : q[k]? = some c) => (show 0 < c from by
    have hm := hqp.mem_iff.1 (List.mem_of_getElem? hc)
    exact (cyst_pos p p.length c hm).1))
  have hqd := hid (fun k => (show ordL (q.take k) ∣ K from ordL_dvd fun c hc => hdv c (hqp.mem_iff.1 (List.mem_of_mem_take hc))))
  have hpos := hid (fun k => Nat.pos_of_dvd_of_pos (hqd.out k) hK0)
  have hle := hid (fun k => Nat.le_of_dvd hK0 (hqd.out k))
  have hst := hid (fun k c (hc : q[k]? = some c) => ordL_take hc)
  have hl := hid (nats_length q)
  have hql : q.length ≤ 1000 := by rw [hqp.length_eq]; have := cyst_out p p.length; unfold cyc; omega
  have hmu := hid (fun k c (hc : q[k]? = some c) W => (by
    have h := multiple_any (ordL (q.take k)) c (hpos.out k) (hqb.out k c hc) (by rw [← hst.out k c hc]; have := hle.out (k + 1); omega) W
    rw [← hst.out k c hc] at h; exact h : Calls Try.prog 88 #[.int .i64 (ordL (q.take k) : Nat), .int .i64 (c : Nat)] W fun e w' => e = .returned (.int .i64 (ordL (q.take (k + 1)) : Nat)) ∧ Below W.heap.size W w'))
  have h0 := hid (show ordL (q.take 0) = 1 from rfl)
  have hng := hid (fun (k c : Nat) (hc : q[k]? = some c) => (show (nats q)[k]? = some (.int .i64 (c : Nat)) by simp [nats, hc]))
  obtain ⟨F, hF⟩ : ∃ F : Nat → Nat, F = fun k => ordL (q.take k) := ⟨_, rfl⟩
  have hFe := hid (fun k => (show ordL (q.take k) = F k by rw [hF]))
  simp only [hFe.out] at hmu h0 hle ⊢
  clear hF hFe hst hord hqd hpos hqb h
  generalize hN : q.length = N at *
  replace hN := hid hN
  go_enter Try.func52, Try.ntmps52
  go_wp2_with (first
    | (go_at_call 59; (with_reducible refine (hcy.out).mono ?_); rintro e w1 ⟨v1, rfl, hO, hb⟩; obtain ⟨A, cp, rfl, _, hA⟩ := hO.form; rw [hl.out]; rw [hl.out] at hO; replace hO := hid hO; replace hA := hid hA; have hB := hid hb; clear hcy hb))
  go_loopw [3, 9] (fun o i wr => ∃ k : Nat, k ≤ N ∧ i = .int .i64 k ∧ o = .int .i64 (F k : Nat) ∧ Hid (Below w1.heap.size w1 wr)) (fun _ i _ => N - (intOf i).toNat)
  case atStart => exact ⟨0, Nat.zero_le _, rfl, by rw [h0.out]; rfl, Below.refl _ _⟩
  case round =>
    obtain ⟨k, hk, rfl, rfl, rB⟩ := hrel
    by_cases hlt : k < N
    · have dk : decide ((k : Int) < (N : Int)) = true := decide_eq_true (by omega)
      obtain ⟨c, hc⟩ : ∃ c, q[k]? = some c := ⟨_, List.getElem?_eq_getElem (by rw [hN.out]; exact hlt)⟩
      obtain ⟨g, rfl⟩ : ∃ g, A = some ⟨g, 0, none⟩ := by
        rcases hA.out with ⟨_, h1, _⟩ | ⟨g, h1, _⟩
        · have : N = 0 := by rw [← hl.out, h1]; rfl
          omega
        · exact ⟨g, h1⟩
      have ck := (hO.out.below rB.out).cellAt k _ (hng.out k c hc)
      have hmk := hid (hmu.out k c hc)
      generalize hfk1 : F (k + 1) = fk1 at *
      replace hfk1 := hid hfk1
      generalize F k = fk at *
      clear hc
      go_wp2_with (first
        | (go_at_call 88; (with_reducible refine (hmk.out _).mono ?_); rintro e w2 ⟨rfl, hb⟩; replace rB := hid (rB.out.trans (hb.mono rB.out.size)); clear hb))
      go_roundw
      case rel => exact ⟨k + 1, by omega, by go_num, by rw [hfk1.out], rB⟩
      case measure => simp [intOf]; omega
    · obtain rfl : k = N := by omega
      have dk : decide ((k : Int) < (k : Int)) = false := decide_eq_false (by omega)
      go_wp2
      go_ret
      exact ⟨rfl, hB.out.trans (rB.out.mono hB.out.size)⟩
end Go.Proofs.Ytgpjcekpmhfljaa

/- OrderOnLevel: what the program and the reference answer. -/
namespace Go.Proofs.Ytgpjcekpmhfljaa
open Go.RowKit
set_option linter.unusedVariables false
set_option linter.unusedSimpArgs false
-- @LONG

theorem aut_imgW {m : Mach} {l s : Nat} (gd : Good m l s) {g : List Int} (hg : ∀ k ∈ g, isNum s k) (n : Nat) : Aut l (imgW m l s g) n where
  len := fun u _ _ => imgW_length u g
  lt := fun u hu _ => imgW_lt gd u g hg hu
  pre := fun u x _ _ _ => ⟨_, imgW_snoc u x g⟩
  inj := fun u v hu hv _ _ e => imgW_inj gd u v g hg hu hv e
theorem permW_K {m : Mach} {l s n : Nat} (gd : Good m l s) {g : List Int} (hg : ∀ k ∈ g, isNum s k) (hn : n ≤ 5) : 0 < bk l ^ n ∧ bk l ^ n < 1000000000 ∧ (∀ c ∈ cyc (permW m l s g n), c ∣ bk l ^ n) ∧ (∀ x, x < (permW m l s g n).length → (permW m l s g n).getD x 0 < (permW m l s g n).length) := by
  have l2 := gd.l2; have l3 := gd.l3
  have hd : l = 2 ∨ l = 3 := by omega
  have hp := pmF_pm (n := n) (by omega) (aut_imgW gd hg n)
  refine ⟨?_, ?_, fun c hc => cyc_dvd hp (fun x hx => pmF_back hd (aut_imgW gd hg n) (by rw [pmF_length] at hx; exact hx)) hc, hp.lt⟩
  · have : n = 0 ∨ n = 1 ∨ n = 2 ∨ n = 3 ∨ n = 4 ∨ n = 5 := by omega
    rcases hd with rfl | rfl <;> rcases this with rfl | rfl | rfl | rfl | rfl | rfl <;> decide
  · have : n = 0 ∨ n = 1 ∨ n = 2 ∨ n = 3 ∨ n = 4 ∨ n = 5 := by omega
    rcases hd with rfl | rfl <;> rcases this with rfl | rfl | rfl | rfl | rfl | rfl <;> decide
theorem cyst_sub (p : List Nat) (k : Nat) (hk : k ≤ p.length) {c : Nat} (hc : c ∈ (cyst p k).2) : c ∈ cyc p := by
  have h : ∀ j, c ∈ (cyst p (k + j)).2 := by
    intro j
    induction j with
    | zero => exact hc
    | succ j ih =>
      show c ∈ (cyst p (k + j + 1)).2
      rw [cyst]; dsimp only
      split
      · exact List.mem_append.2 (.inl ih)
      · exact ih
  have := h (p.length - k)
  rw [show k + (p.length - k) = p.length by omega] at this
  exact this
theorem cyst_lcm (p : List Nat) (k : Nat) (hz : 0 < (crun p (cyst p k).1 k).2) : ordL (cyst p (k + 1)).2 = Nat.lcm (ordL (cyst p k).2) (crun p (cyst p k).1 k).2 := by
  rw [cyst]; dsimp only
  rw [if_pos hz]
  simp [ordL]
theorem cyst_lcm0 (p : List Nat) (k : Nat) (hz : (crun p (cyst p k).1 k).2 = 0) : ordL (cyst p (k + 1)).2 = ordL (cyst p k).2 := by
  rw [cyst]; dsimp only
  rw [if_neg (by omega)]
open Classical in
/-- What OrderOnLevel answers. -/
noncomputable def orlAns (m : Mach) (g : List Int) (n : Int) : Int × Int := if (polAns m g n).2 = 0 then (((ordL (cyc (polAns m g n).1) : Nat) : Int), 0) else (0, (polAns m g n).2)
set_option maxHeartbeats 4000000 in
set_option maxRecDepth 100000 in
theorem implOrl_any (w : World) (m : Mach) (hkm : m.Ok) (b0 : Nat) (v : Value) (g : List Int) (hg : Own w b0 2 v (ints g)) (hl : g.length < 2000000) (n : Int) :
    Calls Try.prog 31 #[.agg (mcells m), v, .int .i64 n] w fun e w' => e = .returned (.tuple #[.int .i64 (orlAns m g n).1, .int .i64 (orlAns m g n).2]) ∧ Below w.heap.size w w' := by
  have hS := hid ((St.arg w hg).newMB m 29)
  have hpo := hid (fun W (hO : Own W 0 2 v (ints g)) => implPol_any W m hkm 0 v g hO hl n)
  rcases polAns_cases m g n with ⟨h, hp⟩ | ⟨h, hp⟩ | ⟨l, s, n, gd, hgw, rfl, h5, hp⟩
  · have hA : orlAns m g n = (0, 1) := by unfold orlAns; rw [h, if_neg (by decide)]
    rw [hA]
    rw [hp] at hpo
    replace hkm := hid hkm; replace hg := hid hg; clear h hp hA
    go_enter Try.func31, Try.ntmps31
    go_wp2_with (first
      | ((with_reducible refine gate (N := 11) rfl ?_); refine load_mach rfl _ rfl w.heap.size rfl m hS.out.m0 ?_)
      | (go_at_call 66; (with_reducible refine (hpo.out _ hS.out.o1).mono ?_); rintro e w1 ⟨v1, rfl, hO, hb⟩; replace hS := hid (hS.out.call hb); clear hb hO hpo))
    go_ret2
    exact ⟨rfl, hS.out.bel⟩
  · have hA : orlAns m g n = (0, 2) := by unfold orlAns; rw [h, if_neg (by decide)]
    rw [hA]
    rw [hp] at hpo
    replace hkm := hid hkm; replace hg := hid hg; clear h hp hA
    go_enter Try.func31, Try.ntmps31
    go_wp2_with (first
      | ((with_reducible refine gate (N := 11) rfl ?_); refine load_mach rfl _ rfl w.heap.size rfl m hS.out.m0 ?_)
      | (go_at_call 66; (with_reducible refine (hpo.out _ hS.out.o1).mono ?_); rintro e w1 ⟨v1, rfl, hO, hb⟩; replace hS := hid (hS.out.call hb); clear hb hO hpo))
    go_ret2
    exact ⟨rfl, hS.out.bel⟩
  · have hA : orlAns m g n = (((ordL (cyc (permW m l s g n)) : Nat) : Int), 0) := by unfold orlAns; rw [hp, if_pos rfl]
    rw [hA]
    rw [hp] at hpo
    have hgn : ∀ k ∈ g, isNum s k := by have h := hgw.2.2; rw [gd.S] at h; exact h
    obtain ⟨hK0, hK, hdv, hlt⟩ := permW_K (n := n) gd hgn h5
    replace hgn := hid hgn
    have hM := pw_five gd.l2 gd.l3 h5
    have hor := hid (fun W b v (hO : Own W b 2 v (nats (permW m l s g n))) => order_any W b v (permW m l s g n) hO (by rw [permW_length]; omega) hlt _ hK0 hK hdv)
    replace hkm := hid hkm; replace hg := hid hg; replace gd := hid gd; replace hgw := hid hgw; clear hp hA hK0 hK hdv hlt
    generalize ordL (cyc (permW m l s g n)) = R at *
    generalize permW m l s g n = p at *
    go_enter Try.func31, Try.ntmps31
    go_wp2_with (first
      | ((with_reducible refine gate (N := 11) rfl ?_); refine load_mach rfl _ rfl w.heap.size rfl m hS.out.m0 ?_)
      | (go_at_call 66; (with_reducible refine (hpo.out _ hS.out.o1).mono ?_); rintro e w1 ⟨v1, rfl, hO, hb⟩; replace hS := hid (hS.out.callOwn hb hO); clear hb hO hpo)
      | (go_at_call 52; (with_reducible refine (hor.out _ _ _ hS.out.o0).mono ?_); rintro e w3 ⟨rfl, hb⟩; replace hS := hid (hS.out.call hb); clear hb))
    go_ret2
    exact ⟨rfl, hS.out.bel⟩
set_option maxHeartbeats 8000000 in
set_option maxRecDepth 100000 in
theorem specOrl_any (w0 : World) (m : Mach) (hkm : m.Ok) (b0 : Nat) (v : Value) (g : List Int) (hg : Own w0 b0 2 v (ints g)) (hl : g.length < 2000000) (n : Int) :
    Calls Try.prog 30 #[.agg (mcells m), v, .int .i64 n] w0 fun e w' => e = .returned (.tuple #[.int .i64 (orlAns m g n).1, .int .i64 (orlAns m g n).2]) ∧ Below w0.heap.size w0 w' := by
  have hS := hid ((St.arg w0 hg).newMB m 29)
  have hpo := hid (fun W (hO : Own W 0 2 v (ints g)) => l04Code_any W m hkm 0 v g hO hl n)
  rcases polAns_cases m g n with ⟨h, hp⟩ | ⟨h, hp⟩ | ⟨l, s, n, gd, hgw, rfl, h5, hp⟩
  · have hA : orlAns m g n = (0, 1) := by unfold orlAns; rw [h, if_neg (by decide)]
    rw [hA]
    rw [hp] at hpo
    replace hkm := hid hkm; replace hg := hid hg; clear h hp hA
    go_enter Try.func30, Try.ntmps30
    go_wp2_with (first
      | ((with_reducible refine gate (N := 15) rfl ?_); refine load_mach rfl _ rfl w0.heap.size rfl m hS.out.m0 ?_)
      | (go_at_call 63; (with_reducible refine (hpo.out _ hS.out.o1).mono ?_); rintro e w1 ⟨rfl, hb⟩; replace hS := hid (hS.out.call hb); clear hpo; clear hb))
    go_ret2
    exact ⟨rfl, hS.out.bel⟩
  · have hA : orlAns m g n = (0, 2) := by unfold orlAns; rw [h, if_neg (by decide)]
    rw [hA]
    rw [hp] at hpo
    replace hkm := hid hkm; replace hg := hid hg; clear h hp hA
    go_enter Try.func30, Try.ntmps30
    go_wp2_with (first
      | ((with_reducible refine gate (N := 15) rfl ?_); refine load_mach rfl _ rfl w0.heap.size rfl m hS.out.m0 ?_)
      | (go_at_call 63; (with_reducible refine (hpo.out _ hS.out.o1).mono ?_); rintro e w1 ⟨rfl, hb⟩; replace hS := hid (hS.out.call hb); clear hpo; clear hb))
    go_ret2
    exact ⟨rfl, hS.out.bel⟩
  · have hA : orlAns m g n = (((ordL (cyc (permW m l s g n)) : Nat) : Int), 0) := by unfold orlAns; rw [hp, if_pos rfl]
    rw [hA]
    rw [hp] at hpo
    have hgn : ∀ k ∈ g, isNum s k := by have h := hgw.2.2; rw [gd.S] at h; exact h
    obtain ⟨hK0, hK, hdv, hlt⟩ := permW_K (n := n) gd hgn h5
    replace hgn := hid hgn
    have hM := pw_five gd.l2 gd.l3 h5
    have hll := hid (fun W (hO : Own W 0 2 v (ints g)) => l02Level_any W m hkm l s gd 0 v g hO hgn.out (by have := hgw.2.1; omega) n (by omega) (by omega))
    have hpl : (permW m l s g n).length ≤ 243 := by rw [permW_length]; exact hM
    replace hkm := hid hkm; replace hg := hid hg; replace gd := hid gd; replace hgw := hid hgw; clear hp hA
    generalize permW m l s g n = p at *
    have hqd := hid (fun k (hk : k ≤ p.length) => (show ordL (cyst p k).2 ∣ bk l ^ n from ordL_dvd fun c hc => hdv c (cyst_sub p k hk hc)))
    generalize bk l ^ n = K at *
    have hle := hid (fun k (hk : k ≤ p.length) => (show ordL (cyst p k).2 ≤ K from Nat.le_of_dvd hK0 (hqd.out k hk)))
    have hst := hid (fun k (hz : 0 < (crun p (cyst p k).1 k).2) => (show ordL (cyst p (k + 1)).2 = Nat.lcm (ordL (cyst p k).2) (crun p (cyst p k).1 k).2 from cyst_lcm p k hz))
    have hst0 := hid (fun k (hz : (crun p (cyst p k).1 k).2 = 0) => (show ordL (cyst p (k + 1)).2 = ordL (cyst p k).2 from cyst_lcm0 p k hz))
    have hlst := hid (fun k c => lcm_step (ordL (cyst p k).2) c)
    have hgp0 := hid (fun k (hk : k ≤ p.length) c => Nat.gcd_pos_of_pos_left c (Nat.pos_of_dvd_of_pos (hqd.out k hk) hK0))
    have hdl := hid (fun k c => Nat.div_le_self (ordL (cyst p k).2) (Nat.gcd (ordL (cyst p k).2) c))
    have hdi := hid (fun k (hk : k ≤ p.length) (c : Nat) (hc : c ≤ 243) W => l06Divisor_any (ordL (cyst p k).2) c (by have := hle.out k hk; omega) (by omega) W)
    have h0 := hid (show ordL (cyst p 0).2 = 1 from rfl)
    have hord := hid (show ordL (cyst p p.length).2 = ordL (cyc p) from rfl)
    rw [← hord.out]
    obtain ⟨F, hF⟩ : ∃ F : Nat → Nat, F = fun k => ordL (cyst p k).2 := ⟨_, rfl⟩
    have hFe := hid (fun k => (show ordL (cyst p k).2 = F k by rw [hF]))
    simp only [hFe.out] at hdi h0 hle hlst hgp0 hdl hst hst0 ⊢
    clear hF hFe hord hqd
    go_enter Try.func30, Try.ntmps30
    go_upto_region 5 with (first
      | ((with_reducible refine gate (N := 15) rfl ?_); refine load_mach rfl _ rfl w0.heap.size rfl m hS.out.m0 ?_)
      | ((with_reducible refine gate (N := 22) rfl ?_); refine load_mach rfl _ rfl w0.heap.size rfl m hS.out.m0 ?_)
      | (go_at_call 63; (with_reducible refine (hpo.out _ hS.out.o1).mono ?_); rintro e w1 ⟨rfl, hb⟩; replace hS := hid (hS.out.call hb); clear hb)
      | (go_at_call 64; (with_reducible refine (hll.out _ hS.out.o1).mono ?_); rintro e w ⟨vq, rfl, h, hb⟩; have hB := hid (hS.out.call hb).bel; clear hb hS))
    clear hpo hll hg hkm hdv gd hgw
    have hil := nats_length p
    obtain ⟨A, cp, rfl, _, hA⟩ := h.form
    rw [hil] at h ⊢
    have hpg := hid (fun (x : Nat) (hx : x < p.length) => (show (nats p)[x]? = some (.int .i64 ((p.getD x 0 : Nat) : Int)) from by simp [nats, List.getD_eq_getElem?_getD, List.getElem?_eq_getElem hx]))
    have hplt := hid (fun (x : Nat) (hx : x < p.length) => hlt x hx)
    have hA2 := hid (fun (hx : 0 < p.length) => (show ∃ gp, A = some ⟨gp, 0, none⟩ from by
      rcases hA with ⟨_, h1, _⟩ | ⟨g, h1, _⟩
      · have : p.length = 0 := by rw [← hil, h1]; rfl
        omega
      · exact ⟨g, h1⟩))
    have hmk := fun W : World => run_make_row' (P := Try.prog) 83 4 (.bool false) 1 Try.underlying83 info_bool rfl .i64 .i64 p.length (by omega) (by omega) W
    have hmc := hid (toList_madeCells_one (.bool false) p.length)
    generalize madeCells #[.bool false] p.length = mc at *
    have hmcs := hid (show mc.size = p.length by rw [← Array.length_toList, hmc.out, List.length_replicate])
    have hS := (St.arg w h).newArr mc p.length hmcs.out 4 (by omega)
    rw [hmc.out] at hS
    have hrep : List.replicate p.length (Value.bool false) = bls (cyst p 0).1 := by simp [bls, cyst]
    rw [hrep] at hS
    replace hS := hid hS
    have hcl := hid (cyst_len p)
    have hco := hid (cyst_out p)
    have hcs := hid (fun k => (show cyst p (k + 1) = ((crun p (cyst p k).1 k).1, if 0 < (crun p (cyst p k).1 k).2 then (cyst p k).2 ++ [(crun p (cyst p k).1 k).2] else (cyst p k).2) from rfl))
    have hcb := hid (fun k => (show (crun p (cyst p k).1 k).2 ≤ p.length from by have h := crun_le p (cyst p k).1 k; rw [cyst_len] at h; exact h))
    have hseen := hid (fun s a (h : s[a]? = some true) => crun_seen (p := p) h)
    have hnew := hid (fun s a (h : s[a]? = some false) => crun_new (p := p) h)
    have hresult := hid (show (cyst p p.length).2 = cyc p from rfl)
    clear hA hil hlt hrep hmc h
    generalize hN : p.length = N at *
    replace hN := hid hN
    have hS2 := hS.out.nilOwn 2
    replace hS := hid hS2.f1
    clear hS2
    go_wp2
    go_loopw [10, 12] (fun o i wr => ∃ k : Nat, k ≤ N ∧ i = .int .i64 k ∧ o = .int .i64 (F k : Nat) ∧ St w.heap.size w [Asn.own w.heap.size 4 (.slice (some ⟨w.heap.size, 0, none⟩) N N) (bls (cyst p k).1), Asn.own w.heap.size 2 (.slice none 0 0) [], Asn.own 0 2 (.slice A N cp) (nats p)] wr) (fun _ i _ => N - (intOf i).toNat)
    case atStart => exact ⟨0, Nat.zero_le _, rfl, by rw [h0.out]; rfl, hS.out⟩
    case round =>
      obtain ⟨k, hk, rfl, rfl, rS⟩ := hrel
      clear hS
      replace rS := hid rS
      by_cases hlk : k < N
      · have dk : decide ((k : Int) < (N : Int)) = true := decide_eq_true (by omega)
        obtain ⟨gp, rfl⟩ := hA2.out (by omega)
        go_wp2
        go_loopw [13, 14] (fun c a wr => ∃ (x C : Nat) (s : List Bool), c = .int .i64 C ∧ a = .int .i64 x ∧ x < N ∧ s.length = N ∧ Hid ((crun p s x).1 = (crun p (cyst p k).1 k).1 ∧ C + (crun p s x).2 = (crun p (cyst p k).1 k).2) ∧ St w.heap.size w [Asn.own w.heap.size 4 (.slice (some ⟨w.heap.size, 0, none⟩) N N) (bls s), Asn.own w.heap.size 2 (.slice none 0 0) [], Asn.own 0 2 (.slice (some ⟨gp, 0, none⟩) N cp) (nats p)] wr) (fun c _ _ => (crun p (cyst p k).1 k).2 - (intOf c).toNat)
        case atStart => exact ⟨k, 0, (cyst p k).1, rfl, rfl, hlk, hcl.out k, hid ⟨rfl, Nat.zero_add _⟩, rS.out⟩
        case round =>
          obtain ⟨x, C, s, rfl, rfl, hx, hsl, hr, rS⟩ := hrel
          have x0 : (0 : Int) ≤ (x : Int) := Int.natCast_nonneg _
          have x1 : (x : Int) < (N : Int) := by omega
          have hblen := hid (show (bls s).length = N by rw [bls_length]; exact hsl)
          by_cases hb : s[x]? = some true
          · have cs := rS.o0.cellAt x _ (bls_get hb)
            have hr2 := hr.out
            rw [hseen.out s x hb] at hr2
            obtain ⟨e1, e2⟩ := hr2
            dsimp only at e1 e2
            rw [Nat.add_zero] at e2
            replace e1 := hid e1; replace e2 := hid e2
            clear hb hr
            rw [e1.out] at rS
            replace rS := hid rS
            have rT := rS
            by_cases hz : 0 < (crun p (cyst p k).1 k).2
            · have hk1 := hid (hcs.out k)
              rw [if_pos hz] at hk1
              have hcb2 := hcb.out k
              have hdk := hid (hdi.out k (by omega) C)
              have hgpk := hgp0.out k (by omega) C
              have hs1 := hst.out k
              rw [← e2.out] at hz hs1 hcb2
              replace hs1 := hs1 hz
              have hs2 := hlst.out k C
              have hs3 := hdl.out k C
              have hfl := hle.out k (by omega)
              have hfl1 := hle.out (k + 1) (by omega)
              rw [← hs1] at hs2
              have hdkk := hid (hdk.out (by omega))
              generalize hcr : crun p (cyst p k).1 k = R at *
              replace hcr := hid hcr
              have dz : decide (0 < (C : Int)) = true := decide_eq_true (by omega)
              have dn : decide (0 < C) = true := decide_eq_true (by omega)
              generalize hq : (cyst p k) = Q at *
              replace hq := hid hq
              generalize hfk1 : F (k + 1) = fk1 at *
              replace hfk1 := hid hfk1
              generalize F k = fk at *
              clear hdk
              generalize Nat.gcd fk C = G at *
              have dz1 : ¬ (G : Int) = 0 := by omega
              have dz2 : ((G : Int) == 0) = false := by simp; omega
              have m1 : Int.tdiv (fk : Int) (G : Int) = ((fk / G : Nat) : Int) := by rw [Int.tdiv_eq_ediv_of_nonneg (by omega)]; omega
              have m2 : (fk : Int) / (G : Int) = ((fk / G : Nat) : Int) := by omega
              generalize fk / G = qq at *
              have e3 : (qq : Int) * (C : Int) = (fk1 : Int) := by rw [← hs2]; simp
              have ew : IntKind.i64.wrap (qq : Int) = qq := IntWalk.i64_in _ (by omega)
              have ew2 : IntKind.i64.wrap (fk1 : Int) = fk1 := IntWalk.i64_in _ (by omega)
              have ew3 : wrap64 (fk1 : Int) = fk1 := w64 (by omega) (by omega)
              clear hs1 hs2
              go_wp2_with (first
                | (go_at_call 65; (with_reducible refine (hdkk.out _).mono ?_); rintro e w5 ⟨rfl, d, rfl⟩; replace rT := hid (rT.out.drewN d)))
              go_roundw
              case rel => exact ⟨k + 1, by omega, by go_num, by rw [hfk1.out], by rw [hk1.out]; exact rT.out⟩
              case measure => simp [intOf]; omega
            · have hk1 := hid (hcs.out k)
              rw [if_neg hz] at hk1
              have hs1 := hid (hst0.out k (by omega))
              generalize hcr : crun p (cyst p k).1 k = R at *
              replace hcr := hid hcr
              have dz : decide (0 < (C : Int)) = false := decide_eq_false (by have := e2.out; omega)
              have dn : decide (0 < C) = false := decide_eq_false (by have := e2.out; omega)
              generalize hq : (cyst p k) = Q at *
              replace hq := hid hq
              go_wp2
              go_roundw
              case rel => exact ⟨k + 1, by omega, by go_num, by rw [hs1.out], by rw [hk1.out]; exact rT.out⟩
              case measure => simp [intOf]; omega
          · have hb2 := get_bool (by omega) hb
            have cs := rS.o0.cellAt x _ (bls_get hb2)
            have fs := Own.frozenAt rS.o0 hblen.out x
            have hr2 := hr.out
            rw [hnew.out s x hb2] at hr2
            have hbnd := hcb.out k
            have hpx := hplt.out x hx
            have hcp := hid (hpg.out x hx)
            have hset := hid (bls_set s x true)
            have hsl2 := hid (show (s.set x true).length = N by rw [List.length_set]; exact hsl)
            generalize hS1 : (crun p (cyst p k).1 k).1 = S1 at *
            generalize hC1 : (crun p (cyst p k).1 k).2 = C1 at *
            replace hS1 := hid hS1; replace hC1 := hid hC1
            generalize p.getD x 0 = px at *
            generalize s.set x true = s2 at *
            obtain ⟨e1, e2⟩ := hr2
            dsimp only at e1 e2
            generalize hcr : crun p s2 px = R at *
            replace hcr := hid hcr; replace e1 := hid e1
            clear hb hb2 hr
            replace rS := hid rS
            have mk : True := trivial
            go_wp2_with (first
              | ((with_reducible refine gate (N := 44) rfl ?_); clear mk; replace rS := hid (rS.out.setOwn hblen.out x (.bool true) hx); rw [hset.out] at rS; (have ck := rS.out.o2.cellAt x _ hcp.out); generalize wr.setCell _ _ = wx at *))
            go_roundw
            case rel => exact ⟨px, C + 1, s2, by go_num, rfl, hpx, hsl2.out, hid ⟨by rw [hcr.out]; exact e1.out, by rw [hcr.out]; omega⟩, rS.out⟩
            case measure => simp [intOf]; omega
      · obtain rfl : k = N := by omega
        have dk : decide ((k : Int) < (k : Int)) = false := decide_eq_false (by omega)
        go_wp2
        go_ret2
        exact ⟨by rw [hN.out]; rfl, hB.out.trans (rS.out.bel.mono hB.out.size)⟩
end Go.Proofs.Ytgpjcekpmhfljaa

/- OrderOnLevel: the law. -/
namespace Go.Proofs.Ytgpjcekpmhfljaa
open Go.RowKit
set_option linter.unusedVariables false
set_option linter.unusedSimpArgs false

set_option maxHeartbeats 8000000 in
set_option maxRecDepth 100000 in
theorem orl_law (w : World) (m : Mach) (hkm : m.Ok) (v : Value) (l : List Int) (hl : ArgI w v l) (n : Int) :
    Calls Try.prog 9 #[.agg (mcells m), v, .int .i64 n] w fun e w' => e = .returned (.bool true) ∧ Below w.heap.size w w' := by
  have hS := hid ((St.start w).newMB m 25)
  have hl' := hid hl
  obtain ⟨A, c, rfl, _⟩ := hl
  by_cases h1 : l.length ≤ 1048576
  · have d1 : decide ((1048576 : Int) < (l.length : Int)) = false := decide_eq_false (by omega)
    have hti := hid (fun W (hW : Below w.heap.size w W) => toInt64S_any W _ l (hl'.out.below hW) (by omega))
    have hs := hid (fun W b vq (hO : Own W b 2 vq (ints l)) => specOrl_any W m hkm b vq l hO (by omega) n)
    have hp := hid (fun W b vq (hO : Own W b 2 vq (ints l)) => implOrl_any W m hkm b vq l hO (by omega) n)
    have heq := hid (fun W b1 b2 v1 v2 (hO1 : Own W b1 2 v1 (ints l)) (hO2 : Own W b2 2 v2 (ints l)) => eqInt64SL_any W b1 b2 v1 v2 l hO1 hO2 (by omega))
    have hcc : ((orlAns m l n).2 != (orlAns m l n).2) = false := by simp
    have hcc2 : ((orlAns m l n).1 != (orlAns m l n).1) = false := by simp
    generalize (orlAns m l n).1 = r at *
    generalize (orlAns m l n).2 = cd at *
    replace hkm := hid hkm
    generalize l.length = nl at *
    go_enter Try.func9, Try.ntmps9
    go_wp2_with (first
      | ((with_reducible refine gate (N := 16) rfl ?_); refine load_lmach rfl _ rfl w.heap.size rfl m hS.out.m0 ?_)
      | ((with_reducible refine gate (N := 27) rfl ?_); refine load_lmach rfl _ rfl w.heap.size rfl m hS.out.m2 ?_)
      | (go_at_call 11; (with_reducible refine (toMachine_any m hkm.out _).mono ?_); rintro e w1 ⟨rfl, hb⟩; replace hS := hid (hS.out.call hb); clear hb)
      | (go_at_call 17; (with_reducible refine (hti.out _ hS.out.bel).mono ?_); rintro e w2 ⟨vq, rfl, hO, hb⟩; replace hS := hid (hS.out.callOwn hb hO); clear hb hO)
      | (go_at_call 30; (with_reducible refine (hs.out _ _ _ hS.out.o0).mono ?_); rintro e w3 ⟨rfl, hb⟩; replace hS := hid (hS.out.call hb); clear hb)
      | (go_at_call 31; (with_reducible refine (hp.out _ _ _ hS.out.o0).mono ?_); rintro e w4 ⟨rfl, hb⟩; replace hS := hid (hS.out.call hb); clear hb)
      | (go_at_call 19; (with_reducible refine (heq.out _ _ _ _ _ hS.out.o1 hS.out.o0).mono ?_); rintro e w5 ⟨rfl, hb⟩; replace hS := hid (hS.out.call hb); clear hb))
    go_ret
    exact ⟨rfl, hS.out.bel⟩
  · have d1 : decide ((1048576 : Int) < (l.length : Int)) = true := decide_eq_true (by omega)
    generalize l.length = nl at *
    go_enter Try.func9, Try.ntmps9
    go_wp2
    go_ret
    exact ⟨rfl, hS.out.bel⟩
end Go.Proofs.Ytgpjcekpmhfljaa
