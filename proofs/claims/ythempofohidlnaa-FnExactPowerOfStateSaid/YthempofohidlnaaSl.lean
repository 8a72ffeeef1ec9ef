/- The library's searches in slices of numbers: Equal, Index, Contains. -/
import Derived.Test.YthempofohidlnaaRes
import Derived.Deep.QuietTactic
import Derived.BigQuiet
namespace Go.Proofs.Ythempofohidlnaa
open Go.RowKit
set_option linter.unusedVariables false
set_option linter.unusedSimpArgs false

theorem quiet_same {P : Program} {f : FuncId} {args : Array Value} {w : World} {n : Nat} {v : Value} (h : Calls P f args (w.drewN n) fun e w' => e = .returned v ∧ w.drewN n = w') : Calls P f args (w.drewN n) fun e w'' => e = .returned v ∧ ∃ m, w'' = w.drewN m :=
  h.mono fun _ _ ⟨he, hm⟩ => ⟨he, n, hm.symm⟩
theorem drewN_add (w : World) (a b : Nat) : (w.drewN a).drewN b = w.drewN (a + b) := World.drewN_drewN w a b

set_option maxHeartbeats 1000000 in
theorem slEqual_any (w : World) (b1 b2 : Nat) (v1 v2 : Value) (x y : List Int) (h1 : Own w b1 2 v1 (ints x)) (h2 : Own w b2 2 v2 (ints y)) (hx : x.length < 1000000) (hy : y.length < 1000000) (r : Bool) (hr : Tells r (x = y)) :
    Calls Try.prog 124 #[v1, v2] w fun e w' => e = .returned (.bool r) ∧ ∃ d, w' = w.drewN d := by
  replace hr := hid hr
  by_cases hne : x.length = y.length
  · by_cases h0 : x = []
    · subst h0
      have hy0 : y = [] := List.eq_nil_of_length_eq_zero hne.symm
      subst hy0
      have hrt : r = true := hr.out.out.2 rfl
      subst hrt
      obtain ⟨A1, c1, rfl, _, _⟩ := h1.form
      obtain ⟨A2, c2, rfl, _, _⟩ := h2.form
      rw [ints_length]
      clear h1 h2 hr hne
      go_enter Try.func124, Try.ntmps124
      go_wp2
      go_loop [13] (fun i => i = .int .i64 0) (fun _ => 0)
      case atStart => rfl
      case round =>
        obtain rfl := hrel
        go_wp2
        go_ret
        exact ⟨rfl, 0, rfl⟩
    · have hy0 : y ≠ [] := fun e => h0 (List.eq_nil_of_length_eq_zero (by rw [hne, e]; rfl))
      obtain ⟨g1, c1, rfl, _, _⟩ := h1.blk (fun e => h0 (by simpa [ints] using e))
      obtain ⟨g2, c2, rfl, _, _⟩ := h2.blk (fun e => hy0 (by simpa [ints] using e))
      rw [ints_length] at h1 h2 ⊢
      rw [ints_length]
      rw [← hne] at h2 ⊢
      have hgx := hid (fun (k : Nat) (z : Int) (hz : x[k]? = some z) => (show (ints x)[k]? = some (.int .i64 z) by simp [ints, hz]))
      have hgy := hid (fun (k : Nat) (z : Int) (hz : y[k]? = some z) => (show (ints y)[k]? = some (.int .i64 z) by simp [ints, hz]))
      have hlx := hid (show x.length = x.length from rfl)
      replace h1 := hid h1
      replace h2 := hid h2
      replace hne := hid hne
      clear h0 hy0 hlx
      generalize hn : x.length = n at *
      have hn' := hid hn
      clear hn
      have hfalse : (n != n) = false := by simp
      go_enter Try.func124, Try.ntmps124
      go_wp2
      go_loopw [13] (fun i wr => ∃ k d : Nat, k ≤ n ∧ i = .int .i64 k ∧ wr = w.drewN d ∧ Hid (∀ j, j < k → x[j]? = y[j]?)) (fun i _ => n - (intOf i).toNat)
      case atStart => exact ⟨0, 0, Nat.zero_le _, rfl, rfl, fun j hj => by omega⟩
      case round =>
        obtain ⟨k, d, hk, rfl, rfl, hall⟩ := hrel
        by_cases hlt : k < n
        · obtain ⟨a, ha⟩ : ∃ a, x[k]? = some a := ⟨_, List.getElem?_eq_getElem (by have := hn'.out; omega)⟩
          obtain ⟨b, hb⟩ : ∃ b, y[k]? = some b := ⟨_, List.getElem?_eq_getElem (by have := hn'.out; have := hne.out; omega)⟩
          have d1 := h1.out.cellAt k _ (hgx.out k a ha)
          have d2 := h2.out.cellAt k _ (hgy.out k b hb)
          by_cases hab : a = b
          · subst hab
            have hz : (a != a) = false := by simp
            have hnext : Hid (∀ j, j < k + 1 → x[j]? = y[j]?) := fun j hj => by
              by_cases e : j = k
              · subst e; rw [ha, hb]
              · exact hall.out j (by omega)
            clear ha hb
            go_upto_region 6 with (fail)
            go_quiet (fail)
            go_wp2
            go_roundw
            case rel => exact ⟨k + 1, _, by omega, by go_num, rfl, hnext⟩
            case measure => simp [intOf]; omega
          · have hz : (a != b) = true := by rw [bne_iff_ne]; exact hab
            have hrf : r = false := by
              cases hr' : r with
              | false => rfl
              | true =>
                have := hr.out.out.1 hr'
                subst this
                rw [ha] at hb
                exact absurd (Option.some.inj hb) hab
            subst hrf
            clear ha hb
            go_upto_region 6 with (fail)
            go_quiet (fail)
            go_wp2
            go_ret
            exact ⟨rfl, _, drewN_add _ _ _⟩
        · obtain rfl : k = n := by omega
          have hrt : r = true := hr.out.out.2 (List.ext_getElem? fun j => by
            by_cases hj : j < k
            · exact hall.out j hj
            · have h1 := hn'.out; have h2 := hne.out
              rw [List.getElem?_eq_none (by omega), List.getElem?_eq_none (by omega)])
          subst hrt
          go_wp2
          go_ret
          exact ⟨rfl, _, rfl⟩
  · have hrf : r = false := by
      cases hr' : r with
      | false => rfl
      | true => exact absurd (congrArg List.length (hr.out.out.1 hr')) hne
    subst hrf
    obtain ⟨A1, c1, rfl, _, _⟩ := h1.form
    obtain ⟨A2, c2, rfl, _, _⟩ := h2.form
    rw [ints_length, ints_length]
    have hz : ((x.length : Int) != (y.length : Int)) = true := bne_iff_ne.2 fun e => hne (Int.ofNat.inj e)
    clear h1 h2 hr hne
    go_enter Try.func124, Try.ntmps124
    go_wp2
    go_ret
    exact ⟨rfl, 0, rfl⟩

/-- Where a number is first met, or -1. -/
def idxZ (l : List Int) (x : Int) : Int := if x ∈ l then ((l.idxOf x : Nat) : Int) else -1
theorem idxZ_ge (l : List Int) (x : Int) : -1 ≤ idxZ l x ∧ idxZ l x ≤ l.length := by
  unfold idxZ; split
  · have := List.idxOf_le_length (a := x) (l := l); omega
  · omega
theorem idxZ_at {l : List Int} {x : Int} {k : Nat} (h : l[k]? = some x) (hno : ∀ j, j < k → l[j]? ≠ some x) : idxZ l x = (k : Int) := by
  have hm : x ∈ l := List.mem_of_getElem? h
  have hlt := List.idxOf_lt_length_of_mem hm
  have h1 : l[l.idxOf x]? = some x := by rw [List.getElem?_eq_getElem hlt, List.getElem_idxOf hlt]
  unfold idxZ
  rw [if_pos hm]
  have h2 : ¬ l.idxOf x < k := fun h' => hno _ h' h1
  have h3 : ¬ k < l.idxOf x := fun h' => by
    have := List.not_of_lt_findIdx (p := (· == x)) (xs := l) h'
    obtain ⟨hk, e⟩ := List.getElem?_eq_some_iff.1 h
    simp [e] at this
  omega
theorem idxZ_none {l : List Int} {x : Int} (hno : ∀ j, j < l.length → l[j]? ≠ some x) : idxZ l x = -1 := by
  unfold idxZ
  rw [if_neg]
  intro hm
  obtain ⟨j, hj, e⟩ := List.getElem_of_mem hm
  exact hno j hj (by rw [List.getElem?_eq_getElem hj, e])

set_option maxHeartbeats 1000000 in
theorem slIndex_any (w : World) (b1 : Nat) (v1 : Value) (l : List Int) (x : Int) (h1 : Own w b1 2 v1 (ints l)) (hl : l.length < 1000000) :
    Calls Try.prog 143 #[v1, .int .i64 x] w fun e w' => e = .returned (.int .i64 (idxZ l x)) ∧ w = w' := by
  by_cases h0 : l = []
  · subst h0
    obtain ⟨A1, c1, rfl, _, _⟩ := h1.form
    rw [ints_length]
    clear h1
    have hz := hid (idxZ_none (l := []) (x := x) (fun j hj => by simp))
    go_enter Try.func143, Try.ntmps143
    go_wp2
    go_loop [8] (fun i => i = .int .i64 0) (fun _ => 0)
    case atStart => rfl
    case round =>
      obtain rfl := hrel
      go_wp2
      go_ret
      exact ⟨retI hz.out.symm, rfl⟩
  · obtain ⟨g1, c1, rfl, _, _⟩ := h1.blk (fun e => h0 (by simpa [ints] using e))
    rw [ints_length] at h1 ⊢
    have hg := hid (fun (k : Nat) (z : Int) (hz : l[k]? = some z) => (show (ints l)[k]? = some (.int .i64 z) by simp [ints, hz]))
    replace h1 := hid h1
    clear h0
    generalize hn : l.length = n at *
    replace hn := hid hn
    go_enter Try.func143, Try.ntmps143
    go_wp2
    go_loop [8] (fun i => ∃ k : Nat, k ≤ n ∧ i = .int .i64 k ∧ Hid (∀ j, j < k → l[j]? ≠ some x)) (fun i => n - (intOf i).toNat)
    case atStart => exact ⟨0, Nat.zero_le _, rfl, fun j hj => by omega⟩
    case round =>
      obtain ⟨k, hk, rfl, hall⟩ := hrel
      by_cases hlt : k < n
      · obtain ⟨a, ha⟩ : ∃ a, l[k]? = some a := ⟨_, List.getElem?_eq_getElem (by have := hn.out; omega)⟩
        have d1 := h1.out.cellAt k _ (hg.out k a ha)
        by_cases hab : x = a
        · subst hab
          have hz := hid (idxZ_at ha hall.out)
          clear ha
          go_wp2
          go_ret
          exact ⟨retI hz.out.symm, rfl⟩
        · have hz : (x == a) = false := by simpa using hab
          have hnext : Hid (∀ j, j < k + 1 → l[j]? ≠ some x) := fun j hj => by
            by_cases e : j = k
            · subst e; rw [ha]; intro e; exact hab (Option.some.inj e).symm
            · exact hall.out j (by omega)
          clear ha hab
          go_wp2
          go_round
          case rel => exact ⟨k + 1, by omega, by go_num, hnext⟩
          case measure => simp [intOf]; omega
      · obtain rfl : k = n := by omega
        have hz := hid (idxZ_none (l := l) (x := x) (fun j hj => hall.out j (by have := hn.out; omega)))
        go_wp2
        go_ret
        exact ⟨retI hz.out.symm, rfl⟩

theorem slContains_any (w : World) (b1 : Nat) (v1 : Value) (l : List Int) (x : Int) (h1 : Own w b1 2 v1 (ints l)) (hl : l.length < 1000000) (r : Bool) (hr : Tells r (x ∈ l)) :
    Calls Try.prog 91 #[v1, .int .i64 x] w fun e w' => e = .returned (.bool r) ∧ w = w' := by
  have hi := hid (slIndex_any w b1 v1 l x h1 hl)
  have hz := hid (show idxZ l x = if x ∈ l then ((l.idxOf x : Nat) : Int) else -1 from rfl)
  have hb := (idxZ_ge l x).2
  have hb2 := (idxZ_ge l x).1
  clear h1
  generalize idxZ l x = z at *
  replace hr := hid hr
  go_enter Try.func91, Try.ntmps91
  go_wp2_with (first
    | (go_at_call 143; (with_reducible refine (hi.out).mono ?_); rintro e w1 ⟨rfl, rfl⟩))
  go_ret
  refine ⟨retB ?_, rfl⟩
  have h2 := hz.out
  by_cases hm : x ∈ l
  · rw [if_pos hm] at h2
    rw [hr.out.out.2 hm]; simp; omega
  · rw [if_neg hm] at h2
    have : r = false := by cases hr' : r with
      | false => rfl
      | true => exact absurd (hr.out.out.1 hr') hm
    rw [this]; simp; omega
end Go.Proofs.Ythempofohidlnaa
