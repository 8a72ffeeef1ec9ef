/- What the proof of FnLevels leans on, part 3 of 19. -/
import Derived.Test.YthmcdfjijkecfaaGreatZFnLevelsB
import Derived.Deep.QuietTactic
import Derived.BigQuiet
import Derived.Deep.RegionHeld3
/- The library's searches in slices of numbers: Equal, Index, Contains. -/
namespace Go.Proofs.YthmcdfjijkecfaaGreat
open Go.RowKit
set_option linter.unusedVariables false
set_option linter.unusedSimpArgs false

theorem quiet_same {P : Program} {f : FuncId} {args : Array Value} {w : World} {n : Nat} {v : Value} (h : Calls P f args (w.drewN n) fun e w' => e = .returned v ∧ w.drewN n = w') : Calls P f args (w.drewN n) fun e w'' => e = .returned v ∧ ∃ m, w'' = w.drewN m :=
  h.mono fun _ _ ⟨he, hm⟩ => ⟨he, n, hm.symm⟩
theorem drewN_add (w : World) (a b : Nat) : (w.drewN a).drewN b = w.drewN (a + b) := World.drewN_drewN w a b

set_option maxHeartbeats 1000000 in
theorem slEqual_any (w : World) (b1 b2 : Nat) (v1 v2 : Value) (x y : List Int) (h1 : Own w b1 2 v1 (ints x)) (h2 : Own w b2 2 v2 (ints y)) (hx : x.length < 1000000) (hy : y.length < 1000000) (r : Bool) (hr : Tells r (x = y)) :
    Calls Tryz.prog 186 #[v1, v2] w fun e w' => e = .returned (.bool r) ∧ ∃ d, w' = w.drewN d := by
  replace hr := hid hr
  by_cases hne : x.length = y.length
  · by_cases h0 : x = []
    · subst h0
      have hy0 : y = [] := List.eq_nil_of_length_eq_zero hne.symm
      subst hy0
      have hrt : r = true := hr.out.out.2 rfl
      subst hrt
      obtain ⟨A1, c1, rfl, _, _⟩ := h1.form
      obtain ⟨A2, c2, rfl, _, _⟩ := h2.form
      rw [ints_length]
      clear h1 h2 hr hne
      go_enter Tryz.func186, Tryz.ntmps186
      go_wp2
      go_loop [13] (fun i => i = .int .i64 0) (fun _ => 0)
      case atStart => rfl
      case round =>
        obtain rfl := hrel
        go_wp2
        go_ret
        exact ⟨rfl, 0, rfl⟩
    · have hy0 : y ≠ [] := fun e => h0 (List.eq_nil_of_length_eq_zero (by rw [hne, e]; rfl))
      obtain ⟨g1, c1, rfl, _, _⟩ := h1.blk (fun e => h0 (by simpa [ints] using e))
      obtain ⟨g2, c2, rfl, _, _⟩ := h2.blk (fun e => hy0 (by simpa [ints] using e))
      rw [ints_length] at h1 h2 ⊢
      rw [ints_length]
      rw [← hne] at h2 ⊢
      have hgx := hid (fun (k : Nat) (z : Int) (hz : x[k]? = some z) => (show (ints x)[k]? = some (.int .i64 z) by simp [ints, hz]))
      have hgy := hid (fun (k : Nat) (z : Int) (hz : y[k]? = some z) => (show (ints y)[k]? = some (.int .i64 z) by simp [ints, hz]))
      have hlx := hid (show x.length = x.length from rfl)
      replace h1 := hid h1
      replace h2 := hid h2
      replace hne := hid hne
      clear h0 hy0 hlx
      generalize hn : x.length = n at *
      have hn' := hid hn
      clear hn
      have hfalse : (n != n) = false := by simp
      go_enter Tryz.func186, Tryz.ntmps186
      go_wp2
      go_loopw [13] (fun i wr => ∃ k d : Nat, k ≤ n ∧ i = .int .i64 k ∧ wr = w.drewN d ∧ Hid (∀ j, j < k → x[j]? = y[j]?)) (fun i _ => n - (intOf i).toNat)
      case atStart => exact ⟨0, 0, Nat.zero_le _, rfl, rfl, fun j hj => by omega⟩
      case round =>
        obtain ⟨k, d, hk, rfl, rfl, hall⟩ := hrel
        by_cases hlt : k < n
        · obtain ⟨a, ha⟩ : ∃ a, x[k]? = some a := ⟨_, List.getElem?_eq_getElem (by have := hn'.out; omega)⟩
          obtain ⟨b, hb⟩ : ∃ b, y[k]? = some b := ⟨_, List.getElem?_eq_getElem (by have := hn'.out; have := hne.out; omega)⟩
          have d1 := h1.out.cellAt k _ (hgx.out k a ha)
          have d2 := h2.out.cellAt k _ (hgy.out k b hb)
          by_cases hab : a = b
          · subst hab
            have hz : (a != a) = false := by simp
            have hnext : Hid (∀ j, j < k + 1 → x[j]? = y[j]?) := fun j hj => by
              by_cases e : j = k
              · subst e; rw [ha, hb]
              · exact hall.out j (by omega)
            clear ha hb
            go_upto_region 6 with (fail)
            go_quiet (fail)
            go_wp2
            go_roundw
            case rel => exact ⟨k + 1, _, by omega, by go_num, rfl, hnext⟩
            case measure => simp [intOf]; omega
          · have hz : (a != b) = true := by rw [bne_iff_ne]; exact hab
            have hrf : r = false := by
              cases hr' : r with
              | false => rfl
              | true =>
                have := hr.out.out.1 hr'
                subst this
                rw [ha] at hb
                exact absurd (Option.some.inj hb) hab
            subst hrf
            clear ha hb
            go_upto_region 6 with (fail)
            go_quiet (fail)
            go_wp2
            go_ret
            exact ⟨rfl, _, drewN_add _ _ _⟩
        · obtain rfl : k = n := by omega
          have hrt : r = true := hr.out.out.2 (List.ext_getElem? fun j => by
            by_cases hj : j < k
            · exact hall.out j hj
            · have h1 := hn'.out; have h2 := hne.out
              rw [List.getElem?_eq_none (by omega), List.getElem?_eq_none (by omega)])
          subst hrt
          go_wp2
          go_ret
          exact ⟨rfl, _, rfl⟩
  · have hrf : r = false := by
      cases hr' : r with
      | false => rfl
      | true => exact absurd (congrArg List.length (hr.out.out.1 hr')) hne
    subst hrf
    obtain ⟨A1, c1, rfl, _, _⟩ := h1.form
    obtain ⟨A2, c2, rfl, _, _⟩ := h2.form
    rw [ints_length, ints_length]
    have hz : ((x.length : Int) != (y.length : Int)) = true := bne_iff_ne.2 fun e => hne (Int.ofNat.inj e)
    clear h1 h2 hr hne
    go_enter Tryz.func186, Tryz.ntmps186
    go_wp2
    go_ret
    exact ⟨rfl, 0, rfl⟩

/-- Where a number is first met, or -1. -/
def idxZ (l : List Int) (x : Int) : Int := if x ∈ l then ((l.idxOf x : Nat) : Int) else -1
theorem idxZ_ge (l : List Int) (x : Int) : -1 ≤ idxZ l x ∧ idxZ l x ≤ l.length := by
  unfold idxZ; split
  · have := List.idxOf_le_length (a := x) (l := l); omega
  · omega
theorem idxZ_at {l : List Int} {x : Int} {k : Nat} (h : l[k]? = some x) (hno : ∀ j, j < k → l[j]? ≠ some x) : idxZ l x = (k : Int) := by
  have hm : x ∈ l := List.mem_of_getElem? h
  have hlt := List.idxOf_lt_length_of_mem hm
  have h1 : l[l.idxOf x]? = some x := by rw [List.getElem?_eq_getElem hlt, List.getElem_idxOf hlt]
  unfold idxZ
  rw [if_pos hm]
  have h2 : ¬ l.idxOf x < k := fun h' => hno _ h' h1
  have h3 : ¬ k < l.idxOf x := fun h' => by
    have := List.not_of_lt_findIdx (p := (· == x)) (xs := l) h'
    obtain ⟨hk, e⟩ := List.getElem?_eq_some_iff.1 h
    simp [e] at this
  omega
theorem idxZ_none {l : List Int} {x : Int} (hno : ∀ j, j < l.length → l[j]? ≠ some x) : idxZ l x = -1 := by
  unfold idxZ
  rw [if_neg]
  intro hm
  obtain ⟨j, hj, e⟩ := List.getElem_of_mem hm
  exact hno j hj (by rw [List.getElem?_eq_getElem hj, e])

set_option maxHeartbeats 1000000 in
theorem slIndex_any (w : World) (b1 : Nat) (v1 : Value) (l : List Int) (x : Int) (h1 : Own w b1 2 v1 (ints l)) (hl : l.length < 1000000) :
    Calls Tryz.prog 207 #[v1, .int .i64 x] w fun e w' => e = .returned (.int .i64 (idxZ l x)) ∧ w = w' := by
  by_cases h0 : l = []
  · subst h0
    obtain ⟨A1, c1, rfl, _, _⟩ := h1.form
    rw [ints_length]
    clear h1
    have hz := hid (idxZ_none (l := []) (x := x) (fun j hj => by simp))
    go_enter Tryz.func207, Tryz.ntmps207
    go_wp2
    go_loop [8] (fun i => i = .int .i64 0) (fun _ => 0)
    case atStart => rfl
    case round =>
      obtain rfl := hrel
      go_wp2
      go_ret
      exact ⟨retI hz.out.symm, rfl⟩
  · obtain ⟨g1, c1, rfl, _, _⟩ := h1.blk (fun e => h0 (by simpa [ints] using e))
    rw [ints_length] at h1 ⊢
    have hg := hid (fun (k : Nat) (z : Int) (hz : l[k]? = some z) => (show (ints l)[k]? = some (.int .i64 z) by simp [ints, hz]))
    replace h1 := hid h1
    clear h0
    generalize hn : l.length = n at *
    replace hn := hid hn
    go_enter Tryz.func207, Tryz.ntmps207
    go_wp2
    go_loop [8] (fun i => ∃ k : Nat, k ≤ n ∧ i = .int .i64 k ∧ Hid (∀ j, j < k → l[j]? ≠ some x)) (fun i => n - (intOf i).toNat)
    case atStart => exact ⟨0, Nat.zero_le _, rfl, fun j hj => by omega⟩
    case round =>
      obtain ⟨k, hk, rfl, hall⟩ := hrel
      by_cases hlt : k < n
      · obtain ⟨a, ha⟩ : ∃ a, l[k]? = some a := ⟨_, List.getElem?_eq_getElem (by have := hn.out; omega)⟩
        have d1 := h1.out.cellAt k _ (hg.out k a ha)
        by_cases hab : x = a
        · subst hab
          have hz := hid (idxZ_at ha hall.out)
          clear ha
          go_wp2
          go_ret
          exact ⟨retI hz.out.symm, rfl⟩
        · have hz : (x == a) = false := by simpa using hab
          have hnext : Hid (∀ j, j < k + 1 → l[j]? ≠ some x) := fun j hj => by
            by_cases e : j = k
            · subst e; rw [ha]; intro e; exact hab (Option.some.inj e).symm
            · exact hall.out j (by omega)
          clear ha hab
          go_wp2
          go_round
          case rel => exact ⟨k + 1, by omega, by go_num, hnext⟩
          case measure => simp [intOf]; omega
      · obtain rfl : k = n := by omega
        have hz := hid (idxZ_none (l := l) (x := x) (fun j hj => hall.out j (by have := hn.out; omega)))
        go_wp2
        go_ret
        exact ⟨retI hz.out.symm, rfl⟩

theorem slContains_any (w : World) (b1 : Nat) (v1 : Value) (l : List Int) (x : Int) (h1 : Own w b1 2 v1 (ints l)) (hl : l.length < 1000000) (r : Bool) (hr : Tells r (x ∈ l)) :
    Calls Tryz.prog 116 #[v1, .int .i64 x] w fun e w' => e = .returned (.bool r) ∧ w = w' := by
  have hi := hid (slIndex_any w b1 v1 l x h1 hl)
  have hz := hid (show idxZ l x = if x ∈ l then ((l.idxOf x : Nat) : Int) else -1 from rfl)
  have hb := (idxZ_ge l x).2
  have hb2 := (idxZ_ge l x).1
  clear h1
  generalize idxZ l x = z at *
  replace hr := hid hr
  go_enter Tryz.func116, Tryz.ntmps116
  go_wp2_with (first
    | (go_at_call 207; (with_reducible refine (hi.out).mono ?_); rintro e w1 ⟨rfl, rfl⟩))
  go_ret
  refine ⟨retB ?_, rfl⟩
  have h2 := hz.out
  by_cases hm : x ∈ l
  · rw [if_pos hm] at h2
    rw [hr.out.out.2 hm]; simp; omega
  · rw [if_neg hm] at h2
    have : r = false := by cases hr' : r with
      | false => rfl
      | true => exact absurd (hr.out.out.1 hr') hm
    rw [this]; simp; omega
end Go.Proofs.YthmcdfjijkecfaaGreat

/- slices.IndexFunc and ContainsFunc for any function that answers of its element alone. -/
namespace Go.Proofs.YthmcdfjijkecfaaGreat
open Go.RowKit
set_option linter.unusedVariables false
set_option linter.unusedSimpArgs false

/-- The first place, from i on, of which p is told; or -1. -/
def idxP {α : Type} (p : α → Bool) : List α → Int → Int
  | [], _ => -1
  | x :: t, i => if p x then i else idxP p t (i + 1)
theorem idxP_drop_t {α : Type} {p : α → Bool} {l : List α} {k : Nat} {x : α} (hx : l[k]? = some x) (hp : p x = true) (i : Int) : idxP p (l.drop k) i = i := by
  have hk := (List.getElem?_eq_some_iff.1 hx).1
  rw [List.drop_eq_getElem_cons hk, (List.getElem?_eq_some_iff.1 hx).2]
  unfold idxP; rw [if_pos hp]
theorem idxP_drop_f {α : Type} {p : α → Bool} {l : List α} {k : Nat} {x : α} (hx : l[k]? = some x) (hp : p x = false) (i : Int) : idxP p (l.drop k) i = idxP p (l.drop (k + 1)) (i + 1) := by
  have hk := (List.getElem?_eq_some_iff.1 hx).1
  rw [List.drop_eq_getElem_cons hk, (List.getElem?_eq_some_iff.1 hx).2]
  conv => lhs; unfold idxP
  rw [hp]; rfl
theorem idxP_any {α : Type} (p : α → Bool) : ∀ (l : List α) (i : Int), 0 ≤ i → (0 ≤ idxP p l i ↔ l.any p = true)
  | [], _, _ => by simp [idxP]
  | x :: t, i, hi => by
    unfold idxP
    by_cases h : p x = true
    · rw [if_pos h]; simp [h, hi]
    · have hf : p x = false := by simpa using h
      rw [if_neg h, idxP_any p t (i + 1) (by omega)]
      simp [hf]
theorem idxP_lt {α : Type} (p : α → Bool) : ∀ (l : List α) (i : Int), -1 ≤ i → -1 ≤ idxP p l i ∧ idxP p l i < i + l.length ∨ idxP p l i = -1
  | [], i, _ => .inr rfl
  | x :: t, i, hi => by
    unfold idxP
    by_cases h : p x = true
    · rw [if_pos h]; left; simp; omega
    · rw [if_neg h]
      rcases idxP_lt p t (i + 1) (by omega) with ⟨h1, h2⟩ | h1
      · left; simp; omega
      · exact .inr h1

end Go.Proofs.YthmcdfjijkecfaaGreat

/- The code of a machine, a word and states. -/
namespace Go.Proofs.YthmcdfjijkecfaaGreat
open Go.RowKit
set_option linter.unusedVariables false
set_option linter.unusedSimpArgs false

/-- A text is a word for d letters. -/
def IsWd (d : Int) (ws : ByteArray) : Prop := ws.size ≤ 40 ∧ ∀ k (h : k < ws.size), 48 ≤ (ws[k]'h).toNat ∧ ((ws[k]'h).toNat : Int) - 48 < d

theorem wstr_of_bytes (ws : ByteArray) (h : ∀ k (h : k < ws.size), 48 ≤ (ws[k]'h).toNat) : ws = wstr (ws.data.toList.map fun b => b.toNat - 48) := by
  have hs : ws.data.size = ws.size := rfl
  apply ByteArray.ext
  apply Array.ext
  · simp [wstr, strOfNums]
  · intro i h1 h2
    have := h i h1
    have e : (ws[i]'h1) = ws.data[i] := rfl
    rw [e] at this
    simp only [wstr, strOfNums, List.map_map, List.getElem_toArray, List.getElem_map, Function.comp, Array.getElem_toList]
    apply UInt8.toNat_inj.1
    rw [UInt8.toNat_ofNat']
    have := UInt8.toNat_lt (ws.data[i])
    omega

/-- A word's letters. -/
theorem IsWd.letters {d : Int} {ws : ByteArray} (h : IsWd d ws) : ∃ u : List Nat, ws = wstr u ∧ (∀ x ∈ u, (x : Int) < d) ∧ u.length ≤ 40 := by
  refine ⟨_, wstr_of_bytes ws (fun k hk => (h.2 k hk).1), fun x hx => ?_, by simpa using h.1⟩
  obtain ⟨b, hb, rfl⟩ := List.mem_map.1 hx
  obtain ⟨k, hk, rfl⟩ := List.getElem_of_mem hb
  have hk' : k < ws.size := by simpa using hk
  have := h.2 k hk'
  have e : ws.data.toList[k] = ws[k]'hk' := by rw [Array.getElem_toList]; rfl
  rw [e]
  omega
theorem isWd_wstr {d : Int} {u : List Nat} (hu : ∀ x ∈ u, (x : Int) < d) (hd : d ≤ 200) (hl : u.length ≤ 40) : IsWd d (wstr u) := by
  refine ⟨by rw [wstr_size]; exact hl, fun k hk => ?_⟩
  have hk' : k < u.length := by rwa [wstr_size] at hk
  have hm := hu _ (getD_mem u k hk')
  rw [wstr_byte u k hk (fun x hx => by have := hu x hx; omega)]
  omega
theorem isWd_nil (d : Int) : IsWd d { data := #[] } := ⟨by decide, fun k h => absurd h (by simp [ByteArray.size])⟩

open Classical in
/-- The code of a machine, a word and states. -/
noncomputable def codeI (m : Mach) (ws : ByteArray) (qs : List Int) : Int := if IsM m ∧ IsWd m.L ws then if ∀ q ∈ qs, 0 ≤ q ∧ q < m.S then 0 else 2 else 1

set_option maxHeartbeats 1000000 in
set_option maxRecDepth 100000 in
theorem isWord_any (d : Int) (_ : 2 ≤ d) (_ : d ≤ 3) (ws : ByteArray) (hws : ws.size < 1000000000000) (r : Bool) (hr : Tells r (IsWd d ws)) (w : World) :
    Calls Tryz.prog 134 #[.int .i64 d, .string ws] w fun e w' => e = .returned (.bool r) ∧ w = w' := by
  replace hr := hid hr
  go_enter Tryz.func134, Tryz.ntmps134
  go_wp2
  go_loop [8] (fun i => ∃ k : Nat, k ≤ ws.size ∧ i = .int .i64 k ∧ Hid (∀ j (h : j < ws.size), j < k → 48 ≤ (ws[j]'h).toNat ∧ ((ws[j]'h).toNat : Int) - 48 < d)) (fun i => ws.size - (intOf i).toNat)
  case atStart => exact ⟨0, Nat.zero_le _, rfl, fun j _ h => absurd h (by omega)⟩
  case round =>
    obtain ⟨k, hk, rfl, hall⟩ := hrel
    by_cases hlt : k < ws.size
    · have hstep : (48 ≤ (ws[k]'hlt).toNat ∧ ((ws[k]'hlt).toNat : Int) - 48 < d) → Hid (∀ j (h : j < ws.size), j < k + 1 → 48 ≤ (ws[j]'h).toNat ∧ ((ws[j]'h).toNat : Int) - 48 < d) := fun hc j hj hjk => by
        by_cases e : j = k
        · subst e; exact hc
        · exact hall.out j hj (by omega)
      have hfail : ¬ (48 ≤ (ws[k]'hlt).toNat ∧ ((ws[k]'hlt).toNat : Int) - 48 < d) → r = false := fun hc => by
        cases r
        · rfl
        · exact absurd ((hr.out.out.1 rfl).2 k hlt) hc
      have hbl := UInt8.toNat_lt (ws[k]'hlt)
      generalize hb : (ws[k]'hlt).toNat = b at *
      replace hstep := hid hstep
      by_cases h48 : 48 ≤ b
      · obtain ⟨x, rfl⟩ := Nat.exists_eq_add_of_le h48
        have e1 : 48 + (x : Int) - 48 = x := by omega
        by_cases hxd : (x : Int) < d
        · clear hfail
          go_wp2
          go_round
          case rel => exact ⟨k + 1, by omega, by go_num, hstep.out ⟨by omega, by omega⟩⟩
          case measure => simp [intOf]; omega
        · have hf := hfail (fun hc => hxd (by omega))
          subst hf
          have dx : decide ((x : Int) ≥ d) = true := decide_eq_true (by omega)
          clear hfail
          go_wp2
          go_ret
          exact ⟨rfl, rfl⟩
      · have hf := hfail (fun hc => h48 hc.1)
        subst hf
        have dx : decide ((b : Int) < 48) = true := decide_eq_true (by omega)
        clear hfail
        go_wp2
        go_ret
        exact ⟨rfl, rfl⟩
    · obtain rfl : k = ws.size := by omega
      have hrr : r = decide ((ws.size : Int) ≤ 40) := by
        have h1 := hr.out.out
        cases r
        · rw [eq_comm, decide_eq_false_iff_not]
          intro hle
          have := h1.2 ⟨by omega, fun j hj => hall.out j hj hj⟩
          cases this
        · have := (h1.1 rfl).1
          rw [eq_comm, decide_eq_true_iff]
          omega
      replace hrr := hid hrr
      go_wp2
      go_ret
      exact ⟨retB hrr.out.symm, rfl⟩

set_option maxHeartbeats 1000000 in
theorem isState_any (b : Nat) (w : World) (m : Mach) (hm : MB w 27 b m) (l s : Nat) (g : Good m l s) (q : Int) (r : Bool) (hr : r = decide (0 ≤ q ∧ q < s)) :
    Calls Tryz.prog 175 #[.pointer (some ⟨b, 0, none⟩), .int .i64 q] w fun e w' => e = .returned (.bool r) ∧ w = w' := by
  have cS := hm.cS
  rw [g.S] at cS
  have s16 := g.s16
  have s1 := g.s1
  have hin := hid (fun W => within_any q 0 ((s : Int) - 1) r (by rw [hr]; congr 1; apply propext; omega) W)
  clear hm g hr
  go_enter Tryz.func175, Tryz.ntmps175
  go_wp2_with (first
    | (go_at_call 86; (with_reducible refine (hin.out _).mono ?_); rintro e w1 ⟨rfl, rfl⟩))
  go_ret
  exact ⟨rfl, rfl⟩

theorem codeI_2 {m : Mach} {l s : Nat} {ws : ByteArray} {qs : List Int} (g : Good m l s) (hw : IsWd l ws) (hq : ¬ ∀ q ∈ qs, 0 ≤ q ∧ q < (s : Int)) : codeI m ws qs = 2 := by
  unfold codeI; rw [g.L, g.S, if_pos ⟨g.isM, hw⟩, if_neg hq]
theorem codeI_0 {m : Mach} {l s : Nat} {ws : ByteArray} {qs : List Int} (g : Good m l s) (hw : IsWd l ws) (hq : ∀ q ∈ qs, 0 ≤ q ∧ q < (s : Int)) : codeI m ws qs = 0 := by
  unfold codeI; rw [g.L, g.S, if_pos ⟨g.isM, hw⟩, if_pos hq]
theorem codeI_w {m : Mach} {l s : Nat} {ws : ByteArray} {qs : List Int} (g : Good m l s) (hw : ¬ IsWd l ws) : codeI m ws qs = 1 := by
  unfold codeI; rw [g.L, if_neg (fun h => hw h.2)]
theorem codeI_1 {m : Mach} {ws : ByteArray} {qs : List Int} (hm : ¬ IsM m) : codeI m ws qs = 1 := by
  unfold codeI; rw [if_neg (fun h => hm h.1)]

set_option maxHeartbeats 1000000 in
theorem codeOf1_any (b : Nat) (w : World) (m : Mach) (hm : MB w 27 b m) (l s : Nat) (g : Good m l s) (q : Int) (r : Bool) (hr : r = decide (0 ≤ q ∧ q < s)) :
    Calls Tryz.prog 181 #[.int .i64 q, .pointer (some ⟨b, 0, none⟩)] w fun e w' => e = .returned (.bool (!r)) ∧ w = w' := by
  have hin := hid (isState_any b w m hm l s g q r hr)
  clear hm g hr
  go_enter Tryz.func181, Tryz.ntmps181
  go_wp2_with (first
    | (go_at_call 175; (with_reducible refine (hin.out).mono ?_); rintro e w1 ⟨rfl, rfl⟩))
  go_ret
  exact ⟨rfl, rfl⟩

/-- What is found: a place that tells of something that is no state, or -1. -/
def Found (s : Nat) (qs : List Int) (r : Int) : Prop := -1 ≤ r ∧ r < 1000000 ∧ (0 ≤ r ↔ ¬ ∀ q ∈ qs, 0 ≤ q ∧ q < (s : Int))
set_option maxHeartbeats 1000000 in
set_option maxRecDepth 100000 in
theorem indexFunc_states (b : Nat) (w : World) (m : Mach) (hm : MB w 27 b m) (l s : Nat) (g : Good m l s) (base : Nat) (v : Value) (qs : List Int) (h : Own w base 2 v (ints qs)) (hl : qs.length < 1000000) :
    Calls Tryz.prog 232 #[v, .func (.func 181) #[] #[.pointer (some ⟨b, 0, none⟩)]] w fun e w' => ∃ r : Int, e = .returned (.int .i64 r) ∧ Found s qs r ∧ w = w' := by
  have hil := ints_length qs
  have hone := hid (fun q r hr => codeOf1_any b w m hm l s g q r hr)
  clear hm g
  by_cases hne : qs = []
  · subst hne
    obtain ⟨A1, c1, rfl, _, _⟩ := h.form
    rw [hil]
    clear h
    go_enter Tryz.func232, Tryz.ntmps232
    go_wp2
    go_loop [8] (fun i => i = .int .i64 0) (fun _ => 0)
    case atStart => rfl
    case round =>
      obtain rfl := hrel
      go_wp2
      go_ret
      exact ⟨_, rfl, ⟨by omega, by omega, fun h => absurd h (by omega), fun h => absurd (fun q hq => by simp at hq) h⟩, rfl⟩
  · have hne' : ints qs ≠ [] := fun e => hne (by rw [← List.length_eq_zero_iff, ← hil, e]; rfl)
    obtain ⟨g1, c1, rfl, _, hg1⟩ := h.blk hne'
    rw [hil] at h ⊢
    have hget := hid (fun (k : Nat) (x : Int) (hx : qs[k]? = some x) => (show (ints qs)[k]? = some (.int .i64 x) by simp [ints, hx]))
    replace h := hid h
    clear hne hne' hil
    generalize hn : qs.length = n at *
    go_enter Tryz.func232, Tryz.ntmps232
    go_wp2
    go_loop [8] (fun i => ∃ k : Nat, k ≤ n ∧ i = .int .i64 k ∧ Hid (∀ j x, j < k → qs[j]? = some x → 0 ≤ x ∧ x < (s : Int))) (fun i => n - (intOf i).toNat)
    case atStart => exact ⟨0, Nat.zero_le _, rfl, fun j x h => absurd h (by omega)⟩
    case round =>
      obtain ⟨k, hk, rfl, hall⟩ := hrel
      by_cases hlt : k < n
      · obtain ⟨x, hx⟩ : ∃ x, qs[k]? = some x := ⟨_, List.getElem?_eq_getElem (by omega)⟩
        have d1 := h.out.cellAt k _ (hget.out k x hx)
        by_cases hv : 0 ≤ x ∧ x < (s : Int)
        · have hc := hid (hone.out x true (decide_eq_true hv).symm)
          have hnext : Hid (∀ j x, j < k + 1 → qs[j]? = some x → 0 ≤ x ∧ x < (s : Int)) := fun j y hj hy => by
            by_cases e : j = k
            · subst e; rw [hx] at hy; injection hy with hy; subst hy; exact hv
            · exact hall.out j y (by omega) hy
          clear hx hv
          go_wp2_with (first
            | (go_at_call 181; (with_reducible refine (hc.out).mono ?_); rintro e w1 ⟨rfl, rfl⟩))
          go_round
          case rel => exact ⟨k + 1, by omega, by go_num, hnext⟩
          case measure => simp [intOf]; omega
        · have hc := hid (hone.out x false (decide_eq_false hv).symm)
          have hbad : Hid (¬ ∀ q ∈ qs, 0 ≤ q ∧ q < (s : Int)) := fun h => hv (h x (List.mem_of_getElem? hx))
          clear hx hv
          go_wp2_with (first
            | (go_at_call 181; (with_reducible refine (hc.out).mono ?_); rintro e w1 ⟨rfl, rfl⟩))
          go_ret
          exact ⟨_, rfl, ⟨by omega, by omega, fun _ => hbad.out, fun _ => by omega⟩, rfl⟩
      · obtain rfl : k = n := by omega
        have hok : Hid (∀ q ∈ qs, 0 ≤ q ∧ q < (s : Int)) := fun q hq => by
          obtain ⟨j, hj, e⟩ := List.getElem_of_mem hq
          exact hall.out j q (by omega) (by rw [← e]; exact List.getElem?_eq_getElem hj)
        go_wp2
        go_ret
        refine ⟨_, rfl, ⟨by omega, by omega, fun h => absurd h (by omega), fun h => ?_⟩, rfl⟩
        exact absurd hok.out h

set_option maxHeartbeats 1000000 in
theorem containsFunc_states (b : Nat) (w : World) (m : Mach) (hm : MB w 27 b m) (l s : Nat) (g : Good m l s) (base : Nat) (v : Value) (qs : List Int) (h : Own w base 2 v (ints qs)) (hl : qs.length < 1000000)
    (c : Bool) (hc : Tells c (∀ q ∈ qs, 0 ≤ q ∧ q < (s : Int))) :
    Calls Tryz.prog 180 #[v, .func (.func 181) #[] #[.pointer (some ⟨b, 0, none⟩)]] w fun e w' => e = .returned (.bool (!c)) ∧ w = w' := by
  have hi := hid (indexFunc_states b w m hm l s g base v qs h hl)
  clear hm g h hl
  replace hc := hid hc
  go_enter Tryz.func180, Tryz.ntmps180
  go_wp2_with (first
    | (go_at_call 232; (with_reducible refine (hi.out).mono ?_); rintro e w1 ⟨r, rfl, hr, rfl⟩; replace hr := hid hr))
  go_ret
  refine ⟨retB ?_, rfl⟩
  have h1 := hr.out.2.2
  have h2 := hc.out.out
  cases c
  · have : 0 ≤ r := h1.2 (fun h => by have := h2.2 h; cases this)
    simp; omega
  · have : ¬ 0 ≤ r := fun h => (h1.1 h) (h2.1 rfl)
    simp; omega

set_option maxHeartbeats 2000000 in
set_option maxRecDepth 100000 in
theorem codeOf_any (w : World) (m : Mach) (hk : m.Ok) (ws : ByteArray) (hws : ws.size < 1000000000000) (base : Nat) (v : Value) (qs : List Int) (h : Own w base 2 v (ints qs)) (hl : qs.length < 1000000) :
    Calls Tryz.prog 85 #[.agg (mcells m), .string ws, v] w fun e w' => e = .returned (.int .i64 (codeI m ws qs)) ∧ Below w.heap.size w w' := by
  have hM := hid (MB.new w m 27)
  have hO := hid (h.alloc (.cells (mcells m) 27))
  have hB := hid (below_alloc (Below.refl w.heap.size w) (Nat.le_refl _) (.cells (mcells m) 27))
  have hmf : ∀ (fn : Fn) (first cap : Array Value) (w : World), (Instr.makeFunc fn first cap).run Tryz.prog w = .ok (.func fn first cap) w := fun _ _ _ _ => rfl
  clear h
  by_cases hm : IsM m
  · obtain ⟨l, s, g⟩ := hm.good
    have hi := hid (show Tells true (IsM m) from ⟨fun _ => hm, fun _ => rfl⟩)
    have l2 := g.l2
    have l3 := g.l3
    have gL := hid g.L
    by_cases hw : IsWd l ws
    · have hwd := hid (fun W => isWord_any l (by omega) (by omega) ws hws true ⟨fun _ => hw, fun _ => rfl⟩ W)
      by_cases hq : ∀ q ∈ qs, 0 ≤ q ∧ q < (s : Int)
      · rw [codeI_0 g hw hq]
        have hcf := hid (fun W hM hO => containsFunc_states w.heap.size W m hM l s g base v qs hO hl true ⟨fun _ => hq, fun _ => rfl⟩)
        replace hk := hid hk; replace g := hid g; clear hm hw hq
        go_enter Tryz.func85, Tryz.ntmps85
        go_wp2_with (first
          | ((with_reducible refine gate (N := 8) rfl ?_); refine load_mach rfl _ rfl w.heap.size rfl m hM.out ?_)
          | (go_at_call 97; (with_reducible refine (IsMachine_any _ m hk.out true hi.out.out).mono ?_); rintro e w1 ⟨rfl, hb⟩; have hM2 := hid (hM.out.below hb hM.out.lt); have hO2 := hid (hO.out.below hb); have hB2 := hid (hB.out.trans (hb.mono hB.out.size)); have cL := hM2.out.cL; rw [gL.out] at cL; clear hb hM hB hO hi)
          | (go_at_call 134; (with_reducible refine (hwd.out _).mono ?_); rintro e w3 ⟨rfl, rfl⟩)
          | (go_at_call 180; (with_reducible refine (hcf.out _ hM2.out hO2.out).mono ?_); rintro e w4 ⟨rfl, rfl⟩))
        go_ret
        exact ⟨rfl, hB2.out⟩
      · rw [codeI_2 g hw hq]
        have hcf := hid (fun W hM hO => containsFunc_states w.heap.size W m hM l s g base v qs hO hl false ⟨fun h => (by cases h), fun h => absurd h hq⟩)
        replace hk := hid hk; replace g := hid g; clear hm hw hq
        go_enter Tryz.func85, Tryz.ntmps85
        go_wp2_with (first
          | ((with_reducible refine gate (N := 8) rfl ?_); refine load_mach rfl _ rfl w.heap.size rfl m hM.out ?_)
          | (go_at_call 97; (with_reducible refine (IsMachine_any _ m hk.out true hi.out.out).mono ?_); rintro e w1 ⟨rfl, hb⟩; have hM2 := hid (hM.out.below hb hM.out.lt); have hO2 := hid (hO.out.below hb); have hB2 := hid (hB.out.trans (hb.mono hB.out.size)); have cL := hM2.out.cL; rw [gL.out] at cL; clear hb hM hB hO hi)
          | (go_at_call 134; (with_reducible refine (hwd.out _).mono ?_); rintro e w3 ⟨rfl, rfl⟩)
          | (go_at_call 180; (with_reducible refine (hcf.out _ hM2.out hO2.out).mono ?_); rintro e w4 ⟨rfl, rfl⟩))
        go_ret
        exact ⟨rfl, hB2.out⟩
    · rw [codeI_w g hw]
      have hwd := hid (fun W => isWord_any l (by omega) (by omega) ws hws false ⟨fun h => (by cases h), fun h => absurd h hw⟩ W)
      replace hk := hid hk; replace g := hid g; clear hm hw
      go_enter Tryz.func85, Tryz.ntmps85
      go_wp2_with (first
        | ((with_reducible refine gate (N := 8) rfl ?_); refine load_mach rfl _ rfl w.heap.size rfl m hM.out ?_)
        | (go_at_call 97; (with_reducible refine (IsMachine_any _ m hk.out true hi.out.out).mono ?_); rintro e w1 ⟨rfl, hb⟩; have hM2 := hid (hM.out.below hb hM.out.lt); have hB2 := hid (hB.out.trans (hb.mono hB.out.size)); have cL := hM2.out.cL; rw [gL.out] at cL; clear hb hM hB hO hi)
        | (go_at_call 134; (with_reducible refine (hwd.out _).mono ?_); rintro e w3 ⟨rfl, rfl⟩))
      go_ret
      exact ⟨rfl, hB2.out⟩
  · rw [codeI_1 hm]
    have hi := hid (show Tells false (IsM m) from ⟨fun h => (by cases h), fun h => absurd h hm⟩)
    replace hk := hid hk; clear hm
    go_enter Tryz.func85, Tryz.ntmps85
    go_wp2_with (first
      | ((with_reducible refine gate (N := 8) rfl ?_); refine load_mach rfl _ rfl w.heap.size rfl m hM.out ?_)
      | (go_at_call 97; (with_reducible refine (IsMachine_any _ m hk.out false hi.out.out).mono ?_); rintro e w1 ⟨rfl, hb⟩; have hB2 := hid (hB.out.trans (hb.mono hB.out.size)); clear hb hM hB hO hi))
    go_ret
    exact ⟨rfl, hB2.out⟩
end Go.Proofs.YthmcdfjijkecfaaGreat

/- Regions that draw their order: a load may be taken first where its cell is as it was as long as the operation that waits for it has not come up. (The kit's OrdersHeld law, with a condition that falls away when it has served.) -/
namespace Go.Proofs.YthmcdfjijkecfaaGreat
open Go.RowKit
set_option linter.unusedVariables false
set_option linter.unusedSimpArgs false

/-- What is kept of the world, each as long as one operation has not come up. -/
def HeldL (L : List (Nat × (World → Prop))) (listed : Array Bool) (w : World) : Prop := ∀ p, p ∈ L → listed.getD p.1 true = false → p.2 w

section
variable {P : Program} {ops : Array Oper} {Q : Exit → Act → World → Prop} {md : Region.Mode} {L : List (Nat × (World → Prop))}

def wpAnyL (P : Program) (md : Region.Mode) (ops : Array Oper) (Q : Exit → Act → World → Prop) (L : List (Nat × (World → Prop))) : Nat → Array Bool → Act → World → Prop
  | 0, listed, a, w => Region.ready md ops listed = [] ∧ Q .normal a w
  | fuel + 1, listed, a, w =>
    (Region.ready md ops listed = [] → Q .normal a w) ∧
    ∀ i, i ∈ Region.ready md ops listed → wpOp P ops Q i (fun a' w' => HeldL L (listed.setIfInBounds i true) w' ∧ wpAnyL P md ops Q L fuel (listed.setIfInBounds i true) a' w') a w

theorem wpAny_of_L : ∀ (fuel : Nat) (listed : Array Bool) (a : Act) (w : World), wpAnyL P md ops Q L fuel listed a w → wpAny P md ops Q fuel listed a w
  | 0, _, _, _, h => h
  | fuel + 1, _, _, _, h => ⟨h.1, fun i hi => wpOp_mono (fun a' w' h' => wpAny_of_L fuel _ a' w' h'.2) (h.2 i hi)⟩

/-- When the condition T may be leaned on. -/
def Leans (md : Region.Mode) (ops : Array Oper) (L : List (Nat × (World → Prop))) (i : Nat) (T : World → Prop) (listed : Array Bool) : Prop :=
  (∀ w, T w) ∨ ∃ k ok, (k, T) ∈ L ∧ k ≠ i ∧ ops[k]? = some ok ∧ (∃ e, e ∈ ok.after ∧ Region.binds md e = true ∧ e.on = i) ∧ listed.getD k true = false

theorem Leans.holds {i : Nat} {T : World → Prop} {listed : Array Bool} {w : World} (h : Leans md ops L i T listed) (hS : HeldL L listed w) : T w := by
  rcases h with h | ⟨k, ok, hm, _, _, _, hl⟩
  · exact h w
  · exact hS (k, T) hm hl

theorem wpAnyL_first {i : Nat} {oi : Oper} {v : Value} {T : World → Prop} (hi : ops[i]? = some oi) (hsel : ∀ (j : Nat) (o : Oper) cs b, ops[j]? = some o → o.op ≠ .select cs b)
    (hQ : ∀ c a w, Q (.panic c) (a.put oi.dst v) w → Q (.panic c) a w) (hne : ∀ p, p ∈ L → p.1 ≠ i) :
    ∀ (fuel : Nat) (listed : Array Bool) (a : Act) (w : World),
      (∀ j oj, ops[j]? = some oj → j ≠ i → listed.getD j true = false → (∀ e ∈ oj.after, Region.binds md e = true → e.on ≠ i) → oi.apart ops oj = true) →
      i ∈ Region.ready md ops listed → Leans md ops L i T listed → YieldsIf P ops T oi v a → HeldL L listed w →
      HeldL L (listed.setIfInBounds i true) w → wpAnyL P md ops Q L fuel (listed.setIfInBounds i true) (a.put oi.dst v) w → wpAnyL P md ops Q L (fuel + 1) listed a w := by
  intro fuel
  induction fuel with
  | zero =>
    intro listed a w _ hr hT hy hS hS' H
    refine ⟨fun h => (by rw [h] at hr; cases hr), fun j hj => ?_⟩
    by_cases hji : j = i
    · subst hji; exact hy.wpOp hi (hT.holds hS) ⟨hS', H⟩
    · have := ready_mono hj hji
      rw [H.1] at this
      cases this
  | succ fuel ih =>
    intro listed a w hfree hr hT hy hS hS' H
    refine ⟨fun h => (by rw [h] at hr; cases hr), fun j hj => ?_⟩
    by_cases hji : j = i
    · subst hji; exact hy.wpOp hi (hT.holds hS) ⟨hS', H⟩
    · have h1 := H.2 j (ready_mono hj hji)
      obtain ⟨hjun, oj, hoj, hall⟩ := mem_ready.1 hj
      have hnot : ∀ e ∈ oj.after, Region.binds md e = true → e.on ≠ i := fun e he hb heq => by
        have h1 := hall e he hb
        have h0 := (mem_ready.1 hr).1
        rw [heq] at h1
        rcases Nat.lt_or_ge i listed.size with h' | h'
        · simp [h'] at h0 h1; rw [h0] at h1; cases h1
        · simp [Array.getElem?_eq_none h'] at h1
      have h2 := wpOp_putIf hoj (hfree j oj hoj hji hjun hnot) (fun cs b => hsel i oi cs b hi) (fun cs b => hsel j oj cs b hoj) hQ hy h1
      have hfree' : ∀ k ok, ops[k]? = some ok → k ≠ i → (listed.setIfInBounds j true).getD k true = false →
          (∀ e ∈ ok.after, Region.binds md e = true → e.on ≠ i) → oi.apart ops ok = true := fun k ok hk hki hun hno => by
        refine hfree k ok hk hki ?_ hno
        by_cases hjk : j = k
        · subst hjk; exact hjun
        · rw [getD_set_ne true hjk] at hun; exact hun
      have hT' : Leans md ops L i T (listed.setIfInBounds j true) := by
        rcases hT with h | ⟨k, ok, hm, hki, hk, ⟨e, he, hb, heq⟩, hl⟩
        · exact .inl h
        · refine .inr ⟨k, ok, hm, hki, hk, ⟨e, he, hb, heq⟩, ?_⟩
          have hjk : j ≠ k := fun ejk => by
            subst ejk
            rw [hoj] at hk
            injection hk with hk
            subst hk
            exact hnot e he hb heq
          rw [getD_set_ne true hjk]; exact hl
      refine wpOp_mono (fun a' w' h3 => ?_) h2
      have hS2 : HeldL L ((listed.setIfInBounds j true).setIfInBounds i true) w' := by rw [Array.setIfInBounds_comm _ _ hji]; exact h3.2.1
      have hS1 : HeldL L (listed.setIfInBounds j true) w' := fun p hp hl => hS2 p hp (by rw [getD_set_ne true (Ne.symm (hne p hp))]; exact hl)
      refine ⟨hS1, ih (listed.setIfInBounds j true) a' w' hfree' (ready_mono hr (Ne.symm hji)) hT' h3.1 hS1 hS2 ?_⟩
      rw [Array.setIfInBounds_comm _ _ hji]
      exact h3.2.2

theorem HeldL.more {listed : Array Bool} {w : World} {i : Nat} (hne : ∀ p, p ∈ L → p.1 ≠ i) (h : HeldL L listed w) : HeldL L (listed.setIfInBounds i true) w := fun p hp hl => h p hp (by rwa [getD_set_ne true (Ne.symm (hne p hp))] at hl)

/-- Take number i first: it hangs on no world. -/
theorem wpAnyL_take0 {i : Nat} {oi : Oper} {v : Value} {fuel : Nat} {listed : Array Bool} {a : Act} {w : World} (hi : ops[i]? = some oi)
    (hs : Region.noSelect ops = true) (hf : Region.free md ops listed i = true) (hr : (Region.ready md ops listed).contains i = true) (hne : L.all (fun p => p.1 != i) = true)
    (hQ : ∀ c a w, Q (.panic c) (a.put oi.dst v) w → Q (.panic c) a w) (hy : YieldsIf P ops (fun _ => True) oi v a) (hS : HeldL L listed w)
    (h : HeldL L (listed.setIfInBounds i true) w → wpAnyL P md ops Q L fuel (listed.setIfInBounds i true) (a.put oi.dst v) w) : wpAnyL P md ops Q L (fuel + 1) listed a w :=
  have hne' : ∀ p, p ∈ L → p.1 ≠ i := fun p hp e => by have := List.all_eq_true.1 hne p hp; simp [e] at this
  have hS' := hS.more hne'
  wpAnyL_first hi (Region.noSelect_spec hs) hQ hne' fuel listed a w (Region.free_spec hi hf) (by simpa using hr) (.inl fun _ => trivial) hy hS hS' (h hS')

/-- Take number i first: a load, whose cell is as it was as long as number k waits. -/
theorem wpAnyL_takeT {i : Nat} (k : Nat) {oi ok : Oper} {v : Value} {fuel : Nat} {listed : Array Bool} {a : Act} {w : World} (T : World → Prop) (hi : ops[i]? = some oi) (hk : ops[k]? = some ok)
    (hs : Region.noSelect ops = true) (hf : Region.free md ops listed i = true) (hr : (Region.ready md ops listed).contains i = true) (hne : L.all (fun p => p.1 != i) = true) (hki : (k != i) = true)
    (hwait : ok.after.any (fun e => Region.binds md e && e.on == i) = true) (hun : listed.getD k true = false) (hm : (k, T) ∈ L)
    (hQ : ∀ c a w, Q (.panic c) (a.put oi.dst v) w → Q (.panic c) a w) (hy : YieldsIf P ops T oi v a) (hS : HeldL L listed w)
    (h : HeldL L (listed.setIfInBounds i true) w → wpAnyL P md ops Q L fuel (listed.setIfInBounds i true) (a.put oi.dst v) w) : wpAnyL P md ops Q L (fuel + 1) listed a w :=
  have hne' : ∀ p, p ∈ L → p.1 ≠ i := fun p hp e => by have := List.all_eq_true.1 hne p hp; simp [e] at this
  have hS' := hS.more hne'
  have hw : ∃ e, e ∈ ok.after ∧ Region.binds md e = true ∧ e.on = i := by
    obtain ⟨e, he, hb⟩ := Array.any_eq_true'.1 hwait
    simp only [Bool.and_eq_true, beq_iff_eq] at hb
    exact ⟨e, he, hb⟩
  wpAnyL_first hi (Region.noSelect_spec hs) hQ hne' fuel listed a w (Region.free_spec hi hf) (by simpa using hr) (.inr ⟨k, ok, hm, by simpa using hki, hk, hw, hun⟩) hy hS hS' (h hS')

/-- Whichever comes up. -/
def AllReadyL (P : Program) (md : Region.Mode) (ops : Array Oper) (Q : Exit → Act → World → Prop) (L : List (Nat × (World → Prop))) (fuel : Nat) (listed : Array Bool) (a : Act) (w : World) (rs : List Nat) : Prop :=
  ∀ i, i ∈ rs → wpOp P ops Q i (fun a' w' => HeldL L (listed.setIfInBounds i true) w' ∧ wpAnyL P md ops Q L fuel (listed.setIfInBounds i true) a' w') a w
theorem AllReadyL.nil {fuel : Nat} {listed : Array Bool} {a : Act} {w : World} : AllReadyL P md ops Q L fuel listed a w [] := fun _ h => by cases h
theorem AllReadyL.cons {fuel : Nat} {listed : Array Bool} {a : Act} {w : World} {i : Nat} {o : Oper} {rs : List Nat} (ho : ops[i]? = some o)
    (h : ∀ K' : Act → World → Prop, Shut (∀ a w, HeldL L (listed.setIfInBounds i true) w → (HeldL L (listed.setIfInBounds i true) w → wpAnyL P md ops Q L fuel (listed.setIfInBounds i true) a w) → K' a w) → if Region.wanted o (yielded ops a.tmps) = true then Oper.wp P o a w K' Q else K' (a.put o.dst undef) w)
    (hs : AllReadyL P md ops Q L fuel listed a w rs) : AllReadyL P md ops Q L fuel listed a w (i :: rs) := fun j hj => by
  rcases List.mem_cons.1 hj with rfl | hj
  · exact wpOp_step ho (fun K' hK => h K' (fun a w hS hW => hK a w ⟨hS, hW hS⟩))
  · exact hs j hj
theorem wpAnyL_ready {rs : List Nat} {fuel : Nat} {listed : Array Bool} {a : Act} {w : World} (hr : Region.ready md ops listed = rs) (hne : rs ≠ [])
    (h : AllReadyL P md ops Q L fuel listed a w rs) : wpAnyL P md ops Q L (fuel + 1) listed a w :=
  ⟨fun h0 => absurd (hr ▸ h0) hne, fun i hi => h i (hr ▸ hi)⟩
theorem wpAnyL_done {listed : Array Bool} {a : Act} {w : World} (hr : Region.ready md ops listed = []) (h : Q .normal a w) : ∀ fuel, wpAnyL P md ops Q L fuel listed a w
  | 0 => ⟨hr, h⟩
  | _ + 1 => ⟨fun _ => h, by rw [hr]; intro _ h; cases h⟩
/-- The beginning. -/
theorem wp_region_heldL {id : Nat} {a : Act} {w : World} (hm : P.follows .mixedOrders = true) (hS : HeldL L (Array.replicate ops.size false) w.drew)
    (h : HeldL L (Array.replicate ops.size false) w.drew → wpAnyL P .any ops Q L ops.size (Array.replicate ops.size false) a w.drew) : (Code.region id ops true).wp P Q a w :=
  wp_region_any hm (wpAny_of_L _ _ _ _ (h hS))
theorem HeldL.nil {listed : Array Bool} {w : World} : HeldL [] listed w := fun p hp => by cases hp
theorem HeldL.cons {k : Nat} {T : World → Prop} {listed : Array Bool} {w : World} (h1 : listed.getD k true = false → T w) (h : HeldL L listed w) : HeldL ((k, T) :: L) listed w := fun p hp hl => by
  rcases List.mem_cons.1 hp with rfl | hp
  · exact h1 hl
  · exact h p hp hl
end

/-! A load may also be taken first under the condition of an operation that waits for it through others. -/
/-- Each of the path waits for the next one, the last for i; none has come up. -/
def pathB (md : Region.Mode) (ops : Array Oper) (listed : Array Bool) (i : Nat) : List Nat → Bool
  | [] => true
  | k :: r => (k != i) && !(listed.getD k true) && (match ops[k]? with | some ok => ok.after.any (fun e => Region.binds md e && e.on == (r.headD i)) | none => false) && pathB md ops listed i r
def PathOk (md : Region.Mode) (ops : Array Oper) (listed : Array Bool) (i : Nat) : List Nat → Prop
  | [] => True
  | k :: r => k ≠ i ∧ listed.getD k true = false ∧ (∃ ok, ops[k]? = some ok ∧ ∃ e, e ∈ ok.after ∧ Region.binds md e = true ∧ e.on = r.headD i) ∧ PathOk md ops listed i r
theorem pathB_ok {md : Region.Mode} {ops : Array Oper} {listed : Array Bool} {i : Nat} : ∀ (p : List Nat), pathB md ops listed i p = true → PathOk md ops listed i p
  | [], _ => trivial
  | k :: r, h => by
    unfold pathB at h
    simp only [Bool.and_eq_true, bne_iff_ne, Bool.not_eq_true'] at h
    obtain ⟨⟨⟨h1, h2⟩, h3⟩, h4⟩ := h
    refine ⟨h1, h2, ?_, pathB_ok r h4⟩
    cases hk : ops[k]? with
    | none => rw [hk] at h3; cases h3
    | some ok =>
      rw [hk] at h3
      obtain ⟨e, he, hb⟩ := Array.any_eq_true'.1 h3
      simp only [Bool.and_eq_true, beq_iff_eq] at hb
      exact ⟨ok, rfl, e, he, hb⟩
theorem PathOk.head {md : Region.Mode} {ops : Array Oper} {listed : Array Bool} {i : Nat} (hi : listed.getD i true = false) : ∀ (p : List Nat), PathOk md ops listed i p → listed.getD (p.headD i) true = false
  | [], _ => hi
  | _ :: _, h => h.2.1
/-- One that is ready is not of the path. -/
theorem PathOk.ready {md : Region.Mode} {ops : Array Oper} {listed : Array Bool} {i j : Nat} (hi : listed.getD i true = false) (hj : j ∈ Region.ready md ops listed) : ∀ (p : List Nat), PathOk md ops listed i p → j ∉ p
  | [], _ => by simp
  | k :: r, h => by
    intro hm
    rcases List.mem_cons.1 hm with e | hm
    · subst e
      obtain ⟨_, oj, hoj, hall⟩ := mem_ready.1 hj
      obtain ⟨ok, hok, e, he, hb, hon⟩ := h.2.2.1
      rw [hoj] at hok
      injection hok with hok
      subst hok
      have h1 := hall e he hb
      rw [hon] at h1
      have h2 := PathOk.head hi r h.2.2.2
      generalize r.headD i = z at h1 h2
      rcases Nat.lt_or_ge z listed.size with h' | h'
      · simp [h'] at h1 h2; rw [h2] at h1; cases h1
      · simp [Array.getElem?_eq_none h'] at h2
    · exact PathOk.ready hi hj r h.2.2.2 hm
theorem PathOk.set {md : Region.Mode} {ops : Array Oper} {listed : Array Bool} {i j : Nat} : ∀ (p : List Nat), j ∉ p → PathOk md ops listed i p → PathOk md ops (listed.setIfInBounds j true) i p
  | [], _, _ => trivial
  | k :: r, hj, h => ⟨h.1, by rw [getD_set_ne true (fun e => hj (by simp [e]))]; exact h.2.1, h.2.2.1, PathOk.set r (fun hm => hj (by simp [hm])) h.2.2.2⟩
section
variable {P : Program} {ops : Array Oper} {Q : Exit → Act → World → Prop} {md : Region.Mode} {L : List (Nat × (World → Prop))}
theorem wpAnyL_firstP {i : Nat} {oi : Oper} {v : Value} {T : World → Prop} (k : Nat) (path : List Nat) (hm : (k, T) ∈ L) (hi : ops[i]? = some oi) (hsel : ∀ (j : Nat) (o : Oper) cs b, ops[j]? = some o → o.op ≠ .select cs b)
    (hQ : ∀ c a w, Q (.panic c) (a.put oi.dst v) w → Q (.panic c) a w) (hne : ∀ p, p ∈ L → p.1 ≠ i) :
    ∀ (fuel : Nat) (listed : Array Bool) (a : Act) (w : World),
      (∀ j oj, ops[j]? = some oj → j ≠ i → listed.getD j true = false → (∀ e ∈ oj.after, Region.binds md e = true → e.on ≠ i) → oi.apart ops oj = true) →
      i ∈ Region.ready md ops listed → PathOk md ops listed i (k :: path) → YieldsIf P ops T oi v a → HeldL L listed w →
      HeldL L (listed.setIfInBounds i true) w → wpAnyL P md ops Q L fuel (listed.setIfInBounds i true) (a.put oi.dst v) w → wpAnyL P md ops Q L (fuel + 1) listed a w := by
  intro fuel
  induction fuel with
  | zero =>
    intro listed a w _ hr hT hy hS hS' H
    refine ⟨fun h => (by rw [h] at hr; cases hr), fun j hj => ?_⟩
    by_cases hji : j = i
    · subst hji; exact hy.wpOp hi (hS (k, T) hm hT.2.1) ⟨hS', H⟩
    · have := ready_mono hj hji
      rw [H.1] at this
      cases this
  | succ fuel ih =>
    intro listed a w hfree hr hT hy hS hS' H
    refine ⟨fun h => (by rw [h] at hr; cases hr), fun j hj => ?_⟩
    by_cases hji : j = i
    · subst hji; exact hy.wpOp hi (hS (k, T) hm hT.2.1) ⟨hS', H⟩
    · have h1 := H.2 j (ready_mono hj hji)
      obtain ⟨hjun, oj, hoj, hall⟩ := mem_ready.1 hj
      have hiun : listed.getD i true = false := (mem_ready.1 hr).1
      have hnot : ∀ e ∈ oj.after, Region.binds md e = true → e.on ≠ i := fun e he hb heq => by
        have h1 := hall e he hb
        have h0 := (mem_ready.1 hr).1
        rw [heq] at h1
        rcases Nat.lt_or_ge i listed.size with h' | h'
        · simp [h'] at h0 h1; rw [h0] at h1; cases h1
        · simp [Array.getElem?_eq_none h'] at h1
      have h2 := wpOp_putIf hoj (hfree j oj hoj hji hjun hnot) (fun cs b => hsel i oi cs b hi) (fun cs b => hsel j oj cs b hoj) hQ hy h1
      have hfree' : ∀ k ok, ops[k]? = some ok → k ≠ i → (listed.setIfInBounds j true).getD k true = false →
          (∀ e ∈ ok.after, Region.binds md e = true → e.on ≠ i) → oi.apart ops ok = true := fun k ok hk hki hun hno => by
        refine hfree k ok hk hki ?_ hno
        by_cases hjk : j = k
        · subst hjk; exact hjun
        · rw [getD_set_ne true hjk] at hun; exact hun
      have hT' : PathOk md ops (listed.setIfInBounds j true) i (k :: path) := hT.set _ (hT.ready hiun hj)
      refine wpOp_mono (fun a' w' h3 => ?_) h2
      have hS2 : HeldL L ((listed.setIfInBounds j true).setIfInBounds i true) w' := by rw [Array.setIfInBounds_comm _ _ hji]; exact h3.2.1
      have hS1 : HeldL L (listed.setIfInBounds j true) w' := fun p hp hl => hS2 p hp (by rw [getD_set_ne true (Ne.symm (hne p hp))]; exact hl)
      refine ⟨hS1, ih (listed.setIfInBounds j true) a' w' hfree' (ready_mono hr (Ne.symm hji)) hT' h3.1 hS1 hS2 ?_⟩
      rw [Array.setIfInBounds_comm _ _ hji]
      exact h3.2.2
/-- Take number i first: a load, whose cell is as it was as long as number k waits; k waits for it through others. -/
theorem wpAnyL_takeP {i : Nat} (k : Nat) (path : List Nat) {oi : Oper} {v : Value} {fuel : Nat} {listed : Array Bool} {a : Act} {w : World} (T : World → Prop) (hi : ops[i]? = some oi)
    (hs : Region.noSelect ops = true) (hf : Region.free md ops listed i = true) (hr : (Region.ready md ops listed).contains i = true) (hne : L.all (fun p => p.1 != i) = true)
    (hp : pathB md ops listed i (k :: path) = true) (hm : (k, T) ∈ L)
    (hQ : ∀ c a w, Q (.panic c) (a.put oi.dst v) w → Q (.panic c) a w) (hy : YieldsIf P ops T oi v a) (hS : HeldL L listed w)
    (h : HeldL L (listed.setIfInBounds i true) w → wpAnyL P md ops Q L fuel (listed.setIfInBounds i true) (a.put oi.dst v) w) : wpAnyL P md ops Q L (fuel + 1) listed a w :=
  have hne' : ∀ p, p ∈ L → p.1 ≠ i := fun p hp e => by have := List.all_eq_true.1 hne p hp; simp [e] at this
  have hS' := hS.more hne'
  wpAnyL_firstP k path hm hi (Region.noSelect_spec hs) hQ hne' fuel listed a w (Region.free_spec hi hf) (by simpa using hr) (pathB_ok _ hp) hy hS hS' (h hS')
end

/-- One element appended, at a step of a region that draws: the element lies in a box B. -/
theorem step_app1 {P : Program} {ops : Array Oper} {o : Oper} {a : Act} {K : Act → World → Prop} {Q : Exit → Act → World → Prop} {E : Prop} {w : World} (t e : TypeId) (z : Value) (bytes : Nat)
    (ht : P.underlying t = some (.slice e)) (hinfo : (P.info? e).map (fun i => (i.zero, i.size, i.bytes)) = some (some z, 1, bytes)) (hz : z.cells.size = 1) (hb : bytes ≤ 64)
    (hgd : o.guard = none) (s x : Operand) (ho : o.op = .call { callee := .builtin .append, args := #[s, x], argTypes := #[t, t] })
    (base : Nat) (v : Value) (cs : List Value) (hs : a.eval s = v) (hown : Own w base e v cs) (hbase : base ≤ w.heap.size) (B : Nat) (c : Value) (hc1 : c.oneCell' = true) (hB : w.cell? ⟨B, 0, none⟩ = some c)
    (hx : a.eval x = .slice (some ⟨B, 0, none⟩) 1 1) (hlen : cs.length ≤ 1000000000)
    (h : ∀ g cap w', Own w' base e (.slice (some ⟨g, 0, none⟩) (cs.length + 1) cap) (cs ++ [c]) → Below base w w' → (∀ k, k < w.heap.size → v.ownBlock ≠ some k → w'.heap[k]? = w.heap[k]?) → (v.ownBlock = some g ∨ g = w.heap.size) →
      K (a.put o.dst (.slice (some ⟨g, 0, none⟩) (cs.length + 1) cap)) w') :
    if Region.wanted o (yielded ops a.tmps) = true then Oper.wp P o a w K Q else E := by
  obtain ⟨i, hi, hz0, hz1, hz2⟩ := info_parts hinfo
  have hw : Region.wanted o (yielded ops a.tmps) = true := by simp [Region.wanted, hgd]
  rw [if_pos hw]
  refine wp_append_lies w s x t ho base e i z 1 bytes ht hi hz0 hz1 hz2 hz (by omega) v cs.length cs hs hown ⟨B, 0, none⟩ 1 1 [c] hx rfl
    (fun j u hu => ?_) (fun u hu => by simp at hu; rw [hu]; exact hc1) (by omega) (by simp only [maxLen]; omega) (Nat.le_trans (Nat.mul_le_mul_left _ hb) (by omega)) hbase _ rfl ?_
  · cases j with
    | zero =>
      have hadd : (⟨B, 0, none⟩ : Addr).add 0 = ⟨B, 0, none⟩ := by simp [Addr.add]
      rw [hadd]
      simp at hu
      rw [← hu]
      exact hB
    | succ j => simp at hu
  · intro g cap w' h1 h2 h3 h4
    have hold : ∀ k, k < w.heap.size → v.ownBlock ≠ some k → w'.heap[k]? = w.heap[k]? := fun k hk hne => h2.block k hk (fun e => hne e.symm)
    have hlen' : (cs ++ [c]).length = cs.length + 1 := by simp
    exact h g cap w' (by unfold Own; rw [hlen']; exact h1) ⟨h2.os, h2.tape, h2.output, h2.size, fun k hk => hold k (by omega) (fun e => by have := (hown.lt k e).1; omega)⟩ hold h3
end Go.Proofs.YthmcdfjijkecfaaGreat

/- Levels of machines: their codes, and what states and their inverses make of them. -/
namespace Go.Proofs.YthmcdfjijkecfaaGreat
open Go.RowKit
set_option linter.unusedVariables false
set_option linter.unusedSimpArgs false

theorem pw_small (l n : Nat) (hl : l ≤ 3) (hn : n ≤ 5) : pw l n ≤ 243 := by
  have : ∀ a : Fin 4, ∀ b : Fin 6, pw a b ≤ 243 := by decide
  exact this ⟨l, by omega⟩ ⟨n, by omega⟩

open Classical in
/-- The code of a machine and a level. -/
noncomputable def levelI (m : Mach) (n : Int) : Int := if IsM m then if 0 ≤ n ∧ n ≤ 7 - m.L then 0 else 2 else 1
theorem levelI_1 {m : Mach} {n : Int} (h : ¬ IsM m) : levelI m n = 1 := by unfold levelI; rw [if_neg h]
theorem levelI_2 {m : Mach} {n : Int} {l s : Nat} (g : Good m l s) (h : ¬ (0 ≤ n ∧ n ≤ 7 - (l : Int))) : levelI m n = 2 := by unfold levelI; rw [if_pos g.isM, g.L, if_neg h]
theorem levelI_0 {m : Mach} {n : Int} {l s : Nat} (g : Good m l s) (h : 0 ≤ n ∧ n ≤ 7 - (l : Int)) : levelI m n = 0 := by unfold levelI; rw [if_pos g.isM, g.L, if_pos h]

set_option maxHeartbeats 1000000 in
theorem isLevel_any (b : Nat) (w : World) (m : Mach) (hm : MB w 27 b m) (l s : Nat) (g : Good m l s) (n : Int) (r : Bool) (hr : r = decide (0 ≤ n ∧ n ≤ 7 - (l : Int))) :
    Calls Tryz.prog 201 #[.pointer (some ⟨b, 0, none⟩), .int .i64 n] w fun e w' => e = .returned (.bool r) ∧ w = w' := by
  have cL := hm.cL
  rw [g.L] at cL
  have l2 := g.l2
  have l3 := g.l3
  clear hm g
  by_cases h5 : 0 ≤ n ∧ n ≤ 5
  · have hin := hid (fun W => within_any n 0 5 true (decide_eq_true h5).symm W)
    by_cases hl : l = 2
    · subst hl
      have hr' : r = true := by rw [hr]; exact decide_eq_true (by omega)
      subst hr'
      clear hr h5
      go_enter Tryz.func201, Tryz.ntmps201
      go_wp2_with (first
        | (go_at_call 86; (with_reducible refine (hin.out _).mono ?_); rintro e w1 ⟨rfl, rfl⟩))
      go_ret
      exact ⟨rfl, rfl⟩
    · have hl' : l = 3 := by omega
      subst hl'
      have hr' : r = decide (n < 5) := by rw [hr]; congr 1; apply propext; omega
      subst hr'
      clear hr
      go_enter Tryz.func201, Tryz.ntmps201
      go_wp2_with (first
        | (go_at_call 86; (with_reducible refine (hin.out _).mono ?_); rintro e w1 ⟨rfl, rfl⟩))
      go_ret
      exact ⟨rfl, rfl⟩
  · have hin := hid (fun W => within_any n 0 5 false (decide_eq_false h5).symm W)
    have hr' : r = false := by rw [hr]; exact decide_eq_false (by omega)
    subst hr'
    clear hr h5
    go_enter Tryz.func201, Tryz.ntmps201
    go_wp2_with (first
      | (go_at_call 86; (with_reducible refine (hin.out _).mono ?_); rintro e w1 ⟨rfl, rfl⟩))
    go_ret
    exact ⟨rfl, rfl⟩

set_option maxHeartbeats 1000000 in
theorem levelCode_any (w : World) (m : Mach) (hk : m.Ok) (n : Int) :
    Calls Tryz.prog 108 #[.agg (mcells m), .int .i64 n] w fun e w' => e = .returned (.int .i64 (levelI m n)) ∧ Below w.heap.size w w' := by
  have hM := hid (MB.new w m 27)
  have hB := hid (below_alloc (Below.refl w.heap.size w) (Nat.le_refl _) (.cells (mcells m) 27))
  by_cases hm : IsM m
  · obtain ⟨l, s, g⟩ := hm.good
    have hi := hid (show Tells true (IsM m) from ⟨fun _ => hm, fun _ => rfl⟩)
    by_cases hn : 0 ≤ n ∧ n ≤ 7 - (l : Int)
    · rw [levelI_0 g hn]
      have hl := hid (fun W hW => isLevel_any w.heap.size W m hW l s g n true (decide_eq_true hn).symm)
      replace hk := hid hk; clear hm hn g
      go_enter Tryz.func108, Tryz.ntmps108
      go_wp2_with (first
        | ((with_reducible refine gate (N := 6) rfl ?_); refine load_mach rfl _ rfl w.heap.size rfl m hM.out ?_)
        | (go_at_call 97; (with_reducible refine (IsMachine_any _ m hk.out true hi.out.out).mono ?_); rintro e w1 ⟨rfl, hb⟩; have hM2 := hid (hM.out.below hb hM.out.lt); have hB2 := hid (hB.out.trans (hb.mono hB.out.size)); clear hb hM hB hi)
        | (go_at_call 201; (with_reducible refine (hl.out _ hM2.out).mono ?_); rintro e w3 ⟨rfl, rfl⟩))
      go_ret
      exact ⟨rfl, hB2.out⟩
    · rw [levelI_2 g hn]
      have hl := hid (fun W hW => isLevel_any w.heap.size W m hW l s g n false (decide_eq_false hn).symm)
      replace hk := hid hk; clear hm hn g
      go_enter Tryz.func108, Tryz.ntmps108
      go_wp2_with (first
        | ((with_reducible refine gate (N := 6) rfl ?_); refine load_mach rfl _ rfl w.heap.size rfl m hM.out ?_)
        | (go_at_call 97; (with_reducible refine (IsMachine_any _ m hk.out true hi.out.out).mono ?_); rintro e w1 ⟨rfl, hb⟩; have hM2 := hid (hM.out.below hb hM.out.lt); have hB2 := hid (hB.out.trans (hb.mono hB.out.size)); clear hb hM hB hi)
        | (go_at_call 201; (with_reducible refine (hl.out _ hM2.out).mono ?_); rintro e w3 ⟨rfl, rfl⟩))
      go_ret
      exact ⟨rfl, hB2.out⟩
  · rw [levelI_1 hm]
    have hi := hid (show Tells false (IsM m) from ⟨fun h => (by cases h), fun h => absurd h hm⟩)
    replace hk := hid hk; clear hm
    go_enter Tryz.func108, Tryz.ntmps108
    go_wp2_with (first
      | ((with_reducible refine gate (N := 6) rfl ?_); refine load_mach rfl _ rfl w.heap.size rfl m hM.out ?_)
      | (go_at_call 97; (with_reducible refine (IsMachine_any _ m hk.out false hi.out.out).mono ?_); rintro e w1 ⟨rfl, hb⟩; have hB2 := hid (hB.out.trans (hb.mono hB.out.size)); clear hb hM hB hi))
    go_ret
    exact ⟨rfl, hB2.out⟩

set_option maxHeartbeats 1000000 in
theorem l05Code_any (w : World) (m : Mach) (hk : m.Ok) (n : Int) :
    Calls Tryz.prog 119 #[.agg (mcells m), .int .i64 n] w fun e w' => e = .returned (.int .i64 (levelI m n)) ∧ Below w.heap.size w w' := by
  have hM := hid (MB.new w m 27)
  have hB := hid (below_alloc (Below.refl w.heap.size w) (Nat.le_refl _) (.cells (mcells m) 27))
  by_cases hm : IsM m
  · obtain ⟨l, s, g⟩ := hm.good
    have hi := hid (show Tells true (IsM m) from ⟨fun _ => hm, fun _ => rfl⟩)
    have gL := hid g.L
    have l2 := g.l2
    have l3 := g.l3
    by_cases hn : 0 ≤ n ∧ n ≤ 7 - (l : Int)
    · rw [levelI_0 g hn]
      have hl := hid (fun W => l01In_any n 0 (7 - (l : Int)) true (decide_eq_true hn).symm W)
      replace hk := hid hk; clear hm hn g
      go_enter Tryz.func119, Tryz.ntmps119
      go_wp2_with (first
        | ((with_reducible refine gate (N := 6) rfl ?_); refine load_mach rfl _ rfl w.heap.size rfl m hM.out ?_)
        | (go_at_call 141; (with_reducible refine (l01Is_any _ m hk.out true hi.out.out).mono ?_); rintro e w1 ⟨rfl, hb⟩; have hM2 := hid (hM.out.below hb hM.out.lt); have hB2 := hid (hB.out.trans (hb.mono hB.out.size)); have cL := hM2.out.cL; rw [gL.out] at cL; clear hb hM hB hi)
        | (go_at_call 142; (with_reducible refine (hl.out _).mono ?_); rintro e w3 ⟨rfl, rfl⟩))
      go_ret
      exact ⟨rfl, hB2.out⟩
    · rw [levelI_2 g hn]
      have hl := hid (fun W => l01In_any n 0 (7 - (l : Int)) false (decide_eq_false hn).symm W)
      replace hk := hid hk; clear hm hn g
      go_enter Tryz.func119, Tryz.ntmps119
      go_wp2_with (first
        | ((with_reducible refine gate (N := 6) rfl ?_); refine load_mach rfl _ rfl w.heap.size rfl m hM.out ?_)
        | (go_at_call 141; (with_reducible refine (l01Is_any _ m hk.out true hi.out.out).mono ?_); rintro e w1 ⟨rfl, hb⟩; have hM2 := hid (hM.out.below hb hM.out.lt); have hB2 := hid (hB.out.trans (hb.mono hB.out.size)); have cL := hM2.out.cL; rw [gL.out] at cL; clear hb hM hB hi)
        | (go_at_call 142; (with_reducible refine (hl.out _).mono ?_); rintro e w3 ⟨rfl, rfl⟩))
      go_ret
      exact ⟨rfl, hB2.out⟩
  · rw [levelI_1 hm]
    have hi := hid (show Tells false (IsM m) from ⟨fun h => (by cases h), fun h => absurd h hm⟩)
    replace hk := hid hk; clear hm
    go_enter Tryz.func119, Tryz.ntmps119
    go_wp2_with (first
      | ((with_reducible refine gate (N := 6) rfl ?_); refine load_mach rfl _ rfl w.heap.size rfl m hM.out ?_)
      | (go_at_call 141; (with_reducible refine (l01Is_any _ m hk.out false hi.out.out).mono ?_); rintro e w1 ⟨rfl, hb⟩; have hB2 := hid (hB.out.trans (hb.mono hB.out.size)); clear hb hM hB hi))
    go_ret
    exact ⟨rfl, hB2.out⟩

/-! ### What a state and its inverse make of a level undo each other -/
theorem inv_cells {m : Mach} {l s : Nat} (g : Good m l s) (q y : Nat) (hq : q < s) (hy : y < l) :
    (inv m l s).nx (q * 3 + m.ot (q * 3 + y)) = m.nx (q * 3 + y) ∧ (inv m l s).ot (q * 3 + m.ot (q * 3 + y)) = y := allI_in m l g.l3 s g.ot g.inj q y hq hy
theorem out_surj {m : Mach} {l s : Nat} (g : Good m l s) (q x : Nat) (hq : q < s) (hx : x < l) : ∃ y, y < l ∧ m.ot (q * 3 + y) = x :=
  surj_of_inj (f := fun y => m.ot (q * 3 + y)) (fun y hy => g.ot q y hq hy) (fun y x hy hx => g.inj q hq y x hy hx) x hx
theorem img_inv {m : Mach} {l s : Nat} (g : Good m l s) : ∀ (u : List Nat) (q : Nat), q < s → (∀ x ∈ u, x < l) → img (inv m l s) q (img m q u) = u ∧ sec (inv m l s) q (img m q u) = sec m q u
  | [], _, _, _ => ⟨rfl, rfl⟩
  | x :: u, q, hq, hu => by
    have hx := hu x (by simp)
    obtain ⟨h1, h2⟩ := inv_cells g q x hq hx
    have ih := img_inv g u (m.nx (q * 3 + x)) (g.nx q x hq hx) (fun y hy => hu y (by simp [hy]))
    simp only [img, sec, h1, h2, ih.1, ih.2]
    exact ⟨trivial, trivial⟩
theorem inv_img {m : Mach} {l s : Nat} (g : Good m l s) : ∀ (u : List Nat) (q : Nat), q < s → (∀ x ∈ u, x < l) → img m q (img (inv m l s) q u) = u
  | [], _, _, _ => rfl
  | x :: u, q, hq, hu => by
    obtain ⟨y, hy, rfl⟩ := out_surj g q x hq (hu x (by simp))
    obtain ⟨h1, h2⟩ := inv_cells g q y hq hy
    have ih := inv_img g u (m.nx (q * 3 + y)) (g.nx q y hq hy) (fun z hz => hu z (by simp [hz]))
    simp only [img, h1, h2, ih]

/-- One number of a level. -/
def pf (m : Mach) (d q n k : Nat) : Nat := num d (img m q (wrd d n k))
theorem perm_pf (m : Mach) (d q n : Nat) : perm m d q n = (List.range (pw d n)).map (pf m d q n) := rfl
theorem pf_lt {m : Mach} {l s : Nat} (g : Good m l s) (q n k : Nat) (hq : q < s) : pf m l q n k < pw l n :=
  num_lt l n _ ((img_length m _ q).trans (wrd_length l n k)) (img_lt g _ q hq (wrd_lt l (by have := g.l2; omega) n k))
theorem pf_inv {m : Mach} {l s : Nat} (g : Good m l s) (q n k : Nat) (hq : q < s) (hk : k < pw l n) : pf (inv m l s) l q n (pf m l q n k) = k := by
  have hl : 0 < l := by have := g.l2; omega
  unfold pf
  rw [wrd_num l hl n _ ((img_length m _ q).trans (wrd_length l n k)) (img_lt g _ q hq (wrd_lt l hl n k)), (img_inv g _ q hq (wrd_lt l hl n k)).1, num_wrd l hl n k hk]
theorem inv_pf {m : Mach} {l s : Nat} (g : Good m l s) (q n k : Nat) (hq : q < s) (hk : k < pw l n) : pf m l q n (pf (inv m l s) l q n k) = k := by
  have hl : 0 < l := by have := g.l2; omega
  have g' := inv_good g
  unfold pf
  rw [wrd_num l hl n _ ((img_length _ _ q).trans (wrd_length l n k)) (img_lt g' _ q hq (wrd_lt l hl n k)), inv_img g _ q hq (wrd_lt l hl n k), num_wrd l hl n k hk]
end Go.Proofs.YthmcdfjijkecfaaGreat

/- Lists of lists of numbers, all of a function's own. -/
namespace Go.Proofs.YthmcdfjijkecfaaGreat
open Go.RowKit
set_option linter.unusedVariables false
set_option linter.unusedSimpArgs false

theorem info_ints : (Tryz.prog.info? 32).map (fun i => (i.zero, i.size, i.bytes)) = some (some (.slice none 0 0), 1, 24) := by kernel_rfl

/-- A slice of slices, each with a block of its own. -/
def Mat (w : World) (base : Nat) (v : Value) (M : List (List Int)) : Prop :=
  ∃ rows : List Value, Own w base 32 v rows ∧ rows.length = M.length ∧ ∀ (i : Nat) (r : Value) (l : List Int), rows[i]? = some r → M[i]? = some l → Own w base 2 r (ints l)

theorem Own.ne {w : World} {b b' e e' : Nat} {v v' : Value} {cs cs' : List Value} (h : Own w b e v cs) (h' : Own w b' e' v' cs') (hne : e ≠ e') (k : Nat) (hk : v.ownBlock = some k) : v'.ownBlock ≠ some k := by
  intro hk'
  rcases h.2 with ⟨rfl, _⟩ | ⟨g, cap, cur, rfl, hb, hg, rest⟩
  · cases hk
  · rcases h'.2 with ⟨rfl, _⟩ | ⟨g', cap', cur', rfl, hb', hg', rest'⟩
    · cases hk'
    · have e1 : g = k := by simpa [Value.ownBlock] using hk
      have e2 : g' = k := by simpa [Value.ownBlock] using hk'
      subst e1; subst e2
      rw [hg] at hg'
      injection hg' with hg'
      injection hg' with _ hg' _
      exact hne hg'

/-- A machine's block is none of them. -/
theorem Own.neMB {w : World} {b e t bm : Nat} {v : Value} {cs : List Value} {m : Mach} (h : Own w b e v cs) (hm : MB w t bm m) (hne : e ≠ t) : v.ownBlock ≠ some bm := by
  intro hk
  rcases h.2 with ⟨rfl, _⟩ | ⟨g, cap, cur, rfl, hb, hg, rest⟩
  · cases hk
  · have e1 : g = bm := by simpa [Value.ownBlock] using hk
    subst e1
    have h2 := hm.heap
    rw [hg] at h2
    injection h2 with h2
    injection h2 with _ h2 _
    exact hne h2

section
variable {w w' : World} {base : Nat} {v : Value} {M : List (List Int)}
theorem Mat.nil (w : World) (base : Nat) : Mat w base (.slice none 0 0) [] := ⟨[], Own.nil _ _ _, rfl, fun i r l h => by simp at h⟩
theorem Mat.new (w : World) (base : Nat) (hb : base ≤ w.heap.size) : Mat (w.alloc (.cells #[] 32)) base (.slice (some ⟨w.heap.size, 0, none⟩) 0 0) [] := ⟨[], Own.new _ _ _ hb, rfl, fun i r l h => by simp at h⟩
theorem Mat.below (h : Mat w base v M) (hb : Below w.heap.size w w') : Mat w' base v M := by
  obtain ⟨rows, h1, h2, h3⟩ := h
  exact ⟨rows, h1.below hb, h2, fun i r l hr hl => (h3 i r l hr hl).below hb⟩
theorem Mat.alloc (h : Mat w base v M) (o : Obj) : Mat (w.alloc o) base v M := by
  obtain ⟨rows, h1, h2, h3⟩ := h
  exact ⟨rows, h1.alloc o, h2, fun i r l hr hl => (h3 i r l hr hl).alloc o⟩
theorem Mat.drew (h : Mat w base v M) : Mat w.drew base v M := h
theorem Mat.mono {b' : Nat} (h : Mat w base v M) (hb : b' ≤ base) : Mat w b' v M := by
  obtain ⟨rows, h1, h2, h3⟩ := h
  exact ⟨rows, h1.mono hb, h2, fun i r l hr hl => (h3 i r l hr hl).mono hb⟩
/-- Where all that it has is as it was. -/
theorem Mat.keep (h : Mat w base v M) (hk : ∀ k, base ≤ k → k < w.heap.size → w'.heap[k]? = w.heap[k]?) : Mat w' base v M := by
  obtain ⟨rows, h1, h2, h3⟩ := h
  exact ⟨rows, h1.keep fun k hk' => hk k (h1.lt k hk').1 (h1.lt k hk').2, h2, fun i r l hr hl => (h3 i r l hr hl).keep fun k hk' => hk k ((h3 i r l hr hl).lt k hk').1 ((h3 i r l hr hl).lt k hk').2⟩
/-- Where all but a machine's block is as it was. -/
theorem Mat.keepM {t bm : Nat} {m : Mach} (h : Mat w base v M) (hm : MB w t bm m) (ht : t = 27) (hk : ∀ k, k ≠ bm → w'.heap[k]? = w.heap[k]?) : Mat w' base v M := by
  subst ht
  obtain ⟨rows, h1, h2, h3⟩ := h
  exact ⟨rows, h1.keep fun k hk' => hk k (fun e => h1.neMB hm (by decide) (e ▸ hk')), h2, fun i r l hr hl => (h3 i r l hr hl).keep fun k hk' => hk k (fun e => (h3 i r l hr hl).neMB hm (by decide) (e ▸ hk'))⟩
theorem Mat.neMB {bm : Nat} {m : Mach} (h : Mat w base v M) (hm : MB w 27 bm m) : v.ownBlock ≠ some bm := by
  obtain ⟨rows, h1, _⟩ := h
  exact h1.neMB hm (by decide)
theorem Mat.lt (h : Mat w base v M) : ∀ k, v.ownBlock = some k → base ≤ k ∧ k < w.heap.size := by
  obtain ⟨rows, h1, _⟩ := h
  exact h1.lt
theorem Mat.form (h : Mat w base v M) : ∃ A cap, v = .slice A M.length cap := by
  obtain ⟨rows, h1, h2, _⟩ := h
  obtain ⟨A, cap, hv, _⟩ := h1.form
  exact ⟨A, cap, by rw [hv, h2]⟩
theorem Mat.blk (h : Mat w base v M) (hne : M ≠ []) : ∃ g cap, v = .slice (some ⟨g, 0, none⟩) M.length cap ∧ base ≤ g ∧ g < w.heap.size := by
  obtain ⟨rows, h1, h2, _⟩ := h
  obtain ⟨g, cap, hv, hg⟩ := h1.blk (fun e => hne (List.eq_nil_of_length_eq_zero (by rw [← h2, e]; rfl)))
  exact ⟨g, cap, by rw [hv, h2], hg⟩
/-- One row. -/
theorem Mat.row {g n cap : Nat} (h : Mat w base (.slice (some ⟨g, 0, none⟩) n cap) M) (i : Nat) (l : List Int) (hl : M[i]? = some l) :
    ∃ r, w.cell? ⟨g, i, none⟩ = some r ∧ Own w base 2 r (ints l) := by
  obtain ⟨rows, h1, h2, h3⟩ := h
  have hi : i < rows.length := by rw [h2]; exact (List.getElem?_eq_some_iff.1 hl).1
  obtain ⟨r, hr⟩ : ∃ r, rows[i]? = some r := ⟨_, List.getElem?_eq_getElem hi⟩
  exact ⟨r, h1.cellAt i r hr, h3 i r l hr hl⟩
/-- One row more. -/
theorem Mat.snoc {v' r : Value} {rows : List Value} {l : List Int} (hrows : Own w base 32 v rows) (hlen : rows.length = M.length)
    (hall : ∀ (i : Nat) (r : Value) (l : List Int), rows[i]? = some r → M[i]? = some l → Own w base 2 r (ints l)) (hr : Own w base 2 r (ints l))
    (hnew : Own w' base 32 v' (rows ++ [r])) (hold : ∀ k, k < w.heap.size → v.ownBlock ≠ some k → w'.heap[k]? = w.heap[k]?) : Mat w' base v' (M ++ [l]) := by
  have keep : ∀ {r' : Value} {l' : List Int}, Own w base 2 r' (ints l') → Own w' base 2 r' (ints l') := fun h => h.keep fun k hk => hold k (h.lt k hk).2 (h.ne hrows (by decide) k hk)
  refine ⟨rows ++ [r], hnew, by simp [hlen], fun i r' l' h1 h2 => ?_⟩
  by_cases hi : i < rows.length
  · rw [List.getElem?_append_left hi] at h1
    rw [List.getElem?_append_left (by omega)] at h2
    exact keep (hall i r' l' h1 h2)
  · have hi2 : i = rows.length := by
      have := (List.getElem?_eq_some_iff.1 h1).1
      simp at this; omega
    subst hi2
    rw [List.getElem?_append_right (Nat.le_refl _)] at h1
    rw [List.getElem?_append_right (by omega)] at h2
    simp at h1
    simp [hlen] at h2
    subst h1; subst h2
    exact keep hr
end

/-- One row appended, as the walk meets it: behind the box of the row. -/
theorem appM {ops : Array Oper} {rest : List Oper} {o : Oper} {a : Act} {W : World} {Q : Exit → Act → World → Prop}
    (hgd : o.guard = none) (s x : Operand) (ho : o.op = .call { callee := .builtin .append, args := #[s, x], argTypes := #[43, 43] })
    (base : Nat) (v : Value) (M : List (List Int)) (hs : a.eval s = v) (hmat : Mat W base v M) (hbase : base ≤ W.heap.size) (r : Value) (l : List Int) (hr : Own W base 2 r (ints l)) (hr1 : r.oneCell' = true)
    (hx : a.eval x = .slice (some ⟨W.heap.size, 0, none⟩) 1 1) (hlen : M.length ≤ 1000000000)
    (h : ∀ g cap w', Mat w' base (.slice (some ⟨g, 0, none⟩) (M.length + 1) cap) (M ++ [l]) → Below base W w' → (∀ k, k < W.heap.size → v.ownBlock ≠ some k → w'.heap[k]? = W.heap[k]?) →
      wpList Tryz.prog ops Q rest (a.put o.dst (.slice (some ⟨g, 0, none⟩) (M.length + 1) cap)) w') :
    wpList Tryz.prog ops Q (o :: rest) a (W.alloc (.cells #[r] 32)) := by
  obtain ⟨rows, h1, h2, h3⟩ := hmat
  refine app1 43 32 (.slice none 0 0) 24 Tryz.underlying43 info_ints rfl (by omega) hgd s x ho base v rows hs h1 hbase r hr1 hx (by omega) ?_
  intro g cap w' k1 k2 k3 _ _
  rw [h2] at k1 ⊢
  exact h g cap w' (Mat.snoc h1 h2 h3 hr k1 k3) k2 k3
theorem Own.oneCell {w : World} {b e : Nat} {v : Value} {cs : List Value} (h : Own w b e v cs) : v.oneCell' = true := by
  rcases h.2 with ⟨rfl, _⟩ | ⟨g, cap, cur, rfl, _⟩ <;> rfl

/-- A level as numbers. -/
def permZ (m : Mach) (d q n : Nat) : List Int := (perm m d q n).map Int.ofNat
theorem permZ_length (m : Mach) (d q n : Nat) : (permZ m d q n).length = pw d n := by simp [permZ, perm_length]
theorem permZ_get (m : Mach) (d q n k : Nat) (hk : k < pw d n) : (permZ m d q n)[k]? = some ((pf m d q n k : Nat) : Int) := by simp [permZ, perm_pf, hk]

/-- What all states make of a level, and their inverses. -/
def tabA (m : Mach) (d n s : Nat) : List (List Int) := (List.range s).map fun q => permZ m d q n
theorem tabA_snoc (m : Mach) (d n s : Nat) : tabA m d n (s + 1) = tabA m d n s ++ [permZ m d s n] := by simp [tabA, List.range_succ]
theorem tabA_length (m : Mach) (d n s : Nat) : (tabA m d n s).length = s := by simp [tabA]
theorem tabA_get (m : Mach) (d n s q : Nat) (h : q < s) : (tabA m d n s)[q]? = some (permZ m d q n) := by simp [tabA, h]

set_option maxHeartbeats 2000000 in
set_option maxRecDepth 100000 in
theorem l05Tables_any (w : World) (m : Mach) (l s : Nat) (g : Good m l s) (hk : m.Ok) (n : Nat) (hn : n ≤ 40) (hb : pw l n ≤ 100000) :
    Calls Tryz.prog 114 #[.agg (mcells m), .int .i64 n] w fun e w' => ∃ v, e = .returned v ∧ Mat w' w.heap.size v (tabA m l n s ++ tabA (inv m l s) l n s) ∧ Below w.heap.size w w' := by
  have hM := hid ((MB.new w m 27).alloc (.cells #[] 32))
  have hB := hid (below_alloc (below_alloc (Below.refl w.heap.size w) (Nat.le_refl _) (.cells (mcells m) 27)) (Nat.le_refl _) (.cells #[] 32))
  have hT := Mat.new (w.alloc (.cells (mcells m) 27)) w.heap.size (by rw [heap_alloc_size]; omega)
  rw [heap_alloc_size] at hT
  replace hT := hid hT
  have hz := zeroM_run
  have h0 := hid (fun w' : World => MB.new w' zeroM 27)
  have gS := hid g.S
  have s16 := g.s16
  have hinv := hid (fun W => l01Inverse_any W m l s g hk)
  have hlev := hid (fun q (hq : q < s) W => l01Level_any W m l s g q hq n hn hb)
  have hlevi := hid (fun q (hq : q < s) W => l01Level_any W (inv m l s) l s (inv_good g) q hq n hn hb)
  have hnz := hid (fun m q => nats_ints (perm m l q n))
  generalize hI : inv m l s = I at *
  replace hI := hid hI
  replace g := hid g
  replace hk := hid hk
  generalize mcells zeroM = zs at *
  go_enter Tryz.func114, Tryz.ntmps114
  go_wp2_with (first
    | ((with_reducible refine gate (N := 10) rfl ?_); refine load_mach rfl _ rfl w.heap.size rfl m hM.out ?_)
    | (go_at_call 137; (with_reducible refine (hinv.out _).mono ?_); rintro e w1 ⟨rfl, hb1⟩; have hM1 := hid ((hM.out.below hb1 hM.out.lt).alloc (.cells zs 27)); have hlt := hid (hM.out.below hb1 hM.out.lt).lt; have hT1 := hid ((hT.out.below hb1).alloc (.cells zs 27)); have hB1 := hid (hB.out.trans (hb1.mono hB.out.size)); have hB1a := hid (below_alloc hB1.out (Nat.le_refl _) (.cells zs 27)); clear hb1 hM hT hB hinv)
    | ((with_reducible refine gateOp (op := .store 27 (.tmp 6) (.tmp 11)) rfl ?_); refine store_mach rfl _ _ rfl w1.heap.size rfl I rfl 27 _ (h0.out w1) ?_; intro w2 hV ho hsz hbl; have hV2 := hid hV; have hM2 := hid (show MB w2 27 w.heap.size m from World.rowIs.of_block hM1.out (ho _ (by have := hlt.out; omega))); have hB2 := hid (hbl _ _ hB1.out.size hB1a.out); have hT2 := hid (hT1.out.keepM (h0.out w1) rfl ho); clear hV ho hsz hbl hM1 hB1 hB1a hT1))
  go_loopw [5, 7] (fun v i wr => ∃ q : Nat, q ≤ s ∧ i = .int .i64 q ∧ MB wr 27 w.heap.size m ∧ MB wr 27 w1.heap.size I ∧ Mat wr w.heap.size v (tabA m l n q) ∧ Below w.heap.size w wr) (fun _ i _ => s - (intOf i).toNat)
  case atStart => exact ⟨0, Nat.zero_le _, rfl, hM2.out, hV2.out, hT2.out, hB2.out⟩
  case round =>
    obtain ⟨q, hq, rfl, r1, r2, r3, rB⟩ := hrel
    have cS := r1.cS
    rw [gS.out] at cS
    have hml := hid (show (tabA m l n q).length ≤ s + s by (try rw [List.length_append]); (try rw [tabA_length]); (try rw [tabA_length]); omega)
    replace r1 := hid r1; replace r2 := hid r2; replace r3 := hid r3; replace rB := hid rB
    by_cases hlq : q < s
    · have dq : decide ((q : Int) < (s : Int)) = true := decide_eq_true (by omega)
      have hsn := hid (tabA_snoc m l n q)
      go_wp2_with (first
        | ((with_reducible refine gate (N := 19) rfl ?_); refine load_mach rfl _ rfl w.heap.size rfl m r1.out ?_)
        | (go_at_call 172; (with_reducible refine (hlev.out q hlq _).mono ?_); rintro e w3 ⟨r, rfl, hO, hb3⟩; rw [hnz.out] at hO; obtain ⟨Ar, cr, rfl, _, _⟩ := hO.form; have hR := hid (hO.mono rB.out.size); have t1 := hid (r1.out.below hb3 r1.out.lt); have t2 := hid (r2.out.below hb3 r2.out.lt); have t3 := hid (r3.out.below hb3); have tB := hid (rB.out.trans (hb3.mono rB.out.size)); clear hO hb3 r1 r2 r3 rB cS)
        | ((with_reducible refine gate (N := 24) rfl ?_); refine appM rfl _ _ rfl w.heap.size _ (tabA m l n q) rfl t3.out tB.out.size _ (permZ m l q n) hR.out hR.out.oneCell rfl (by have := hml.out; omega) ?_; intro gn cap w4 hM4 hb4 hold; have y1 := hid (show MB w4 27 w.heap.size m from World.rowIs.of_block t1.out (hold _ t1.out.lt (t3.out.neMB t1.out))); have y2 := hid (show MB w4 27 w1.heap.size I from World.rowIs.of_block t2.out (hold _ t2.out.lt (t3.out.neMB t2.out))); have y3 := hid hM4; have yB := hid (tB.out.trans hb4); clear hM4 hb4 hold t1 t2 t3 tB hR))
      go_roundw
      case rel => exact ⟨q + 1, by omega, by go_num, y1.out, y2.out, by rw [hsn.out]; exact y3.out, yB.out⟩
      case measure => simp [intOf]; omega
    · obtain rfl : s = q := by omega
      clear hml hlq hq
      go_wp2
      go_loopw [5, 8] (fun v i wr => ∃ q : Nat, q ≤ s ∧ i = .int .i64 q ∧ MB wr 27 w.heap.size m ∧ MB wr 27 w1.heap.size I ∧ Mat wr w.heap.size v (tabA m l n s ++ tabA I l n q) ∧ Below w.heap.size w wr) (fun _ i _ => s - (intOf i).toNat)
      case atStart => exact ⟨0, Nat.zero_le _, rfl, r1.out, r2.out, by rw [show tabA I l n 0 = [] from rfl, List.append_nil]; exact r3.out, rB.out⟩
      case round =>
        obtain ⟨q, hq, rfl, r1, r2, r3, rB⟩ := hrel
        have cS := r1.cS
        rw [gS.out] at cS
        have hml := hid (show (tabA m l n s ++ tabA I l n q).length ≤ s + s by (try rw [List.length_append]); (try rw [tabA_length]); (try rw [tabA_length]); omega)
        replace r1 := hid r1; replace r2 := hid r2; replace r3 := hid r3; replace rB := hid rB
        by_cases hlq : q < s
        · have dq : decide ((q : Int) < (s : Int)) = true := decide_eq_true (by omega)
          have hsn := hid (tabA_snoc I l n q)
          go_wp2_with (first
            | ((with_reducible refine gate (N := 32) rfl ?_); refine load_mach rfl _ rfl w1.heap.size rfl I r2.out ?_)
            | (go_at_call 172; (with_reducible refine (hlevi.out q hlq _).mono ?_); rintro e w3 ⟨r, rfl, hO, hb3⟩; rw [hnz.out] at hO; obtain ⟨Ar, cr, rfl, _, _⟩ := hO.form; have hR := hid (hO.mono rB.out.size); have t1 := hid (r1.out.below hb3 r1.out.lt); have t2 := hid (r2.out.below hb3 r2.out.lt); have t3 := hid (r3.out.below hb3); have tB := hid (rB.out.trans (hb3.mono rB.out.size)); clear hO hb3 r1 r2 r3 rB cS)
            | ((with_reducible refine gate (N := 37) rfl ?_); refine appM rfl _ _ rfl w.heap.size _ (tabA m l n s ++ tabA I l n q) rfl t3.out tB.out.size _ (permZ I l q n) hR.out hR.out.oneCell rfl (by have := hml.out; omega) ?_; intro gn cap w4 hM4 hb4 hold; have y1 := hid (show MB w4 27 w.heap.size m from World.rowIs.of_block t1.out (hold _ t1.out.lt (t3.out.neMB t1.out))); have y2 := hid (show MB w4 27 w1.heap.size I from World.rowIs.of_block t2.out (hold _ t2.out.lt (t3.out.neMB t2.out))); have y3 := hid hM4; have yB := hid (tB.out.trans hb4); clear hM4 hb4 hold t1 t2 t3 tB hR))
          go_roundw
          case rel => exact ⟨q + 1, by omega, by go_num, y1.out, y2.out, by rw [hsn.out, ← List.append_assoc]; have h := y3.out; rw [List.length_append] at h; exact h, yB.out⟩
          case measure => simp [intOf]; omega
        · obtain rfl : s = q := by omega
          go_wp2
          go_ret
          exact ⟨_, rfl, r3.out, rB.out⟩
end Go.Proofs.YthmcdfjijkecfaaGreat
