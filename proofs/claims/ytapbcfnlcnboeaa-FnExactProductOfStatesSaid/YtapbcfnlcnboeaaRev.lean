/- Reversible machines: the program's isReversible and the reference's l07Reversible say the same. -/
import Derived.Test.YtapbcfnlcnboeaaToM
import Derived.Test.YtapbcfnlcnboeaaPigeon
namespace Go.Proofs.Ytapbcfnlcnboeaa
open Go.RowKit
set_option linter.unusedVariables false
set_option linter.unusedSimpArgs false

/-- What is known of a machine with l letters and s states. -/
structure Good (m : Mach) (l s : Nat) : Prop where
  L : m.L = l
  S : m.S = s
  l2 : 2 ≤ l
  l3 : l ≤ 3
  s1 : 1 ≤ s
  s16 : s ≤ 16
  nx : ∀ q x, q < s → x < l → m.nx (q * 3 + x) < s
  ot : ∀ q x, q < s → x < l → m.ot (q * 3 + x) < l
  inj : ∀ q, q < s → ∀ y x, y < x → x < l → m.ot (q * 3 + y) ≠ m.ot (q * 3 + x)
  z : ∀ q x, q < 16 → x < 3 → ¬ (q < s ∧ x < l) → m.nx (q * 3 + x) = 0 ∧ m.ot (q * 3 + x) = 0

theorem IsM.good {m : Mach} (h : IsM m) : ∃ l s, Good m l s := by
  obtain ⟨h1, h2, h3, h4, h5⟩ := h
  obtain ⟨l, hl⟩ := Int.eq_ofNat_of_zero_le (show 0 ≤ m.L by omega)
  obtain ⟨s, hs⟩ := Int.eq_ofNat_of_zero_le (show 0 ≤ m.S by omega)
  have cell : ∀ q x, q < s → x < l → (m.nx (q * 3 + x) : Int) < m.S ∧ (m.ot (q * 3 + x) : Int) < m.L ∧ ∀ y, y < x → m.ot (q * 3 + y) ≠ m.ot (q * 3 + x) := fun q x hq hx => by
    have := h5 q (by omega) x (by omega)
    unfold CellOk at this
    rw [if_pos ⟨by omega, by omega⟩] at this
    exact this
  refine ⟨l, s, hl, hs, by omega, by omega, by omega, by omega, fun q x hq hx => ?_, fun q x hq hx => ?_, fun q hq y x hy hx => (cell q x hq hx).2.2 y hy, fun q x hq hx hn => ?_⟩
  · have := (cell q x hq hx).1; omega
  · have := (cell q x hq hx).2.1; omega
  · have := h5 q hq x hx
    unfold CellOk at this
    rw [if_neg (by omega)] at this
    exact this

theorem Good.isM {m : Mach} {l s : Nat} (g : Good m l s) : IsM m := by
  have := g.L; have := g.S; have := g.l2; have := g.l3; have := g.s1; have := g.s16
  refine ⟨by omega, by omega, by omega, by omega, fun q hq x hx => ?_⟩
  unfold CellOk
  by_cases h : (q : Int) < m.S ∧ (x : Int) < m.L
  · rw [if_pos h]
    have a := g.nx q x (by omega) (by omega)
    have b := g.ot q x (by omega) (by omega)
    exact ⟨by omega, by omega, fun y hy => g.inj q (by omega) y x hy (by omega)⟩
  · rw [if_neg h]
    exact g.z q x hq hx (by omega)

/-- Each letter leads all states to different ones. -/
def RevP (m : Mach) (l s : Nat) : Prop := ∀ x, x < l → InjOn (fun q => m.nx (q * 3 + x)) s

theorem two_pow_i64 (n : Nat) (h : n ≤ 16) : wrap64 (2 ^ n) = ((2 ^ n : Nat) : Int) := by
  have h1 : 2 ^ n ≤ 2 ^ 16 := Nat.pow_le_pow_right (by omega) h
  have h2 : (2 : Nat) ^ 16 = 65536 := by decide
  have e : ((2 : Int) ^ n) = ((2 ^ n : Nat) : Int) := by simp
  rw [e]
  generalize (2 ^ n : Nat) = p at *
  exact w64 (by omega) (by omega)
theorem two_pow_lt (n : Nat) (h : n ≤ 16) : 2 ^ n < 9223372036854775808 := by
  have h1 : 2 ^ n ≤ 2 ^ 16 := Nat.pow_le_pow_right (by omega) h
  have h2 : (2 : Nat) ^ 16 = 65536 := by decide
  omega

set_option maxHeartbeats 1000000 in
theorem isReversible_any (b : Nat) (w : World) (m : Mach) (hm : MB w 31 b m) (l s : Nat) (g : Good m l s) (r : Bool) (hr : r = true ↔ RevP m l s) :
    Calls Try.prog 57 #[.pointer (some ⟨b,0,none⟩)] w fun e w' => e = .returned (.bool r) ∧ w = w' := by
  have cL := hm.cL
  have cS := hm.cS
  rw [g.L] at cL
  rw [g.S] at cS
  have hM := hid hm; clear hm
  have hR := hid hr; clear hr
  have l2 := g.l2; have l3 := g.l3; have s1 := g.s1; have s16 := g.s16
  have hp16 := two_pow_i64 s s16
  have hp1 : 1 ≤ 2 ^ s := Nat.one_le_two_pow
  have hp2 : 2 ^ s ≤ 65536 := Nat.pow_le_pow_right (n := 2) (by omega) s16
  replace g := hid g
  generalize hP : (2 ^ s : Nat) = P at *
  replace hP := hid hP
  go_enter Try.func57, Try.ntmps57
  go_wp2
  go_loop [10] (fun i => ∃ x : Nat, x ≤ l ∧ i = .int .i64 x ∧ ∀ y, y < x → InjOn (fun q => m.nx (q * 3 + y)) s) (fun i => l - (intOf i).toNat)
  case atStart => exact ⟨0, by omega, rfl, fun y hy => by omega⟩
  case round =>
    obtain ⟨x, hx, rfl, hall⟩ := hrel
    replace hall := hid hall
    by_cases hlt : x < l
    · have dx : decide ((x : Int) < (l : Int)) = true := decide_eq_true (by omega)
      go_wp2
      go_loop [4, 17] (fun a i => ∃ q : Nat, q ≤ s ∧ i = .int .i64 q ∧ a = .int .i64 (orAll (fun q => m.nx (q * 3 + x)) q : Nat)) (fun _ i => s - (intOf i).toNat)
      case atStart => exact ⟨0, by omega, rfl, rfl⟩
      case round =>
        obtain ⟨q, hq, rfl, rfl⟩ := hrel
        by_cases hlq : q < s
        · have hn := g.out.nx q x hlq hlt
          have hlt2 := orAll_lt (fun q => m.nx (q * 3 + x)) s q (fun p hp => g.out.nx p x (by omega) hlt)
          have e1 := hid (show orAll (fun q => m.nx (q * 3 + x)) (q + 1) = orAll (fun q => m.nx (q * 3 + x)) q ||| (1 <<< m.nx (q * 3 + x)) from rfl)
          have hcall := fun W (hW : MB W 31 b m) => next_any b W m hW q x (by omega) (by omega) (by omega)
          have e2 := hid (or_nat (orAll (fun q => m.nx (q * 3 + x)) q) (2 ^ m.nx (q * 3 + x)) (by rw [hP.out] at hlt2; omega) (two_pow_lt _ (by omega)))
          have e3 := hid (two_pow_i64 (m.nx (q * 3 + x)) (by omega))
          rw [hP.out] at hlt2
          replace hcall := hid hcall
          generalize orAll (fun q => m.nx (q * 3 + x)) q = a at *
          generalize m.nx (q * 3 + x) = nx at *
          go_wp2_with (go_at_call 83; refine (hcall.out _ hM.out).mono ?_; rintro e w' ⟨rfl, rfl⟩)
          go_round
          case rel => exact ⟨q + 1, by omega, by go_num, i64_eq (by rw [e3.out, e2.out, e1.out, Nat.shiftLeft_eq, Nat.one_mul])⟩
          case measure => simp [intOf]; omega
        · obtain rfl : q = s := by omega
          have hfull := hid (orAll_full (fun q => m.nx (q * 3 + x)) q (fun p hp => g.out.nx p x hp hlt))
          have hlt2 := orAll_lt (fun q => m.nx (q * 3 + x)) q q (fun p hp => g.out.nx p x (by omega) hlt)
          generalize ha : orAll (fun q => m.nx (q * 3 + x)) q = a at *
          replace ha := hid ha
          rw [hP.out] at hlt2 hfull
          by_cases hin : InjOn (fun q => m.nx (q * 3 + x)) q
          · have ea := hfull.out.2 hin
            have hb : ((a : Int) != ((P : Int) - 1)) = false := by rw [bne_eq_false_iff_eq]; omega
            clear ea
            go_wp2
            go_round
            case rel =>
              refine ⟨x + 1, by omega, by go_num, fun y hy => ?_⟩
              by_cases e : y = x
              · rw [e]; exact hin
              · exact hall.out y (by omega)
            case measure => simp [intOf]; omega
          · have hf := hid (show r = false by
              cases r
              · rfl
              · exact absurd (hR.out.1 rfl x hlt) hin)
            have hb : ((a : Int) != ((P : Int) - 1)) = true := by
              rw [bne_iff_ne]; intro e; exact hin (hfull.out.1 (by omega))
            go_wp2
            go_ret
            exact ⟨retB hf.out.symm, rfl⟩
    · obtain rfl : x = l := by omega
      have hf := hid (hR.out.2 hall.out)
      go_wp2
      go_ret
      exact ⟨retB hf.out.symm, rfl⟩

/-- The marks of the numbers met so far. -/
def seen (f : Nat → Nat) : Nat → Nat → Bool
  | 0, _ => false
  | q + 1, j => if j = f q then true else seen f q j
theorem seen_iff (f : Nat → Nat) : ∀ q k, seen f q k = true ↔ ∃ p, p < q ∧ f p = k
  | 0, k => by simp [seen]
  | q + 1, k => by
    unfold seen
    by_cases h : k = f q
    · rw [if_pos h]; exact ⟨fun _ => ⟨q, by omega, h.symm⟩, fun _ => rfl⟩
    · rw [if_neg h, seen_iff f q k]
      refine ⟨fun ⟨p, hp, e⟩ => ⟨p, by omega, e⟩, fun ⟨p, hp, e⟩ => ⟨p, ?_, e⟩⟩
      by_cases e2 : p = q
      · subst e2; exact absurd e.symm h
      · omega

theorem bools_const (k : Nat) : (rowL k (bools fun _ => false)) = List.replicate k (.bool false) := by
  induction k with
  | zero => rfl
  | succ k ih =>
    unfold rowL at *
    rw [List.range_succ, List.map_append, ih, List.replicate_succ']
    rfl

set_option maxHeartbeats 1000000 in
set_option maxRecDepth 100000 in
theorem l07Reversible_any (w : World) (m : Mach) (l s : Nat) (g : Good m l s) (r : Bool) (hr : r = true ↔ RevP m l s) :
    Calls Try.prog 54 #[.agg (mcells m)] w fun e w' => e = .returned (.bool r) ∧ Below w.heap.size w w' := by
  have cL := mcells_L m
  have cS := mcells_S m
  rw [g.L] at cL
  rw [g.S] at cS
  have hR := hid hr; clear hr
  have l2 := g.l2; have l3 := g.l3; have s1 := g.s1; have s16 := g.s16
  have hM := hid (MB.new w m 31)
  have hB := hid ((Below.refl w.heap.size w).alloc (Nat.le_refl _) (.cells (mcells m) 31))
  have gL := hid g.L
  have gS := hid g.S
  replace g := hid g
  go_enter Try.func54, Try.ntmps54
  go_wp2
  clear cL cS
  go_loopw [3] (fun i wr => ∃ x : Nat, x ≤ l ∧ i = .int .i64 x ∧ MB wr 31 w.heap.size m ∧ Below w.heap.size w wr ∧ ∀ y, y < x → InjOn (fun q => m.nx (q * 3 + y)) s) (fun i _ => l - (intOf i).toNat)
  case atStart => exact ⟨0, by omega, rfl, hM.out, hB.out, fun y hy => by omega⟩
  case round =>
    obtain ⟨x, hx, rfl, hM2, hB2, hall⟩ := hrel
    replace hall := hid hall
    have cL := hM2.cL
    have cS := hM2.cS
    rw [gL.out] at cL
    rw [gS.out] at cS
    replace hM2 := hid hM2
    replace hB2 := hid hB2
    clear hM hB
    by_cases hlt : x < l
    · have dx : decide ((x : Int) < (l : Int)) = true := decide_eq_true (by omega)
      obtain ⟨wo, rfl⟩ : ∃ wo : World, wo = wr := ⟨_, rfl⟩
      go_wp2
      clear cL cS
      go_loopw [5] (fun i wr => ∃ q : Nat, q ≤ s ∧ i = .int .i64 q ∧ MB wr 31 w.heap.size m ∧ wr.rowIs wo.heap.size 90 16 (bools (seen (fun q => m.nx (q * 3 + x)) q)) ∧ Below w.heap.size w wr ∧ InjOn (fun q => m.nx (q * 3 + x)) q) (fun i _ => s - (intOf i).toNat)
      case atStart =>
        refine ⟨0, by omega, rfl, hM2.out.alloc _, ?_, below_alloc hB2.out (Nat.le_refl _) _, fun i j _ hj => by omega⟩
        exact rowIs_new wo 16 90 (bools fun _ => false)
      case round =>
        obtain ⟨q, hq, rfl, hM3, hrow, hB3, hinj⟩ := hrel
        have hne := hid (show w.heap.size < wo.heap.size from hM2.out.lt)
        have cL := hM3.cL
        have cS := hM3.cS
        rw [gL.out] at cL
        rw [gS.out] at cS
        replace hM3 := hid hM3
        replace hrow := hid hrow
        replace hB3 := hid hB3
        by_cases hlq : q < s
        · have dq : decide ((q : Int) < (s : Int)) = true := decide_eq_true (by omega)
          have h1 := hM3.out.cnx q x (by omega) (by omega)
          have hn := g.out.nx q x hlq hlt
          have hsi := hid (seen_iff (fun q => m.nx (q * 3 + x)) q (m.nx (q * 3 + x)))
          have hmk := hrow.out.cell (i := m.nx (q * 3 + x)) (by omega)
          have hfz : wr.frozen? ⟨wo.heap.size, m.nx (q * 3 + x), none⟩ = false := hrow.out.frozen _
          have hs1 := hid (show ∀ j, seen (fun q => m.nx (q * 3 + x)) (q + 1) j = if j = m.nx (q * 3 + x) then true else seen (fun q => m.nx (q * 3 + x)) q j from fun _ => rfl)
          have hbad := hid (show seen (fun q => m.nx (q * 3 + x)) q (m.nx (q * 3 + x)) = true → r = false from fun h => by
            obtain ⟨p, hp, e⟩ := hsi.out.1 h
            cases r
            · rfl
            · exact absurd e (hR.out.1 rfl x hlt p q hp hlq))
          have hgood := hid (show seen (fun q => m.nx (q * 3 + x)) q (m.nx (q * 3 + x)) = false → InjOn (fun q => m.nx (q * 3 + x)) (q + 1) from fun h i j hij hj e => by
            by_cases ej : j = q
            · subst ej
              have := hsi.out.2 ⟨i, hij, e⟩
              rw [h] at this
              cases this
            · exact hinj i j hij (by omega) e)
          replace hinj := hid hinj
          unfold bools at hmk
          generalize m.nx (q * 3 + x) = nx at *
          cases hb : seen (fun q => m.nx (q * 3 + x)) q nx with
          | true =>
            rw [hb] at hmk
            have hf := hid (hbad.out hb)
            clear hb
            go_wp2
            go_ret
            exact ⟨retB hf.out.symm, hB3.out⟩
          | false =>
            rw [hb] at hmk
            have hf := hid (hgood.out hb)
            clear hb
            go_wp2
            go_roundw
            case rel =>
              refine ⟨q + 1, by omega, by go_num, hM3.out.setOther (by have := hne.out; simp; omega) _, ?_, hB3.out.setCell (by have := hne.out; simp; omega) _, hf.out⟩
              refine World.rowIs.congr (World.rowIs.set (f := bools (seen (fun q => m.nx (q * 3 + x)) q)) hrow.out nx _) (fun i hi => ?_)
              unfold bools
              rw [hs1.out i]
              split <;> rfl
            case measure => simp [intOf]; omega
        · obtain rfl : q = s := by omega
          replace hinj := hid hinj
          go_wp2
          go_roundw
          case rel =>
            refine ⟨x + 1, by omega, by go_num, hM3.out, hB3.out, fun y hy => ?_⟩
            by_cases e : y = x
            · rw [e]; exact hinj.out
            · exact hall.out y (by omega)
          case measure => simp [intOf]; omega
    · obtain rfl : x = l := by omega
      have hf := hid (hR.out.2 hall.out)
      go_wp2
      go_ret
      exact ⟨retB hf.out.symm, hB2.out⟩
end Go.Proofs.Ytapbcfnlcnboeaa
