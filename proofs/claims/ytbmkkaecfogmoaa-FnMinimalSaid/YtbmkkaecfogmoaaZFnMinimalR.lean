/- What the proof of FnMinimal leans on, part 18 of 21. -/
import Derived.Test.YtbmkkaecfogmoaaZFnMinimalQ
/- The program's TrivialStates. -/
namespace Go.Proofs.Ytbmkkaecfogmoaa
open Go.RowKit
set_option linter.unusedVariables false
set_option linter.unusedSimpArgs false
-- @LONG

/-- The places below k that hold true. -/
def trl (B : List Bool) : Nat → List Int
  | 0 => []
  | k + 1 => if B.getD k false then trl B k ++ [(k : Int)] else trl B k
theorem trl_len (B : List Bool) : ∀ k, (trl B k).length ≤ k
  | 0 => Nat.le_refl 0
  | k + 1 => by
    have := trl_len B k
    unfold trl
    split
    · rw [List.length_append, List.length_singleton]; omega
    · omega
open Classical in
/-- The trivial states and the code. -/
noncomputable def triAns (m : Mach) : List Int × Int := if IsM m then (trl (tvL (tabOf m m.L.toNat m.S.toNat)) m.S.toNat, 0) else ([], 1)
theorem tri_good {m : Mach} {l s : Nat} (g : Good m l s) : triAns m = (trl (tvL (tabOf m l s)) s, 0) := by
  unfold triAns; rw [if_pos g.isM, g.L, g.S]; rfl
set_option maxHeartbeats 4000000 in
set_option maxRecDepth 100000 in
theorem implTri_any (w : World) (m : Mach) (hk : m.Ok) :
    Calls Try.prog 12 #[.agg (mcells m)] w fun e w' => ∃ v, e = .returned (.tuple #[v, .int .i64 (triAns m).2]) ∧ Own w' w.heap.size 2 v (ints (triAns m).1) ∧ Below w.heap.size w w' := by
  have hS := hid ((St.start w).newMB m 27)
  by_cases hm : IsM m
  · obtain ⟨l, s, g⟩ := hm.good
    rw [tri_good g]
    have s1 := g.s1; have s16 := g.s16
    have him := hid (fun W => IsMachine_any W m hk true (iff_of_true rfl hm))
    have hta := hid (fun W hW => table_any w.heap.size W m hW l s g)
    have htr := hid (fun W G vN vO (h : TB W G vN vO (tabOf m l s)) => trivial_any W G vN vO (tabOf m l s) (tabOf_ok g) g.l3 (by have := g.l2; show 0 < l; omega) (by show s < 100000; omega) h)
    have hBl := hid (show (tvL (tabOf m l s)).length = s from tvL_length _)
    replace hk := hid hk
    clear hm g
    generalize tvL (tabOf m l s) = B at *
    have hbg := hid (fun k (hk : k < s) => (show (bls B)[k]? = some (.bool (B.getD k false)) from bls_get (by rw [List.getD_eq_getElem?_getD, List.getElem?_eq_getElem (by rw [hBl.out]; exact hk)]; rfl)))
    have htl := hid (trl_len B)
    have hts := hid (fun k => (show trl B (k + 1) = if B.getD k false then trl B k ++ [(k : Int)] else trl B k from rfl))
    generalize trl B = R at *
    go_enter Try.func12, Try.ntmps12
    go_upto_region 5 with (first
      | ((with_reducible refine gate (N := 7) rfl ?_); refine load_mach rfl _ rfl w.heap.size rfl m hS.out.m0 ?_)
      | (go_at_call 65; (with_reducible refine (him.out _).mono ?_); rintro e w1 ⟨rfl, hb⟩; replace hS := hid (hS.out.call hb); clear hb)
      | (go_at_call 82; (with_reducible refine (hta.out _ hS.out.m0).mono ?_); rintro e w2 ⟨vN, vO, rfl, hTB, hb⟩; replace hTB := hid hTB; replace hS := hid (hS.out.call hb); clear hb)
      | (go_at_call 83; (with_reducible refine (htr.out _ _ _ _ hTB.out).mono ?_); rintro e w3 ⟨vB, rfl, hO, hb⟩; (obtain ⟨gB, cB, rfl, _, _⟩ := hO.blk (fun e => by have h1 := congrArg List.length e; rw [bls_length, hBl.out] at h1; simp at h1; omega)); rw [bls_length, hBl.out] at hO ⊢; replace hS := hid (hS.out.callOwn hb hO); clear hb hO hTB))
    replace hS := hid (hS.out.nilOwn 2)
    go_wp2
    go_loopw [4, 13] (fun o i wr => ∃ k : Nat, k ≤ s ∧ i = .int .i64 k ∧ St w.heap.size w [Asn.own w.heap.size 2 o (ints (R k)), Asn.own w.heap.size 4 (.slice (some ⟨gB, 0, none⟩) s cB) (bls B), Asn.mb 27 w.heap.size m] wr) (fun _ i _ => s - (intOf i).toNat)
    case atStart => exact ⟨0, Nat.zero_le _, rfl, by have h := hS.out; rw [show R 0 = [] from List.eq_nil_of_length_eq_zero (Nat.le_zero.1 (htl.out 0))]; exact h⟩
    case round =>
      obtain ⟨k, hk', rfl, rS⟩ := hrel
      clear hS
      by_cases hlt : k < s
      · have dk : decide ((k : Int) < (s : Int)) = true := decide_eq_true (by omega)
        have ck := rS.o1.cellAt k _ (hbg.out k hlt)
        have k0 : (0 : Int) ≤ (k : Int) := Int.natCast_nonneg _
        have k1 : (k : Int) < (s : Int) := by omega
        have hst := hid (hts.out k)
        have hlen := hid (ints_length (R k))
        have hlm := htl.out k
        replace rS := hid rS
        generalize B.getD k false = b at *
        cases b
        · go_wp2
          go_roundw
          case rel => exact ⟨k + 1, by omega, by go_num, by rw [hst.out]; exact rS.out⟩
          case measure => simp [intOf]; omega
        · go_wp2_with (
            ((with_reducible refine gate (N := 22) rfl ?_); refine St.app 29 2 (.int .i64 0) 8 Try.underlying29 info_i64 rfl (by omega) rfl _ _ rfl _ _ rfl rS.out _ rfl rfl (R k).length hlen.out (by omega) ?_; intro gn cn w5 rS'; replace rS := hid rS'; clear rS' ck))
          go_roundw
          case rel => exact ⟨k + 1, by omega, by go_num, by rw [hst.out]; simpa [ints] using rS.out⟩
          case measure => simp [intOf]; omega
      · obtain rfl : k = s := by omega
        have dk : decide ((k : Int) < (k : Int)) = false := decide_eq_false (by omega)
        go_wp2
        go_ret2
        exact ⟨_, rfl, rS.o0, rS.bel⟩
  · have hA : triAns m = ([], 1) := by unfold triAns; rw [if_neg hm]
    rw [hA]
    have him := hid (fun W => IsMachine_any W m hk false (iff_of_false (by decide) hm))
    replace hk := hid hk
    clear hm hA
    go_enter Try.func12, Try.ntmps12
    go_wp2_with (first
      | ((with_reducible refine gate (N := 7) rfl ?_); refine load_mach rfl _ rfl w.heap.size rfl m hS.out.m0 ?_)
      | (go_at_call 65; (with_reducible refine (him.out _).mono ?_); rintro e w1 ⟨rfl, hb⟩; replace hS := hid (hS.out.call hb); clear hb))
    go_ret2
    exact ⟨_, rfl, Own.nil _ _ _, hS.out.bel⟩
end Go.Proofs.Ytbmkkaecfogmoaa

/- Minimal machines: plain laws. -/
namespace Go.Proofs.Ytbmkkaecfogmoaa
set_option linter.unusedVariables false
set_option linter.unusedSimpArgs false

/-- The states that are the least of their classes. -/
def mst (T : Tab) : List Nat := (List.range T.n).filter fun q => fix T q == q
section
variable {T : Tab}
theorem mst_mem {c : Nat} : c ∈ mst T ↔ c < T.n ∧ fix T c = c := by simp [mst]
theorem mst_nodup (T : Tab) : (mst T).Nodup := List.Pairwise.filter _ List.nodup_range
theorem mst_len (T : Tab) : (mst T).length ≤ T.n := by
  have := List.length_filter_le (fun q => fix T q == q) (List.range T.n)
  rwa [List.length_range] at this
theorem mst_fix {q : Nat} (hq : q < T.n) : fix T q ∈ mst T := mst_mem.2 ⟨fix_lt q hq, fix_fix T q⟩
theorem mst_cl (hT : T.Ok) : ∀ s ∈ mst T, ∀ x, x < T.L → fix T (T.nx s x) ∈ mst T := fun s hs x hx => mst_fix (hT.nx s x (mst_mem.1 hs).1 hx)
theorem mst_lt : ∀ s ∈ mst T, s < T.n := fun s hs => (mst_mem.1 hs).1
theorem mst_pos (hT : T.Ok) : 0 < (mst T).length := List.length_pos_of_mem (mst_fix hT.pos)
/-- The minimal machine of a table. -/
def mnM (T : Tab) : Mach := gth T (fix T) (mst T)
def mnN (T : Tab) : List Nat := (List.range T.n).map fun q => (mst T).idxOf (fix T q)
theorem mnN_at {q : Nat} (hq : q < T.n) : (mnN T)[q]? = some ((mst T).idxOf (fix T q)) := by simp [mnN, hq]
theorem mnN_lt {q : Nat} (hq : q < T.n) : (mst T).idxOf (fix T q) < (mst T).length := List.idxOf_lt_length_of_mem (mst_fix hq)
theorem mn_nx (hT : T.Ok) (h3 : T.L ≤ 3) {i x s : Nat} (hi : (mst T)[i]? = some s) (hx : x < T.L) : (mnM T).nx (i * 3 + x) = (mst T).idxOf (fix T (T.nx s x)) := by
  have hl := (List.getElem?_eq_some_iff.1 hi).1
  unfold mnM gth gthP
  dsimp only
  rw [if_pos (by omega), show (i * 3 + x) / 3 = i by omega, show (i * 3 + x) % 3 = x by omega, List.getD_eq_getElem?_getD, hi]; rfl
theorem mn_ot (h3 : T.L ≤ 3) {i x s : Nat} (hi : (mst T)[i]? = some s) (hx : x < T.L) : (mnM T).ot (i * 3 + x) = T.ot s x := by
  have hl := (List.getElem?_eq_some_iff.1 hi).1
  unfold mnM gth gthP
  dsimp only
  rw [if_pos (by omega), show (i * 3 + x) / 3 = i by omega, show (i * 3 + x) % 3 = x by omega, List.getD_eq_getElem?_getD, hi]; rfl
theorem mst_at {i : Nat} (hi : i < (mst T).length) : ∃ s, (mst T)[i]? = some s ∧ s < T.n ∧ fix T s = s := by
  refine ⟨_, List.getElem?_eq_getElem hi, ?_⟩
  exact mst_mem.1 (List.getElem_mem hi)
theorem mn_ok (hT : T.Ok) (h3 : T.L ≤ 3) : (tabOf (mnM T) T.L (mst T).length).Ok := ⟨mst_pos hT, fun i x hi hx => by
  obtain ⟨s, hs, h1, h2⟩ := mst_at hi
  show (mnM T).nx (i * 3 + x) < _
  rw [mn_nx hT h3 hs hx]
  exact mnN_lt (hT.nx s x h1 hx)⟩
theorem mn_bis (hT : T.Ok) (h3 : T.L ≤ 3) : Bis (tabOf (mnM T) T.L (mst T).length) T (fun i a => (mst T)[i]? = some (fix T a) ∧ a < T.n) := by
  refine ⟨rfl, fun h => (List.getElem?_eq_some_iff.1 h.1).1, fun h => h.2, fun {i a} h x hx => ?_, fun {i a} h x hx => ⟨?_, hT.nx _ x h.2 hx⟩⟩
  · show (mnM T).ot (i * 3 + x) = _
    rw [mn_ot h3 h.1 hx]
    exact fix_ot T a x hx
  · show (mst T)[(mnM T).nx (i * 3 + x)]? = _
    rw [mn_nx hT h3 h.1 hx, fix_nx hT h.2 hx]
    have hlt := mnN_lt (T := T) (hT.nx a x h.2 hx)
    rw [List.getElem?_eq_getElem hlt, List.getElem_idxOf hlt]
theorem nodup_inj {α : Type} {l : List α} (h : l.Nodup) (i j : Nat) (hi : i < l.length) (hj : j < l.length) (e : l[i] = l[j]) : i = j := by
  rcases Nat.lt_trichotomy i j with h1 | h1 | h1
  · exact absurd e (List.pairwise_iff_getElem.1 h i j hi hj h1)
  · exact h1
  · exact absurd e.symm (List.pairwise_iff_getElem.1 h j i hj hi h1)
/-- No two states of a minimal machine are equal. -/
theorem mn_fix (hT : T.Ok) (h3 : T.L ≤ 3) {i : Nat} (hi : i < (mst T).length) : fix (tabOf (mnM T) T.L (mst T).length) i = i := by
  have hU := mn_ok hT h3
  have hj : fix (tabOf (mnM T) T.L (mst T).length) i < (mst T).length := fix_lt (T := tabOf (mnM T) T.L (mst T).length) i hi
  obtain ⟨s, hs, s1, s2⟩ := mst_at hi
  obtain ⟨t, ht, t1, t2⟩ := mst_at hj
  have h := (Bis.fix (mn_bis hT h3) hU hT ⟨by rw [t2]; exact ht, t1⟩ ⟨by rw [s2]; exact hs, s1⟩).1 (fix_fix _ i)
  rw [t2, s2] at h
  subst h
  have e1 := List.getElem?_eq_some_iff.1 hs
  have e2 := List.getElem?_eq_some_iff.1 ht
  obtain ⟨a1, b1⟩ := e1
  obtain ⟨a2, b2⟩ := e2
  exact nodup_inj (mst_nodup T) _ _ a2 a1 (b2.trans b1.symm)
theorem filter_all {l : List Nat} {p : Nat → Bool} (h : ∀ x ∈ l, p x = true) : l.filter p = l := List.filter_eq_self.2 h
theorem mn_mst (hT : T.Ok) (h3 : T.L ≤ 3) : mst (tabOf (mnM T) T.L (mst T).length) = List.range (mst T).length := by
  show (List.range (mst T).length).filter _ = _
  refine filter_all fun i hi => ?_
  rw [beq_iff_eq]
  exact mn_fix hT h3 (List.mem_range.1 hi)
theorem idxOf_range {n i : Nat} (h : i < n) : (List.range n).idxOf i = i := by
  have hm : i ∈ List.range n := List.mem_range.2 h
  have hlt := List.idxOf_lt_length_of_mem hm
  have e := List.getElem_idxOf hlt
  rw [List.getElem_range] at e
  exact e
theorem mach_ext {m k : Mach} (h1 : m.L = k.L) (h2 : m.S = k.S) (h3 : ∀ p, m.nx p = k.nx p) (h4 : ∀ p, m.ot p = k.ot p) : m = k := by
  cases m; cases k
  dsimp only at h1 h2 h3 h4
  subst h1; subst h2
  rw [funext h3, funext h4]
theorem mnM_L (T : Tab) : (mnM T).L = (T.L : Nat) := rfl
theorem mnM_S (T : Tab) : (mnM T).S = ((mst T).length : Nat) := rfl
theorem tab_nx (m : Mach) (l s q x : Nat) : (tabOf m l s).nx q x = m.nx (q * 3 + x) := rfl
theorem tab_ot (m : Mach) (l s q x : Nat) : (tabOf m l s).ot q x = m.ot (q * 3 + x) := rfl
theorem tab_L (m : Mach) (l s : Nat) : (tabOf m l s).L = l := rfl
theorem mnM_out (U : Tab) (p : Nat) (hp : ¬ (p / 3 < (mst U).length ∧ p % 3 < U.L)) : (mnM U).nx p = 0 ∧ (mnM U).ot p = 0 := by
  unfold mnM gth gthP
  dsimp only
  rw [if_neg (by omega), if_neg (by omega)]
  exact ⟨rfl, rfl⟩
/-- The minimal machine of a minimal machine is the machine itself. -/
theorem mn_again (hT : T.Ok) (h3 : T.L ≤ 3) : mnM (tabOf (mnM T) T.L (mst T).length) = mnM T := by
  have hmst := mn_mst hT h3
  have hlen : (mst (tabOf (mnM T) T.L (mst T).length)).length = (mst T).length := by rw [hmst, List.length_range]
  have hU := mn_ok hT h3
  have key : ∀ p, p / 3 < (mst T).length → p % 3 < T.L → (mnM (tabOf (mnM T) T.L (mst T).length)).nx p = (mnM T).nx p ∧ (mnM (tabOf (mnM T) T.L (mst T).length)).ot p = (mnM T).ot p := fun p hp hx => by
    have hat : (mst (tabOf (mnM T) T.L (mst T).length))[p / 3]? = some (p / 3) := by rw [hmst]; simp [hp]
    have e := Nat.div_add_mod p 3
    have e2 : p / 3 * 3 + p % 3 = p := by omega
    have h1 := mn_nx (T := tabOf (mnM T) T.L (mst T).length) hU h3 hat hx
    have h2 := mn_ot (T := tabOf (mnM T) T.L (mst T).length) h3 hat hx
    rw [e2] at h1 h2
    rw [h1, h2, hmst]
    have hn : (tabOf (mnM T) T.L (mst T).length).nx (p / 3) (p % 3) < (mst T).length := hU.nx _ _ hp hx
    rw [mn_fix hT h3 hn, idxOf_range hn, tab_nx, tab_ot, e2]
    exact ⟨rfl, rfl⟩
  generalize hU2 : mnM (tabOf (mnM T) T.L (mst T).length) = U2 at *
  have o2 := mnM_out (tabOf (mnM T) T.L (mst T).length)
  rw [hU2, hlen, tab_L] at o2
  have o1 := mnM_out T
  have eL : U2.L = (mnM T).L := by rw [← hU2, mnM_L, mnM_L, tab_L]
  have eS : U2.S = (mnM T).S := by rw [← hU2, mnM_S, mnM_S, hlen]
  refine mach_ext eL eS (fun p => ?_) (fun p => ?_)
  · by_cases hp : p / 3 < (mst T).length ∧ p % 3 < T.L
    · exact (key p hp.1 hp.2).1
    · rw [(o1 p hp).1, (o2 p hp).1]
  · by_cases hp : p / 3 < (mst T).length ∧ p % 3 < T.L
    · exact (key p hp.1 hp.2).2
    · rw [(o1 p hp).2, (o2 p hp).2]
end

section
variable {m : Mach} {l s : Nat}
theorem mn_good (g : Good m l s) : Good (mnM (tabOf m l s)) l (mst (tabOf m l s)).length := by
  have hT := tabOf_ok g
  have h3 : (tabOf m l s).L ≤ 3 := g.l3
  have hl : (tabOf m l s).L = l := rfl
  refine ⟨rfl, rfl, g.l2, g.l3, mst_pos hT, Nat.le_trans (mst_len _) g.s16, ?_, ?_, ?_, ?_⟩
  · intro q x hq hx
    exact (mn_ok hT h3).nx q x hq hx
  · intro q x hq hx
    obtain ⟨r, hr, h1, _⟩ := mst_at hq
    rw [mn_ot h3 hr hx]
    exact g.ot r x h1 hx
  · intro q hq y x hy hx
    obtain ⟨r, hr, h1, _⟩ := mst_at hq
    rw [mn_ot h3 hr (show y < l by omega), mn_ot h3 hr hx]
    exact g.inj r h1 y x hy hx
  · intro q x hq hx hn
    unfold mnM gth gthP
    dsimp only
    rw [if_neg (by rw [hl]; omega), if_neg (by rw [hl]; omega)]
    exact ⟨rfl, rfl⟩
theorem mn_Ok (g : Good m l s) : (mnM (tabOf m l s)).Ok := fun p => by
  have h := mn_good g
  have hs := h.s16
  have h3 := g.l3
  have hl : (tabOf m l s).L = l := rfl
  by_cases hp : p / 3 < (mst (tabOf m l s)).length ∧ p % 3 < l
  · have h1 := h.nx (p / 3) (p % 3) hp.1 hp.2
    have h2 := h.ot (p / 3) (p % 3) hp.1 hp.2
    rw [show p / 3 * 3 + p % 3 = p by omega] at h1 h2
    omega
  · unfold mnM gth gthP
    dsimp only
    rw [if_neg (by rw [hl]; omega), if_neg (by rw [hl]; omega)]
    exact ⟨by omega, by omega⟩
/-- What a state does, its state of the minimal machine does. -/
theorem mn_img (g : Good m l s) {q : Nat} (hq : q < s) {u : List Nat} (hu : ∀ x ∈ u, x < l) : img (mnM (tabOf m l s)) ((mst (tabOf m l s)).idxOf (fix (tabOf m l s) q)) u = img m q u := by
  have hT := tabOf_ok g
  have h3 : (tabOf m l s).L ≤ 3 := g.l3
  have hlt := mnN_lt (T := tabOf m l s) hq
  have hR : (mst (tabOf m l s))[(mst (tabOf m l s)).idxOf (fix (tabOf m l s) q)]? = some (fix (tabOf m l s) q) := by rw [List.getElem?_eq_getElem hlt, List.getElem_idxOf hlt]
  have hS : Sim (tabOf (mnM (tabOf m l s)) (tabOf m l s).L (mst (tabOf m l s)).length) ((mst (tabOf m l s)).idxOf (fix (tabOf m l s) q)) (tabOf m l s) q := ⟨_, mn_bis hT h3, hR, hq⟩
  have h := hS.imgT u hu
  rw [imgT_tab, imgT_tab] at h
  exact h
theorem tv_img {q : Nat} : ∀ {u : List Nat}, (∀ x ∈ u, x < l) → Tv (tabOf m l s) q → img m q u = u
  | [], _, _ => rfl
  | x :: u, hu, h => by
    have hx := hu x (by simp)
    obtain ⟨h1, h2⟩ := h.keep x hx
    show m.ot (q * 3 + x) :: img m (m.nx (q * 3 + x)) u = x :: u
    rw [show m.ot (q * 3 + x) = x from h1, tv_img (q := m.nx (q * 3 + x)) (fun z hz => hu z (by simp [hz])) h2]
end
open Classical in
noncomputable def minAns (m : Mach) : Mach × List Int × Int := if IsM m then (mnM (tabOf m m.L.toNat m.S.toNat), (mnN (tabOf m m.L.toNat m.S.toNat)).map Int.ofNat, 0) else (⟨0, 0, fun _ => 0, fun _ => 0⟩, [], 1)
theorem minAns_good {m : Mach} {l s : Nat} (g : Good m l s) : minAns m = (mnM (tabOf m l s), (mnN (tabOf m l s)).map Int.ofNat, 0) := by
  have e1 : m.L.toNat = l := by rw [g.L]; rfl
  have e2 : m.S.toNat = s := by rw [g.S]; rfl
  unfold minAns
  rw [if_pos g.isM, e1, e2]
theorem minAns_bad {m : Mach} (h : ¬ IsM m) : minAns m = (⟨0, 0, fun _ => 0, fun _ => 0⟩, [], 1) := by unfold minAns; rw [if_neg h]
end Go.Proofs.Ytbmkkaecfogmoaa

/- Trivial states over an array, and what leans on classes: the reference's l01Trivial, TrivialStates, AreEqualStates. -/
namespace Go.Proofs.Ytbmkkaecfogmoaa
open Go.RowKit
set_option linter.unusedVariables false
set_option linter.unusedSimpArgs false
-- @LONG

/-- Truth values in an array. -/
def vB (f : Nat → Bool) (j : Nat) : Value := .bool (f j)
set_option maxHeartbeats 8000000 in
set_option maxRecDepth 100000 in
theorem l01Trivial_any (w : World) (m : Mach) (l s : Nat) (g : Good m l s) :
    Calls Try.prog 84 #[.agg (mcells m)] w fun e w' => e = .returned (.agg (rowL 16 (vB (ttA (tabOf m l s) (s + 1)))).toArray) ∧ Below w.heap.size w w' := by
  obtain ⟨T, hTe⟩ : ∃ T, T = tabOf m l s := ⟨_, rfl⟩
  have hTL := hid (show T.L = l by rw [hTe]; rfl)
  have hnx := hid (fun q x (hq : q < s) (hx : x < l) => (show m.nx (q * 3 + x) < 16 ∧ T.nx q x = m.nx (q * 3 + x) from ⟨by have := g.nx q x hq hx; have := g.s16; omega, by rw [hTe]; rfl⟩))
  have hot := hid (fun q x (hq : q < s) (hx : x < l) => (show m.ot (q * 3 + x) < 3 ∧ T.ot q x = m.ot (q * 3 + x) from ⟨by have := g.ot q x hq hx; have := g.l3; omega, by rw [hTe]; rfl⟩))
  have h0 := hid (show ttA T 0 = fun j => decide (j < s) from by funext j; rw [hTe]; rfl)
  have hA := hid (fun r => (show ttA T (r + 1) = ttQ T (ttA T r) s from by rw [hTe]; rfl))
  have hQ := hid (fun bl q => (show ttQ T bl (q + 1) = ttR T (ttQ T bl q) q l from by rw [← hTL.out]; rfl))
  have hR := hid (fun bl q x => (show ttR T bl q (x + 1) = tt1 T (ttR T bl q x) q x from rfl))
  have hQ0 := hid (fun bl => (show ttQ T bl 0 = bl from rfl))
  have hR0 := hid (fun bl q => (show ttR T bl q 0 = bl from rfl))
  have l3 := g.l3; have l2 := g.l2; have s16 := g.s16; have s1 := g.s1
  have gS := hid g.S; have gL := hid g.L
  have hS := (((St.start w).newMB m 27).newB16 94).newB16 94
  simp only [heap_alloc_size] at hS
  replace hS := hid (hS.vecEq (g := vB (fun j => decide (j < 0))) (by funext j; unfold vB; dsimp only; rw [decide_eq_false (Nat.not_lt_zero _)]))
  have hle1 := hid (show w.heap.size ≤ w.heap.size + 1 by omega)
  have hle2 := hid (show w.heap.size ≤ w.heap.size + 1 + 1 by omega)
  rw [← hTe]
  clear hTe g
  generalize ttA T = A at *
  generalize hQg : ttQ T = QQ at *
  generalize hRg : ttR T = RR at *
  clear hQg hRg
  go_enter Try.func84, Try.ntmps84
  go_wp2
  go_loopw [4] (fun i wr => ∃ q : Nat, q ≤ s ∧ i = .int .i64 q ∧ St w.heap.size w [Asn.vec (w.heap.size + 1 + 1) 94 16 (vB (fun j => decide (j < q))), Asn.vec (w.heap.size + 1) 94 16 (fun _ => .bool false), Asn.mb 27 w.heap.size m] wr) (fun i _ => s - (intOf i).toNat)
  case atStart => exact ⟨0, Nat.zero_le _, rfl, hS.out⟩
  case round =>
    obtain ⟨q, hq, rfl, rS⟩ := hrel
    clear hS
    have cS := rS.m2.cS
    rw [gS.out] at cS
    by_cases hlq : q < s
    · have dq : decide ((q : Int) < (s : Int)) = true := decide_eq_true (by omega)
      have q0 : (0 : Int) ≤ (q : Int) := Int.natCast_nonneg _
      have q1 : (q : Int) < 16 := by omega
      have c0 : wr.cell? ⟨w.heap.size + 1 + 1, q, none⟩ = some _ := rS.v0.cell (i := q) (by omega)
      have f0 : wr.frozen? ⟨w.heap.size + 1 + 1, q, none⟩ = false := rS.v0.frozen _
      have rS2 := hid (rS.setVec hle2.out q (.bool true) (vB (fun j => decide (j < q + 1))) (fun j hj => by
        unfold vB
        dsimp only
        by_cases e : j = q
        · subst e; rw [if_pos rfl, decide_eq_true (Nat.lt_succ_self _)]
        · rw [if_neg e]
          by_cases h : j < q
          · rw [decide_eq_true h, decide_eq_true (show j < q + 1 by omega)]
          · rw [decide_eq_false h, decide_eq_false (show ¬ j < q + 1 by omega)]))
      replace rS := hid rS
      go_wp2
      go_roundw
      case rel => exact ⟨q + 1, by omega, by go_num, rS2.out⟩
      case measure => simp [intOf]; omega
    · obtain rfl : q = s := by omega
      have dq : decide ((q : Int) < (q : Int)) = false := decide_eq_false (by omega)
      rw [← h0.out] at rS
      have rS0 := hid rS
      clear rS
      go_wp2
      clear cS
      go_loopw [5] (fun i wr => ∃ r : Nat, r ≤ q + 1 ∧ i = .int .i64 r ∧ St w.heap.size w [Asn.vec (w.heap.size + 1 + 1) 94 16 (vB (A r)), Asn.vec (w.heap.size + 1) 94 16 (fun _ => .bool false), Asn.mb 27 w.heap.size m] wr) (fun i _ => q + 1 - (intOf i).toNat)
      case atStart => exact ⟨0, Nat.zero_le _, rfl, rS0.out⟩
      case round =>
        obtain ⟨r, hr, rfl, rS⟩ := hrel
        clear rS0
        have cS := rS.m2.cS
        rw [gS.out] at cS
        by_cases hlr : r ≤ q
        · have dr : decide ((r : Int) ≤ (q : Int)) = true := decide_eq_true (by omega)
          rw [← hQ0.out (A r)] at rS
          have hAr := hid (hA.out r)
          generalize A r = bl at *
          replace rS := hid rS
          go_wp2
          clear cS
          go_loopw [6] (fun i wr => ∃ p : Nat, p ≤ q ∧ i = .int .i64 p ∧ St w.heap.size w [Asn.vec (w.heap.size + 1 + 1) 94 16 (vB (QQ bl p)), Asn.vec (w.heap.size + 1) 94 16 (fun _ => .bool false), Asn.mb 27 w.heap.size m] wr) (fun i _ => q - (intOf i).toNat)
          case atStart => exact ⟨0, Nat.zero_le _, rfl, rS.out⟩
          case round =>
            obtain ⟨p, hp, rfl, pS⟩ := hrel
            clear rS
            have cS := pS.m2.cS
            rw [gS.out] at cS
            by_cases hlp : p < q
            · have dp : decide ((p : Int) < (q : Int)) = true := decide_eq_true (by omega)
              rw [← hR0.out (QQ bl p) p] at pS
              have hQp := hid (hQ.out bl p)
              generalize QQ bl p = bq at *
              replace pS := hid pS
              go_wp2
              clear cS
              go_loopw [7] (fun i wr => ∃ x : Nat, x ≤ l ∧ i = .int .i64 x ∧ St w.heap.size w [Asn.vec (w.heap.size + 1 + 1) 94 16 (vB (RR bq p x)), Asn.vec (w.heap.size + 1) 94 16 (fun _ => .bool false), Asn.mb 27 w.heap.size m] wr) (fun i _ => l - (intOf i).toNat)
              case atStart => exact ⟨0, Nat.zero_le _, rfl, pS.out⟩
              case round =>
                obtain ⟨x, hx, rfl, xS⟩ := hrel
                clear pS
                have cL := xS.m2.cL
                rw [gL.out] at cL
                by_cases hlx : x < l
                · have dx : decide ((x : Int) < (l : Int)) = true := decide_eq_true (by omega)
                  obtain ⟨n1, n2⟩ := hnx.out p x hlp hlx
                  obtain ⟨o1, o2⟩ := hot.out p x hlp hlx
                  have hRx := hid (hR.out bq p x)
                  have c0 : wr.cell? ⟨w.heap.size + 1 + 1, p, none⟩ = some (.bool (RR bq p x p)) := xS.v0.cell (i := p) (by omega)
                  have f0 : wr.frozen? ⟨w.heap.size + 1 + 1, p, none⟩ = false := xS.v0.frozen _
                  have c1 := xS.m2.cot p x (by omega) (by omega)
                  have c2 := xS.m2.cnx p x (by omega) (by omega)
                  have c3 : wr.cell? ⟨w.heap.size + 1 + 1, m.nx (p * 3 + x), none⟩ = some (.bool (RR bq p x (m.nx (p * 3 + x)))) := xS.v0.cell n1
                  have x0 : (0 : Int) ≤ (x : Int) := Int.natCast_nonneg _
                  have x1 : (x : Int) < 3 := by omega
                  have p0 : (0 : Int) ≤ (p : Int) := Int.natCast_nonneg _
                  have p1 : (p : Int) < 16 := by omega
                  have hst := hid (fun (u : Bool) (hu : u = ((RR bq p x p && (m.ot (p * 3 + x) == x)) && RR bq p x (m.nx (p * 3 + x)))) => (show St w.heap.size w [Asn.vec (w.heap.size + 1 + 1) 94 16 (vB (RR bq p (x + 1))), Asn.vec (w.heap.size + 1) 94 16 (fun _ => .bool false), Asn.mb 27 w.heap.size m] (wr.setCell ⟨w.heap.size + 1 + 1, p, none⟩ (.bool u)) from xS.setVec hle2.out p (.bool u) _ (fun j hj => by
                    unfold vB
                    rw [hRx.out]
                    unfold tt1
                    by_cases e : j = p
                    · subst e; rw [if_pos rfl, if_pos rfl, hu, o2, n2]
                    · rw [if_neg e, if_neg e])))
                  clear hRx n2 o2
                  generalize RR bq p x (m.nx (p * 3 + x)) = u2 at *
                  generalize RR bq p x p = u1 at *
                  generalize m.nx (p * 3 + x) = v1 at *
                  generalize m.ot (p * 3 + x) = y1 at *
                  have v10 : (0 : Int) ≤ (v1 : Int) := Int.natCast_nonneg _
                  have v11 : (v1 : Int) < 16 := by omega
                  have s1 : IntKind.i64.wrap (y1 : Int) = (y1 : Int) := IntWalk.i64_in _ (by omega)
                  replace xS := hid xS
                  cases u1 with
                  | false =>
                    have hs2 := hid (hst.out false (by simp))
                    clear hst
                    go_wp2
                    go_roundw
                    case rel => exact ⟨x + 1, by omega, by go_num, hs2.out⟩
                    case measure => simp [intOf]; omega
                  | true =>
                    by_cases hy : y1 = x
                    · subst hy
                      have dy : ((y1 : Int) == (y1 : Int)) = true := by simp
                      have hs2 := hid (hst.out u2 (by simp))
                      clear hst
                      go_wp2
                      go_roundw
                      case rel => exact ⟨y1 + 1, by omega, by go_num, hs2.out⟩
                      case measure => simp [intOf]; omega
                    · have dy : ((y1 : Int) == (x : Int)) = false := by simp; omega
                      have hs2 := hid (hst.out false (by
                        have : (y1 == x) = false := by simpa using hy
                        rw [this]; simp))
                      clear hst
                      go_wp2
                      go_roundw
                      case rel => exact ⟨x + 1, by omega, by go_num, hs2.out⟩
                      case measure => simp [intOf]; omega
                · obtain rfl : x = l := by omega
                  have dx : decide ((x : Int) < (x : Int)) = false := decide_eq_false (by omega)
                  rw [← hQp.out] at xS
                  replace xS := hid xS
                  go_wp2
                  go_roundw
                  case rel => exact ⟨p + 1, by omega, by go_num, xS.out⟩
                  case measure => simp [intOf]; omega
            · obtain rfl : p = q := by omega
              have dp : decide ((p : Int) < (p : Int)) = false := decide_eq_false (by omega)
              rw [← hAr.out] at pS
              replace pS := hid pS
              go_wp2
              go_roundw
              case rel => exact ⟨r + 1, by omega, by go_num, pS.out⟩
              case measure => simp [intOf]; omega
        · obtain rfl : r = q + 1 := by omega
          have dr : decide ((((q + 1 : Nat) : Int)) ≤ (q : Int)) = false := decide_eq_false (by omega)
          have hvv := hid rS.v0
          have hv2 := hid rS.v1
          replace rS := hid rS
          go_wp2_with (first
            | ((with_reducible refine gate (N := 61) rfl ?_); refine load_b16 rfl _ rfl (w.heap.size + 1 + 1) rfl _ _ hvv.out ?_)
            | ((with_reducible refine gateOp (op := .store 94 (.tmp 2) (.tmp 61)) rfl ?_); refine store_vec rfl 94 _ _ rfl (w.heap.size + 1) rfl 16 _ rfl _ _ hv2.out sz_b16 (fun i => rfl) ?_; intro w7 p2 ho hbl; replace rS := hid (rS.out.f1.turnVec hle1.out p2 ho hbl); clear p2 ho hbl hvv hv2 cS))
          exact ret_row (n := 16) rfl rfl rS.out.v0 Try.underlying94 rfl sz_b16 rfl ⟨rfl, rS.out.bel⟩
open Classical in
/-- What AreEqualStates answers. -/
noncomputable def aesAns (m : Mach) (q r : Int) : Bool × Int := if codeI m { data := #[] } [q, r] = 0 then (decide (fix (tabOf m m.L.toNat m.S.toNat) q.toNat = fix (tabOf m m.L.toNat m.S.toNat) r.toNat), 0) else (false, codeI m { data := #[] } [q, r])
theorem beq_cast {x y : Nat} {b : Bool} (h : b = true ↔ x = y) : (((x : Nat) : Int) == ((y : Nat) : Int)) = b := by
  by_cases e : x = y
  · rw [h.2 e, e]; simp
  · have h1 : b = false := by cases b with
      | false => rfl
      | true => exact absurd (h.1 rfl) e
    have h2 : ((x : Nat) : Int) ≠ ((y : Nat) : Int) := by omega
    rw [h1]; simpa using h2
theorem isWd0 (l : Nat) : IsWd l { data := #[] } := isWd_nil _
theorem aes_cases (m : Mach) (q r : Int) : (¬ IsM m ∧ codeI m { data := #[] } [q, r] = 1 ∧ aesAns m q r = (false, 1)) ∨ (∃ l s, Good m l s ∧ ¬ ((0 ≤ q ∧ q < (s : Int)) ∧ (0 ≤ r ∧ r < (s : Int))) ∧ codeI m { data := #[] } [q, r] = 2 ∧ aesAns m q r = (false, 2))
    ∨ ∃ (l s q' r' : Nat) (b : Bool), Good m l s ∧ q = q' ∧ r = r' ∧ q' < s ∧ r' < s ∧ codeI m { data := #[] } [q, r] = 0 ∧ (b = true ↔ fix (tabOf m l s) q' = fix (tabOf m l s) r') ∧ aesAns m q r = (b, 0) := by
  by_cases hm : IsM m
  · obtain ⟨l, s, g⟩ := hm.good
    by_cases h : (0 ≤ q ∧ q < (s : Int)) ∧ (0 ≤ r ∧ r < (s : Int))
    · obtain ⟨q', rfl⟩ := Int.eq_ofNat_of_zero_le h.1.1
      obtain ⟨r', rfl⟩ := Int.eq_ofNat_of_zero_le h.2.1
      have hc : codeI m { data := #[] } [(q' : Int), (r' : Int)] = 0 := codeI_0 g (isWd0 l) (fun x hx => by
        simp only [List.mem_cons, List.not_mem_nil, or_false] at hx
        rcases hx with rfl | rfl
        · exact h.1
        · exact h.2)
      have e1 : m.L.toNat = l := by rw [g.L]; rfl
      have e2 : m.S.toNat = s := by rw [g.S]; rfl
      refine .inr (.inr ⟨l, s, q', r', _, g, rfl, rfl, by omega, by omega, hc, decide_eq_true_iff, ?_⟩)
      unfold aesAns
      rw [if_pos hc, e1, e2]; rfl
    · have hc : codeI m { data := #[] } [q, r] = 2 := codeI_2 g (isWd0 l) (fun k => h ⟨k q (by simp), k r (by simp)⟩)
      refine .inr (.inl ⟨l, s, g, h, hc, ?_⟩)
      unfold aesAns
      rw [hc, if_neg (by decide)]
  · have hc : codeI m { data := #[] } [q, r] = 1 := codeI_1 hm
    refine .inl ⟨hm, hc, ?_⟩
    unfold aesAns
    rw [hc, if_neg (by decide)]
set_option maxHeartbeats 4000000 in
set_option maxRecDepth 100000 in
theorem specTri_any (w : World) (m : Mach) (hk : m.Ok) :
    Calls Try.prog 13 #[.agg (mcells m)] w fun e w' => ∃ v, e = .returned (.tuple #[v, .int .i64 (triAns m).2]) ∧ Own w' w.heap.size 2 v (ints (triAns m).1) ∧ Below w.heap.size w w' := by
  have hS := hid ((St.start w).newMB m 27)
  by_cases hm : IsM m
  · obtain ⟨l, s, g⟩ := hm.good
    have him := hid (fun W => l01Is_any W m hk true (iff_of_true rfl hm))
    have htr := hid (fun W => l01Trivial_any W m l s g)
    have gS := hid g.S
    have s16 := g.s16
    have hB := hid (fun k (hk : k < s) => (show (tvL (tabOf m l s)).getD k false = ttA (tabOf m l s) (s + 1) k from by
      obtain ⟨b, h1, h2⟩ := tvL_get (tabOf m l s) k hk
      rw [List.getD_eq_getElem?_getD, h1]
      show b = _
      have h3 := ttA_iff (T := tabOf m l s) k
      rw [Bool.eq_iff_iff, h2]
      exact h3.symm))
    rw [tri_good g]
    replace hk := hid hk; replace hm := hid hm
    clear g
    generalize tvL (tabOf m l s) = B at *
    generalize ttA (tabOf m l s) (s + 1) = A at *
    have htl := hid (trl_len B)
    have hts := hid (fun k => (show trl B (k + 1) = if B.getD k false then trl B k ++ [(k : Int)] else trl B k from rfl))
    have ht0 := hid (show trl B 0 = [] from rfl)
    generalize trl B = R at *
    go_enter Try.func13, Try.ntmps13
    go_upto_region 4 with (first
      | ((with_reducible refine gate (N := 7) rfl ?_); refine load_mach rfl _ rfl w.heap.size rfl m hS.out.m0 ?_)
      | (go_at_call 80; (with_reducible refine (him.out _).mono ?_); rintro e w1 ⟨rfl, hb⟩; replace hS := hid (hS.out.call hb); clear hb)
      | ((with_reducible refine gate (N := 10) rfl ?_); refine load_mach rfl _ rfl w.heap.size rfl m hS.out.m0 ?_)
      | (go_at_call 84; (with_reducible refine (htr.out _).mono ?_); rintro e w2 ⟨rfl, hb⟩; have hle := hid (Nat.le_succ_of_le (hS.out.call hb).le); replace hS := hid ((hS.out.call hb).ownVecB 2 94); clear hb)
      | ((with_reducible refine gateOp (op := .store 94 (.tmp 4) (.tmp 11)) rfl ?_); refine store_vec rfl 94 _ _ rfl (w2.heap.size + 1) rfl 16 (vB A) rfl _ _ hS.out.v0 sz_b16 (fun i => rfl) ?_; intro w3 p2 ho hbl; replace hS := hid (hS.out.turnVec hle.out p2 ho hbl); clear p2 ho hbl))
    have hS2 := hid hS.out.f1
    clear hS
    generalize w2.heap.size = g2 at *
    go_wp2
    go_loopw [5, 6] (fun o i wr => ∃ k : Nat, k ≤ s ∧ i = .int .i64 k ∧ St w.heap.size w [Asn.own w.heap.size 2 o (ints (R k)), Asn.vec (g2 + 1) 94 16 (vB A), Asn.mb 27 w.heap.size m] wr) (fun _ i _ => s - (intOf i).toNat)
    case atStart => exact ⟨0, Nat.zero_le _, rfl, by rw [ht0.out]; exact hS2.out⟩
    case round =>
      obtain ⟨k, hk', rfl, rS⟩ := hrel
      clear hS2
      have cS := rS.m2.cS
      rw [gS.out] at cS
      by_cases hlt : k < s
      · have dk : decide ((k : Int) < (s : Int)) = true := decide_eq_true (by omega)
        have k0 : (0 : Int) ≤ (k : Int) := Int.natCast_nonneg _
        have k1 : (k : Int) < 16 := by omega
        have c0 : wr.cell? ⟨g2 + 1, k, none⟩ = some (.bool (A k)) := rS.v1.cell (i := k) (by omega)
        have hst := hid (hts.out k)
        rw [hB.out k hlt] at hst
        have hlen := hid (ints_length (R k))
        have hlm := htl.out k
        generalize A k = b at *
        replace rS := hid rS
        cases b with
        | false =>
          go_wp2
          go_roundw
          case rel => exact ⟨k + 1, by omega, by go_num, by rw [hst.out]; exact rS.out⟩
          case measure => simp [intOf]; omega
        | true =>
          go_wp2_with (
            ((with_reducible refine gate (N := 25) rfl ?_); refine St.app 29 2 (.int .i64 0) 8 Try.underlying29 info_i64 rfl (by omega) rfl _ _ rfl _ _ rfl rS.out _ rfl rfl (R k).length hlen.out (by omega) ?_; intro gn cn w5 rS'; replace rS := hid rS'; clear rS'))
          go_roundw
          case rel => exact ⟨k + 1, by omega, by go_num, by rw [hst.out]; simpa [ints] using rS.out⟩
          case measure => simp [intOf]; omega
      · obtain rfl : k = s := by omega
        have dk : decide ((k : Int) < (k : Int)) = false := decide_eq_false (by omega)
        replace rS := hid rS
        go_wp2
        go_ret2
        exact ⟨_, rfl, rS.out.o0, rS.out.bel⟩
  · have hA : triAns m = ([], 1) := by unfold triAns; rw [if_neg hm]
    rw [hA]
    have him := hid (fun W => l01Is_any W m hk false (iff_of_false (by decide) hm))
    replace hk := hid hk
    clear hm hA
    go_enter Try.func13, Try.ntmps13
    go_wp2_with (first
      | ((with_reducible refine gate (N := 7) rfl ?_); refine load_mach rfl _ rfl w.heap.size rfl m hS.out.m0 ?_)
      | (go_at_call 80; (with_reducible refine (him.out _).mono ?_); rintro e w1 ⟨rfl, hb⟩; replace hS := hid (hS.out.call hb); clear hb))
    go_ret2
    exact ⟨_, rfl, Own.nil _ _ _, hS.out.bel⟩
set_option maxHeartbeats 4000000 in
set_option maxRecDepth 100000 in
theorem specAes_any (w : World) (m : Mach) (hk : m.Ok) (q r : Int) :
    Calls Try.prog 19 #[.agg (mcells m), .int .i64 q, .int .i64 r] w fun e w' => e = .returned (.tuple #[.bool (aesAns m q r).1, .int .i64 (aesAns m q r).2]) ∧ Below w.heap.size w w' := by
  have hS := hid ((St.start w).newMB m 27)
  rcases aes_cases m q r with ⟨hm, _, h⟩ | ⟨l, s, g, hn, _, h⟩ | ⟨l, s, q, r, b, g, rfl, rfl, hq, hr, _, hb, h⟩
  · rw [h]
    have him := hid (fun W => l01Is_any W m hk false (iff_of_false (by decide) hm))
    replace hk := hid hk
    clear hm h
    go_enter Try.func19, Try.ntmps19
    go_wp2_with (first
      | ((with_reducible refine gate (N := 10) rfl ?_); refine load_mach rfl _ rfl w.heap.size rfl m hS.out.m0 ?_)
      | (go_at_call 80; (with_reducible refine (him.out _).mono ?_); rintro e w1 ⟨rfl, hb⟩; replace hS := hid (hS.out.call hb); clear hb))
    go_ret2
    exact ⟨rfl, hS.out.bel⟩
  · rw [h]
    have him := hid (fun W => l01Is_any W m hk true (iff_of_true rfl g.isM))
    have hI := hid (fun x W => l01In_any x 0 ((s : Int) - 1) (decide (0 ≤ x ∧ x ≤ (s : Int) - 1)) rfl W)
    have gS := hid g.S
    have s16 := g.s16; have s1 := g.s1
    have e1 : IntKind.i64.wrap ((s : Int) - 1) = (s : Int) - 1 := IntWalk.i64_in _ (by omega)
    have e1' : wrap64 ((s : Int) - 1) = (s : Int) - 1 := w64 (by omega) (by omega)
    have hcS := hid (fun W (hm : MB W 27 w.heap.size m) => (show W.cell? ⟨w.heap.size, 1, none⟩ = some (.int .i64 (s : Int)) from by have h := hm.cS; rw [gS.out] at h; exact h))
    replace hk := hid hk; replace g := hid g
    clear h
    go_enter Try.func19, Try.ntmps19
    go_upto_region 3 with (first
      | ((with_reducible refine gate (N := 10) rfl ?_); refine load_mach rfl _ rfl w.heap.size rfl m hS.out.m0 ?_)
      | (go_at_call 80; (with_reducible refine (him.out _).mono ?_); rintro e w1 ⟨rfl, hb⟩; replace hS := hid (hS.out.call hb); clear hb))
    have cS := hcS.out _ hS.out.m0
    have hIq := hid (hI.out q); have hIr := hid (hI.out r)
    by_cases h1 : 0 ≤ q ∧ q ≤ (s : Int) - 1
    · have h2 : ¬ (0 ≤ r ∧ r ≤ (s : Int) - 1) := fun h2 => hn ⟨by omega, by omega⟩
      rw [decide_eq_true h1] at hIq
      rw [decide_eq_false h2] at hIr
      replace h1 := hid h1; replace h2 := hid h2; replace hn := hid hn
      go_wp2_with (first
        | (go_at_call 91; (with_reducible refine (hIq.out _).mono ?_); rintro e w' ⟨rfl, rfl⟩)
        | (go_at_call 91; (with_reducible refine (hIr.out _).mono ?_); rintro e w' ⟨rfl, rfl⟩))
      go_ret2
      exact ⟨rfl, hS.out.bel⟩
    · rw [decide_eq_false h1] at hIq
      replace h1 := hid h1; replace hn := hid hn
      go_wp2_with (
        (go_at_call 91; (with_reducible refine (hIq.out _).mono ?_); rintro e w' ⟨rfl, rfl⟩))
      go_ret2
      exact ⟨rfl, hS.out.bel⟩
  · rw [h]
    have him := hid (fun W => l01Is_any W m hk true (iff_of_true rfl g.isM))
    have hI := hid (fun (x : Nat) (hx : x < s) W => l01In_any (x : Int) 0 ((s : Int) - 1) true (decide_eq_true (by omega)).symm W)
    have hcl := hid (fun W => l01Classes_any W m l s g hk)
    have gS := hid g.S
    have s16 := g.s16; have s1 := g.s1
    have e1 : IntKind.i64.wrap ((s : Int) - 1) = (s : Int) - 1 := IntWalk.i64_in _ (by omega)
    have e1' : wrap64 ((s : Int) - 1) = (s : Int) - 1 := w64 (by omega) (by omega)
    have hcS := hid (fun W (hm : MB W 27 w.heap.size m) => (show W.cell? ⟨w.heap.size, 1, none⟩ = some (.int .i64 (s : Int)) from by have h := hm.cS; rw [gS.out] at h; exact h))
    have hF := hid (fun x (hx : x < s) => (show cv (tabOf m l s) (s + 1) x = fix (tabOf m l s) x from cv_in (T := tabOf m l s) hx))
    have hIq := hid (hI.out q hq); have hIr := hid (hI.out r hr)
    replace hk := hid hk; replace g := hid g
    clear h
    go_enter Try.func19, Try.ntmps19
    go_upto_region 3 with (first
      | ((with_reducible refine gate (N := 10) rfl ?_); refine load_mach rfl _ rfl w.heap.size rfl m hS.out.m0 ?_)
      | (go_at_call 80; (with_reducible refine (him.out _).mono ?_); rintro e w1 ⟨rfl, hb⟩; replace hS := hid (hS.out.call hb); clear hb))
    have cS := hcS.out _ hS.out.m0
    go_upto_region 6 with (first
      | (go_at_call 91; (with_reducible refine (hIq.out _).mono ?_); rintro e w' ⟨rfl, rfl⟩)
      | (go_at_call 91; (with_reducible refine (hIr.out _).mono ?_); rintro e w' ⟨rfl, rfl⟩)
      | ((with_reducible refine gate (N := 28) rfl ?_); refine load_mach rfl _ rfl w.heap.size rfl m hS.out.m0 ?_)
      | (go_at_call 92; (with_reducible refine (hcl.out _).mono ?_); rintro e w2 ⟨rfl, hb⟩; have hle := hid (hS.out.call hb).le; replace hS := hid ((hS.out.call hb).newI16 87); clear hb)
      | ((with_reducible refine gateOp (op := .store 87 (.tmp 8) (.tmp 29)) rfl ?_); refine store_vec rfl 87 _ _ rfl w2.heap.size rfl 16 (vI (cv (tabOf m l s) (s + 1))) rfl _ _ hS.out.v0 sz_i16 (fun i => rfl) ?_; intro w3 p2 ho hbl; replace hS := hid (hS.out.turnVec hle.out p2 ho hbl); clear p2 ho hbl))
    have hS2 := hS.out
    clear hS cS
    have c1 : w3.cell? ⟨w2.heap.size, q, none⟩ = some (.int .i64 (fix (tabOf m l s) q : Nat)) := by rw [← hF.out q hq]; exact hS2.v0.cell (i := q) (by omega)
    have c2 : w3.cell? ⟨w2.heap.size, r, none⟩ = some (.int .i64 (fix (tabOf m l s) r : Nat)) := by rw [← hF.out r hr]; exact hS2.v0.cell (i := r) (by omega)
    replace hS2 := hid hS2
    have q0 : (0 : Int) ≤ (q : Int) := Int.natCast_nonneg _
    have q1 : (q : Int) < 16 := by omega
    have r0 : (0 : Int) ≤ (r : Int) := Int.natCast_nonneg _
    have r1 : (r : Int) < 16 := by omega
    have hbe := hid (show (((fix (tabOf m l s) q : Nat) : Int) == ((fix (tabOf m l s) r : Nat) : Int)) = b from beq_cast hb)
    clear hF hcl
    generalize (rowL 16 (vI (cv (tabOf m l s) (s + 1)))).toArray = RW at *
    generalize fix (tabOf m l s) q = fq at *
    generalize fix (tabOf m l s) r = fr at *
    go_quiet (fail)
    replace hS2 := hid (hS2.out.drewN nq)
    go_wp2
    go_ret2
    exact ⟨by rw [← hbe.out]; first | rfl | simp, hS2.out.bel⟩
set_option maxHeartbeats 4000000 in
set_option maxRecDepth 100000 in
theorem implAes_any (w : World) (m : Mach) (hk : m.Ok) (q r : Int) :
    Calls Try.prog 18 #[.agg (mcells m), .int .i64 q, .int .i64 r] w fun e w' => e = .returned (.tuple #[.bool (aesAns m q r).1, .int .i64 (aesAns m q r).2]) ∧ Below w.heap.size w w' := by
  have hS := hid ((St.start w).newMB m 27)
  have hcode := hid (fun W base v h => codeOf_any W m hk { data := #[] } (by decide) base v [q, r] h (by simp))
  have hown := hid (hS.out.newOwn [Value.int .i64 q, Value.int .i64 r] 2 (by simp))
  simp only [heap_alloc_size] at hown
  rcases aes_cases m q r with ⟨hm, hc, h⟩ | ⟨l, s, g, hn, hc, h⟩ | ⟨l, s, q, r, b, g, rfl, rfl, hq, hr, hc, hb, h⟩
  · rw [h]
    rw [hc] at hcode
    replace hk := hid hk
    clear hm h hc
    go_enter Try.func18, Try.ntmps18
    go_wp2_with (first
      | ((with_reducible refine gate (N := 10) rfl ?_); refine load_mach rfl _ rfl w.heap.size rfl m hS.out.m0 ?_)
      | (go_at_call 87; (with_reducible refine (hcode.out _ _ _ hown.out.o0).mono ?_); rintro e w1 ⟨rfl, hb⟩; replace hS := hid (hown.out.call hb).drop; clear hcode hown; clear hb))
    go_ret2
    exact ⟨rfl, hS.out.bel⟩
  · rw [h]
    rw [hc] at hcode
    replace hk := hid hk; replace g := hid g
    clear hn h hc
    go_enter Try.func18, Try.ntmps18
    go_wp2_with (first
      | ((with_reducible refine gate (N := 10) rfl ?_); refine load_mach rfl _ rfl w.heap.size rfl m hS.out.m0 ?_)
      | (go_at_call 87; (with_reducible refine (hcode.out _ _ _ hown.out.o0).mono ?_); rintro e w1 ⟨rfl, hb⟩; replace hS := hid (hown.out.call hb).drop; clear hcode hown; clear hb))
    go_ret2
    exact ⟨rfl, hS.out.bel⟩
  · rw [h]
    rw [hc] at hcode
    have hta := hid (fun W h => table_any w.heap.size W m h l s g)
    have s16 := g.s16
    have hls := hid (fun W G vN vO hTB => least_any W G vN vO (tabOf m l s) (tabOf_ok g) (show l < 100 by have := g.l3; omega) (show 0 < l by have := g.l2; omega) (show s < 100000 by omega) hTB)
    have hlen := hid (show (nats ((List.range (tabOf m l s).n).map (fix (tabOf m l s)))).length = s by simp [nats]; rfl)
    have hget := hid (fun x (hx : x < s) => (show (nats ((List.range (tabOf m l s).n).map (fix (tabOf m l s))))[x]? = some (.int .i64 (fix (tabOf m l s) x : Nat)) from by
      have : x < (tabOf m l s).n := hx
      simp [nats, this]))
    have hbe := hid (show (((fix (tabOf m l s) q : Nat) : Int) == ((fix (tabOf m l s) r : Nat) : Int)) = b from beq_cast hb)
    replace hk := hid hk; replace g := hid g
    clear h hc hb
    generalize nats ((List.range (tabOf m l s).n).map (fix (tabOf m l s))) = FL at *
    go_enter Try.func18, Try.ntmps18
    go_upto_region 5 with (first
      | ((with_reducible refine gate (N := 10) rfl ?_); refine load_mach rfl _ rfl w.heap.size rfl m hS.out.m0 ?_)
      | (go_at_call 87; (with_reducible refine (hcode.out _ _ _ hown.out.o0).mono ?_); rintro e w1 ⟨rfl, hb⟩; replace hS := hid (hown.out.call hb).drop; clear hcode hown; clear hb)
      | (go_at_call 82; (with_reducible refine (hta.out _ hS.out.m0).mono ?_); rintro e w2 ⟨vN, vO, rfl, hTB, hb⟩; replace hTB := hid hTB; replace hS := hid (hS.out.call hb); clear hb)
      | (go_at_call 90; (with_reducible refine (hls.out _ _ _ _ hTB.out).mono ?_); rintro e w3 ⟨vF, rfl, hO, hb⟩; (obtain ⟨gF, cF, rfl, _, _⟩ := hO.blk (fun e => by have h1 := congrArg List.length e; rw [hlen.out, List.length_nil] at h1; omega)); rw [hlen.out] at hO ⊢; replace hS := hid (hS.out.callOwn hb hO); clear hb hO))
    have c1 := hS.out.o0.cellAt q _ (hget.out q hq)
    have c2 := hS.out.o0.cellAt r _ (hget.out r hr)
    have q0 : (0 : Int) ≤ (q : Int) := Int.natCast_nonneg _
    have q1 : (q : Int) < (s : Int) := by omega
    have r0 : (0 : Int) ≤ (r : Int) := Int.natCast_nonneg _
    have r1 : (r : Int) < (s : Int) := by omega
    clear hget hTB hta hls
    generalize fix (tabOf m l s) q = fq at *
    generalize fix (tabOf m l s) r = fr at *
    go_quiet (fail)
    replace hS := hid (hS.out.drewN nq)
    go_wp2
    go_ret2
    exact ⟨by rw [← hbe.out]; first | rfl | simp, hS.out.bel⟩
end Go.Proofs.Ytbmkkaecfogmoaa

/- A machine drawn: a known one or any, seldom spoilt. -/
namespace Go.Proofs.Ytbmkkaecfogmoaa
open Go.RowKit
set_option linter.unusedVariables false
set_option linter.unusedSimpArgs false
-- @LONG

/-- The texts of the known machines. -/
def tx8 : List ByteArray := [{ data := #[50, 58, 48, 97, 49, 97, 44, 49, 97, 48, 98] }, { data := #[50, 58, 48, 97, 49, 97, 44, 49, 97, 48, 97, 44, 48, 98, 49, 100, 44, 48, 98, 49, 101, 44, 48, 97, 49, 99] }, { data := #[50, 58, 48, 97, 49, 97, 44, 48, 97, 49, 99, 44, 49, 97, 48, 98] }, { data := #[50, 58, 48, 97, 49, 98, 44, 49, 97, 48, 98] }, { data := #[51, 58, 48, 97, 49, 97, 50, 97, 44, 49, 97, 48, 97, 50, 98, 44, 50, 97, 49, 99, 48, 97, 44, 48, 100, 50, 97, 49, 97] }, { data := #[51, 58, 48, 97, 49, 97, 50, 97, 44, 49, 97, 50, 97, 48, 97, 44, 48, 98, 49, 99, 50, 100, 44, 50, 97, 48, 97, 49, 97] }, { data := #[50, 58, 49, 98, 48, 99, 44, 48, 99, 49, 99, 44, 49, 97, 48, 98] }, { data := #[50, 58, 48, 98, 49, 97, 44, 49, 98, 48, 97] }]
def tx7 : List ByteArray := [{ data := #[50, 58, 48, 97, 49, 97, 44, 49, 97, 48, 98] }, { data := #[50, 58, 48, 97, 49, 97, 44, 48, 97, 49, 99, 44, 49, 97, 48, 98] }, { data := #[50, 58, 48, 97, 49, 97, 44, 49, 97, 48, 97, 44, 48, 98, 49, 100, 44, 48, 98, 49, 101, 44, 48, 97, 49, 99] }, { data := #[50, 58, 48, 98, 49, 97, 44, 49, 98, 48, 97] }, { data := #[51, 58, 48, 97, 49, 97, 50, 97, 44, 49, 97, 48, 97, 50, 98] }, { data := #[50, 58, 48, 97, 49, 98, 44, 49, 97, 48, 98] }, { data := #[51, 58, 48, 97, 49, 97, 50, 97, 44, 49, 97, 50, 97, 48, 98] }]
theorem tx8_S : ∀ t ∈ tx8, (rdS t).length ≤ 8 ∧ t.size ≤ 1000 := by decide +kernel
theorem tx7_S : ∀ t ∈ tx7, (rdS t).length ≤ 8 ∧ t.size ≤ 1000 := by decide +kernel
theorem rdAns_S {t : ByteArray} (h : (rdS t).length ≤ 8) : 0 ≤ (rdAns t).1.S ∧ (rdAns t).1.S ≤ 8 := by
  unfold rdAns
  split
  · have e : (rdM (bt t 0 - 48) (rdS t)).S = (((rdS t).length : Nat) : Int) := rfl
    show 0 ≤ (rdM (bt t 0 - 48) (rdS t)).S ∧ (rdM (bt t 0 - 48) (rdS t)).S ≤ 8
    rw [e]; omega
  · exact ⟨by decide, by decide⟩
/-- A machine with few states. -/
def Few8 (m : Mach) : Prop := m.Ok ∧ 0 ≤ m.S ∧ m.S ≤ 8
/-- .. where it is one. -/
def Low8 (m : Mach) : Prop := m.Ok ∧ (IsM m → m.S ≤ 8)
theorem MLS.few {m : Mach} {L : Int} {S : Nat} (h : MLS m L S) (hS : S ≤ 8) : Few8 m := ⟨h.1, by rw [h.2.2]; omega⟩
theorem Few8.low {m : Mach} (h : Few8 m) : Low8 m := ⟨h.1, fun _ => h.2.2⟩
section
variable {w0 w : World} {S : Nat} {v : Value} {l : List Nat} {L : List Asn}
theorem pick_two {r : Int} (h : r ∈ [2, 2, (3 : Int)]) : ∃ d : Nat, r = d ∧ (d = 2 ∨ d = 3) := by
  simp only [List.mem_cons, List.not_mem_nil, or_false] at h
  rcases h with rfl | rfl | rfl
  · exact ⟨2, rfl, .inl rfl⟩
  · exact ⟨2, rfl, .inl rfl⟩
  · exact ⟨3, rfl, .inr rfl⟩
theorem pick_six {r : Int} {k : Nat} (hk : k < 8) (h : r ∈ [1, 2, 3, 4, 5, 1 + (k : Int)]) : ∃ n : Nat, r = n ∧ n ≤ 8 := by
  simp only [List.mem_cons, List.not_mem_nil, or_false] at h
  rcases h with rfl | rfl | rfl | rfl | rfl | rfl
  · exact ⟨1, rfl, by omega⟩
  · exact ⟨2, rfl, by omega⟩
  · exact ⟨3, rfl, by omega⟩
  · exact ⟨4, rfl, by omega⟩
  · exact ⟨5, rfl, by omega⟩
  · exact ⟨1 + k, by omega, by omega⟩
set_option maxHeartbeats 4000000 in
set_option maxRecDepth 100000 in
theorem Dg.draw (D : Dg w0 S v l) (hS : St w0.heap.size w0 (Asn.src S v l.length :: L) w) :
    Calls Try.prog 180 #[.pointer (some ⟨S, 0, none⟩)] w fun e w' => ∃ m : Mach, e = .returned (.agg (mcells m)) ∧ Hid (Few8 m) ∧ St w0.heap.size w0 (Asn.src S v l.length :: L) w' := by
  have hN := hid (fun W L n (h0 : n ≤ 1000000000) hW => D.next (w := W) (L := L) n h0 hW)
  have hP := hid (fun W L b2 v2 M hM hMl hW => D.pick (w := W) (L := L) (b2 := b2) (v2 := v2) M hM hMl hW)
  have hA := hid (fun W L d n hd hn hW => D.any (w := W) (L := L) d n hd hn hW)
  have hrd := hid (fun W t (ht : t.size ≤ 1000) => l01Read_any W t (by omega))
  have hro := hid (fun t (ht : (rdS t).length ≤ 8) => (show Few8 (rdAns t).1 from ⟨rdAns_ok t, rdAns_S ht⟩))
  have hz := zeroM_run
  have hz2 := hid (fun L W (h : St w0.heap.size w0 (Asn.src S v l.length :: L) W) => (h.newMB zeroM 27).f1)
  have hle := hid hS.le
  have hS := hid (((hz2.out _ _ hS).newOwn [.string { data := #[50, 58, 48, 97, 49, 97, 44, 49, 97, 48, 98] }, .string { data := #[50, 58, 48, 97, 49, 97, 44, 49, 97, 48, 97, 44, 48, 98, 49, 100, 44, 48, 98, 49, 101, 44, 48, 97, 49, 99] }, .string { data := #[50, 58, 48, 97, 49, 97, 44, 48, 97, 49, 99, 44, 49, 97, 48, 98] }, .string { data := #[50, 58, 48, 97, 49, 98, 44, 49, 97, 48, 98] }, .string { data := #[51, 58, 48, 97, 49, 97, 50, 97, 44, 49, 97, 48, 97, 50, 98, 44, 50, 97, 49, 99, 48, 97, 44, 48, 100, 50, 97, 49, 97] }, .string { data := #[51, 58, 48, 97, 49, 97, 50, 97, 44, 49, 97, 50, 97, 48, 97, 44, 48, 98, 49, 99, 50, 100, 44, 50, 97, 48, 97, 49, 97] }, .string { data := #[50, 58, 49, 98, 48, 99, 44, 48, 99, 49, 99, 44, 49, 97, 48, 98] }, .string { data := #[50, 58, 48, 98, 49, 97, 44, 49, 98, 48, 97] }] 9 (by simp)).f1)
  have htx := hid (fun W L r (hr : r < 8) (hW : St w0.heap.size w0 (Asn.src S v l.length :: Asn.own w0.heap.size 9 (.slice (some ⟨w.heap.size + 1, 0, none⟩) 8 8) [.string { data := #[50, 58, 48, 97, 49, 97, 44, 49, 97, 48, 98] }, .string { data := #[50, 58, 48, 97, 49, 97, 44, 49, 97, 48, 97, 44, 48, 98, 49, 100, 44, 48, 98, 49, 101, 44, 48, 97, 49, 99] }, .string { data := #[50, 58, 48, 97, 49, 97, 44, 48, 97, 49, 99, 44, 49, 97, 48, 98] }, .string { data := #[50, 58, 48, 97, 49, 98, 44, 49, 97, 48, 98] }, .string { data := #[51, 58, 48, 97, 49, 97, 50, 97, 44, 49, 97, 48, 97, 50, 98, 44, 50, 97, 49, 99, 48, 97, 44, 48, 100, 50, 97, 49, 97] }, .string { data := #[51, 58, 48, 97, 49, 97, 50, 97, 44, 49, 97, 50, 97, 48, 97, 44, 48, 98, 49, 99, 50, 100, 44, 50, 97, 48, 97, 49, 97] }, .string { data := #[50, 58, 49, 98, 48, 99, 44, 48, 99, 49, 99, 44, 49, 97, 48, 98] }, .string { data := #[50, 58, 48, 98, 49, 97, 44, 49, 98, 48, 97] }] :: L) W) => (show ∃ t, W.cell? ⟨w.heap.size + 1, r, none⟩ = some (.string t) ∧ Hid ((rdS t).length ≤ 8) ∧ t.size ≤ 1000 from by
    have hr' : r < tx8.length := hr
    have hm := tx8_S tx8[r] (List.getElem_mem hr')
    exact ⟨tx8[r], hW.o1.cellAt r _ (by rw [show ([.string { data := #[50, 58, 48, 97, 49, 97, 44, 49, 97, 48, 98] }, .string { data := #[50, 58, 48, 97, 49, 97, 44, 49, 97, 48, 97, 44, 48, 98, 49, 100, 44, 48, 98, 49, 101, 44, 48, 97, 49, 99] }, .string { data := #[50, 58, 48, 97, 49, 97, 44, 48, 97, 49, 99, 44, 49, 97, 48, 98] }, .string { data := #[50, 58, 48, 97, 49, 98, 44, 49, 97, 48, 98] }, .string { data := #[51, 58, 48, 97, 49, 97, 50, 97, 44, 49, 97, 48, 97, 50, 98, 44, 50, 97, 49, 99, 48, 97, 44, 48, 100, 50, 97, 49, 97] }, .string { data := #[51, 58, 48, 97, 49, 97, 50, 97, 44, 49, 97, 50, 97, 48, 97, 44, 48, 98, 49, 99, 50, 100, 44, 50, 97, 48, 97, 49, 97] }, .string { data := #[50, 58, 49, 98, 48, 99, 44, 48, 99, 49, 99, 44, 49, 97, 48, 98] }, .string { data := #[50, 58, 48, 98, 49, 97, 44, 49, 98, 48, 97] }] : List Value) = strs tx8 from rfl]; simp [strs, List.getElem?_eq_getElem hr']), hid hm.1, hm.2⟩))
  simp only [heap_alloc_size] at hS
  clear D
  go_enter Try.func180, Try.ntmps180
  go_upto_region 2 with (fail)
  generalize World.alloc (World.alloc w _) _ = wA at *
  simp only [List.length_cons, List.length_nil, Nat.reduceAdd] at hS
  generalize ([.string { data := #[50, 58, 48, 97, 49, 97, 44, 49, 97, 48, 98] }, .string { data := #[50, 58, 48, 97, 49, 97, 44, 49, 97, 48, 97, 44, 48, 98, 49, 100, 44, 48, 98, 49, 101, 44, 48, 97, 49, 99] }, .string { data := #[50, 58, 48, 97, 49, 97, 44, 48, 97, 49, 99, 44, 49, 97, 48, 98] }, .string { data := #[50, 58, 48, 97, 49, 98, 44, 49, 97, 48, 98] }, .string { data := #[51, 58, 48, 97, 49, 97, 50, 97, 44, 49, 97, 48, 97, 50, 98, 44, 50, 97, 49, 99, 48, 97, 44, 48, 100, 50, 97, 49, 97] }, .string { data := #[51, 58, 48, 97, 49, 97, 50, 97, 44, 49, 97, 50, 97, 48, 97, 44, 48, 98, 49, 99, 50, 100, 44, 50, 97, 48, 97, 49, 97] }, .string { data := #[50, 58, 49, 98, 48, 99, 44, 48, 99, 49, 99, 44, 49, 97, 48, 98] }, .string { data := #[50, 58, 48, 98, 49, 97, 44, 49, 98, 48, 97] }] : List Value) = cs at *
  generalize w.heap.size + 1 = gT at *
  have mk1 : True := trivial
  go_wp2_with (first
    | (go_at_call 132; clear mk1; (with_reducible refine (hN.out _ _ _ (by omega) hS.out).mono ?_); rintro e w1 ⟨r1, rfl, _, hS'⟩; replace hS := hid hS'; clear hS')
    | (go_at_call 132; (with_reducible refine (hN.out _ _ _ (by omega) hS.out).mono ?_); rintro e w2 ⟨r, rfl, hr, hS'⟩; (have hr8 : r < 8 := by omega); (have hr9 : (r : Int) < 8 := by omega); (have r0 : (0 : Int) ≤ (r : Int) := Int.natCast_nonneg _); (have e1 : wrap64 (1 + (r : Int)) = 1 + (r : Int) := w64 (by omega) (by omega)); (refine Exists.elim (htx.out w2 _ r hr8 hS') ?_); rintro t ⟨ct, ht, hts⟩; replace hS := hid hS'; clear hS' hr)
    | (go_at_call 132; (with_reducible refine (hN.out _ _ _ (by omega) hS.out).mono ?_); rintro e w2 ⟨r, rfl, hr, hS'⟩; (have hr8 : r < 8 := by omega); (have hr9 : (r : Int) < 8 := by omega); (have r0 : (0 : Int) ≤ (r : Int) := Int.natCast_nonneg _); (have e1 : wrap64 (1 + (r : Int)) = 1 + (r : Int) := w64 (by omega) (by omega)); replace hS := hid hS'; clear hS' hr)
    | (go_at_call 167; (with_reducible refine (hrd.out _ t hts).mono ?_); rintro e w3 ⟨rfl, hb⟩; (have hle3 := hid (hS.out.call hb).le); replace hS := hid (hz2.out _ _ (hS.out.call hb)); (have hF := hid (hro.out t ht.out)); clear ct hb; generalize (rdAns t).1 = M at *; generalize (rdAns t).2 = ok at *)
    | ((with_reducible refine gateOp (op := .store 27 (.tmp 4) (.tmp 19)) rfl ?_); refine store_mach rfl _ _ rfl w3.heap.size rfl M rfl 27 _ hS.out.f1.m0 ?_; intro w4 p3 ho hsz hbl; replace hS := hid (hS.out.f1.setM hle3.out p3 ho hbl); clear p3 ho hsz hbl)
    | ((with_reducible refine gate (N := 22) rfl ?_); refine load_mach rfl _ rfl w3.heap.size rfl M hS.out.m0 ?_)
    | ((with_reducible refine gateOp (op := .store 27 (.tmp 2) (.tmp 22)) rfl ?_); refine store_mach rfl _ _ rfl w.heap.size rfl M rfl 27 _ hS.out.f3.m0 ?_; intro w5 p3 ho hsz hbl; replace hS := hid (hS.out.f3.setM hle.out p3 ho hbl); clear p3 ho hsz hbl)
    | (go_at_call 133; (first | have hS2 := hS.out.list [.int .i64 2, .int .i64 2, .int .i64 3] (by simp) | have hS2 := hS.out.f1.list [.int .i64 2, .int .i64 2, .int .i64 3] (by simp)); (with_reducible refine (hP.out _ _ _ _ [2, 2, 3] (by simp) (by simp) hS2).mono ?_); rintro e w6 ⟨d', rfl, hd', hS'⟩; obtain ⟨d, rfl, hd⟩ := pick_two hd'; replace hS := hid hS'; clear hS' hS2 hd')
    | (go_at_call 133; (have hS2 := hS.out.list [.int .i64 1, .int .i64 2, .int .i64 3, .int .i64 4, .int .i64 5, .int .i64 (1 + (r : Int))] (by simp)); (with_reducible refine (hP.out _ _ _ _ [1, 2, 3, 4, 5, 1 + (r : Int)] (by simp) (by simp) hS2).mono ?_); rintro e w7 ⟨n', rfl, hn', hS'⟩; obtain ⟨n, rfl, hn⟩ := pick_six hr8 hn'; replace hS := hid hS'; clear hS' hS2 hn')
    | (go_at_call 161; (with_reducible refine (hA.out _ _ _ _ hd (by omega) hS.out).mono ?_); rintro e w8 ⟨M, rfl, hM, hS'⟩; (have hF := hid (hM.out.few hn)); replace hS := hid hS'; clear hS')
    | ((with_reducible refine gateOp (op := .store 27 (.tmp 2) (.tmp 33)) rfl ?_); refine store_mach rfl _ _ rfl w.heap.size rfl M rfl 27 _ hS.out.f2.m0 ?_; intro w9 p3 ho hsz hbl; replace hS := hid (hS.out.f2.setM hle.out p3 ho hbl); clear p3 ho hsz hbl)
    | ((with_reducible refine gateOp (op := .store 27 (.tmp 2) (.tmp 33)) rfl ?_); refine store_mach rfl _ _ rfl w.heap.size rfl M rfl 27 _ hS.out.f3.m0 ?_; intro w9 p3 ho hsz hbl; replace hS := hid (hS.out.f3.setM hle.out p3 ho hbl); clear p3 ho hsz hbl))
  all_goals first
    | exact ret_mach rfl rfl hS.out.m0 rfl ⟨M, rfl, hF, hS.out.drop.drop.f1.drop⟩
    | exact ret_mach rfl rfl hS.out.m0 rfl ⟨M, rfl, hF, hS.out.drop.f1.drop⟩
    | exact ret_mach rfl rfl hS.out.m0 rfl ⟨M, rfl, hF, hS.out.drop.f1.drop.f1.drop⟩
theorem MB.setL {w : World} {t b : Nat} {m : Mach} (h : MB w t b m) (x : Int) : MB (w.setCell ⟨b, 0, none⟩ (.int .i64 x)) t b { m with L := x } := by
  refine World.rowIs.congr (World.rowIs.set h 0 _) (fun i hi => ?_)
  unfold mf
  by_cases e : i = 0
  · rw [if_pos e, if_pos e]
  · rw [if_neg e, if_neg e, if_neg e]
theorem MB.setS {w : World} {t b : Nat} {m : Mach} (h : MB w t b m) (x : Int) : MB (w.setCell ⟨b, 1, none⟩ (.int .i64 x)) t b { m with S := x } := by
  refine World.rowIs.congr (World.rowIs.set h 1 _) (fun i hi => ?_)
  unfold mf
  by_cases e : i = 1
  · rw [if_pos e, if_neg (by omega), if_pos e]
  · rw [if_neg e]
    by_cases e0 : i = 0
    · rw [if_pos e0, if_pos e0]
    · rw [if_neg e0, if_neg e, if_neg e0, if_neg e]
theorem St.setL {base t bn : Nat} {w0 w : World} {L : List Asn} {m : Mach} (h : St base w0 (Asn.mb t bn m :: L) w) (hb : base ≤ bn) (x : Int) : St base w0 (Asn.mb t bn { m with L := x } :: L) (w.setCell ⟨bn, 0, none⟩ (.int .i64 x)) :=
  h.turn (a' := Asn.mb t bn _) (MB.setL h.star.1 x) (fun k hk => .inl hk) (fun k hk => (show k = bn from hk) ▸ hb) ((Below.refl _ _).setCell hb _) fun k _ hk => heap_setCell_other w ⟨bn, _, none⟩ k _ hk
theorem St.setS {base t bn : Nat} {w0 w : World} {L : List Asn} {m : Mach} (h : St base w0 (Asn.mb t bn m :: L) w) (hb : base ≤ bn) (x : Int) : St base w0 (Asn.mb t bn { m with S := x } :: L) (w.setCell ⟨bn, 1, none⟩ (.int .i64 x)) :=
  h.turn (a' := Asn.mb t bn _) (MB.setS h.star.1 x) (fun k hk => .inl hk) (fun k hk => (show k = bn from hk) ▸ hb) ((Below.refl _ _).setCell hb _) fun k _ hk => heap_setCell_other w ⟨bn, _, none⟩ k _ hk
theorem IsM.few {m : Mach} (h : IsM m) : 1 ≤ m.S ∧ m.S ≤ 16 := by
  obtain ⟨l, s, g⟩ := h.good
  have := g.S; have := g.s1; have := g.s16
  omega
theorem Few8.setL {m : Mach} (h : Few8 m) (x : Int) : Low8 { m with L := x } := ⟨h.1, fun _ => h.2.2⟩
theorem Few8.setS {m : Mach} (h : Few8 m) {x : Int} (hx : x ∈ [0, 17, -1, wrap64 (m.S - 1)]) : Low8 { m with S := x } := by
  refine ⟨h.1, fun hm => ?_⟩
  have h2 := hm.few
  have h3 : 1 ≤ x ∧ x ≤ 16 := h2
  show x ≤ 8
  have h4 := h.2.1; have h5 := h.2.2
  rw [w64 (by omega) (by omega)] at hx
  simp only [List.mem_cons, List.not_mem_nil, or_false] at hx
  rcases hx with rfl | rfl | rfl | rfl <;> omega
theorem Few8.setN {m : Mach} (h : Few8 m) (i v : Nat) (hv : v < 256) : Low8 { m with nx := upd m.nx i v } := ⟨(MLS.nx (L := m.L) (S := m.S) ⟨h.1, rfl, rfl⟩ i v hv).1, fun _ => h.2.2⟩
theorem Few8.setO {m : Mach} (h : Few8 m) (i v : Nat) (hv : v < 256) : Low8 { m with ot := upd m.ot i v } := ⟨(MLS.ot (L := m.L) (S := m.S) ⟨h.1, rfl, rfl⟩ i v hv).1, fun _ => h.2.2⟩
set_option maxHeartbeats 4000000 in
set_option maxRecDepth 100000 in
theorem Dg.bad (D : Dg w0 S v l) (m : Mach) (hm : Few8 m) (hS : St w0.heap.size w0 (Asn.src S v l.length :: L) w) :
    Calls Try.prog 162 #[.pointer (some ⟨S, 0, none⟩), .agg (mcells m)] w fun e w' => ∃ m : Mach, e = .returned (.agg (mcells m)) ∧ Hid (Low8 m) ∧ St w0.heap.size w0 (Asn.src S v l.length :: L) w' := by
  have hN := hid (fun W L n (h0 : n ≤ 1000000000) hW => D.next (w := W) (L := L) n h0 hW)
  have hP := hid (fun W L b2 v2 M hM hMl hW => D.pick (w := W) (L := L) (b2 := b2) (v2 := v2) M hM hMl hW)
  have hz := zeroM_run
  have hle := hid hS.le
  have hS := hid (((hS.newMB m 27).f1.newMB zeroM 27).f1)
  have hle2 := hid (show w0.heap.size ≤ w.heap.size + 1 from Nat.le_succ_of_le hle.out)
  simp only [heap_alloc_size] at hS
  replace hm := hid hm
  clear D
  go_enter Try.func162, Try.ntmps162
  go_upto_region 2 with (first
    | (go_at_call 132; (with_reducible refine (hN.out _ _ _ (by omega) hS.out).mono ?_); rintro e w1 ⟨k, rfl, _, hS'⟩; replace hS := hid hS'; clear hS'))
  generalize w.heap.size + 1 = b4 at *
  have cL := hS.out.m2.cL
  have cS := hS.out.m2.cS
  have fL : w1.frozen? ⟨w.heap.size, 0, none⟩ = false := World.rowIs.frozen hS.out.m2 _
  have fS : w1.frozen? ⟨w.heap.size, 1, none⟩ = false := World.rowIs.frozen hS.out.m2 _
  by_cases k0 : k = 0
  · subst k0
    go_upto_region 10 with (first
      | (go_at_call 133; (have hS2 := hS.out.list [.int .i64 0, .int .i64 1, .int .i64 4, .int .i64 (-1), .int .i64 (wrap64 (5 - m.L))] (by simp)); (with_reducible refine (hP.out _ _ _ _ [0, 1, 4, -1, wrap64 (5 - m.L)] (by simp) (by simp) hS2).mono ?_); rintro e w6 ⟨x, rfl, _, hS'⟩; replace hS := hid hS'; clear hS' hS2 cL cS fL fS; (obtain ⟨vl, cL⟩ : ∃ u, w6.cell? ⟨w.heap.size, 0, none⟩ = some u := ⟨_, hS.out.m2.cL⟩); (have fL : w6.frozen? ⟨w.heap.size, 0, none⟩ = false := World.rowIs.frozen hS.out.m2 _)))
    replace hS := hid (hS.out.f2.setL hle.out x)
    have hF := hid (hm.out.setL x)
    generalize World.setCell w6 _ _ = wz at *
    generalize hMM : Mach.mk _ _ _ _ = M at hS hF
    clear hMM
    go_wp2_with (first
      | ((with_reducible refine gate (N := 49) rfl ?_); refine load_mach rfl _ rfl w.heap.size rfl M hS.out.m0 ?_)
      | ((with_reducible refine gateOp (op := .store 27 (.tmp 4) (.tmp 49)) rfl ?_); refine store_mach rfl _ _ rfl b4 rfl M rfl 27 _ hS.out.f2.m0 ?_; intro w9 p3 ho hsz hbl; replace hS := hid (hS.out.f2.setM hle2.out p3 ho hbl); clear p3 ho hsz hbl))
    exact ret_mach rfl rfl hS.out.m0 rfl ⟨M, rfl, hF, hS.out.drop.drop⟩
  · have d0 : ((k : Int) == 0) = false := by simp; omega
    by_cases k1 : k = 1
    · subst k1
      go_upto_region 10 with (first
        | (go_at_call 133; (have hS2 := hS.out.list [.int .i64 0, .int .i64 17, .int .i64 (-1), .int .i64 (wrap64 (m.S - 1))] (by simp)); (with_reducible refine (hP.out _ _ _ _ [0, 17, -1, wrap64 (m.S - 1)] (by simp) (by simp) hS2).mono ?_); rintro e w6 ⟨x, rfl, hx, hS'⟩; replace hS := hid hS'; replace hx := hid hx; clear hS' hS2 cL cS fL fS; (obtain ⟨vl, cL⟩ : ∃ u, w6.cell? ⟨w.heap.size, 1, none⟩ = some u := ⟨_, hS.out.m2.cS⟩); (have fL : w6.frozen? ⟨w.heap.size, 1, none⟩ = false := World.rowIs.frozen hS.out.m2 _)))
      replace hS := hid (hS.out.f2.setS hle.out x)
      have hF := hid (hm.out.setS hx.out)
      generalize World.setCell w6 _ _ = wz at *
      generalize hMM : Mach.mk _ _ _ _ = M at hS hF
      clear hMM
      go_wp2_with (first
        | ((with_reducible refine gate (N := 49) rfl ?_); refine load_mach rfl _ rfl w.heap.size rfl M hS.out.m0 ?_)
        | ((with_reducible refine gateOp (op := .store 27 (.tmp 4) (.tmp 49)) rfl ?_); refine store_mach rfl _ _ rfl b4 rfl M rfl 27 _ hS.out.f2.m0 ?_; intro w9 p3 ho hsz hbl; replace hS := hid (hS.out.f2.setM hle2.out p3 ho hbl); clear p3 ho hsz hbl))
      exact ret_mach rfl rfl hS.out.m0 rfl ⟨M, rfl, hF, hS.out.drop.drop⟩
    · have d1 : ((k : Int) == 1) = false := by simp; omega
      by_cases k2 : k = 2
      · subst k2
        go_upto_region 7 with (fail)
        have mk1 : True := trivial
        have mk2 : True := trivial
        clear cL cS fL fS
        go_region_with (first
          | (go_at_call 132; clear mk1; (with_reducible refine (hN.out _ _ _ (by omega) hS.out.drew).mono ?_); rintro e w5 ⟨r, rfl, hr, hS'⟩; (have r0 : (0 : Int) ≤ (r : Int) := Int.natCast_nonneg _); (have r1 : (r : Int) < 16 := by omega); replace hS := hid hS'; clear hS')
          | (go_at_call 132; clear mk2; (with_reducible refine (hN.out _ _ _ (by omega) hS.out).mono ?_); rintro e w6 ⟨x, rfl, hx, hS'⟩; (have x0 : (0 : Int) ≤ (x : Int) := Int.natCast_nonneg _); (have x1 : (x : Int) < 3 := by omega); replace hS := hid hS'; clear hS')
          | (go_at_call 132; (with_reducible refine (hN.out _ _ _ (by omega) hS.out).mono ?_); rintro e w7 ⟨y, rfl, hy, hS'⟩; replace hS := hid hS'; clear hS'; (have y1 : y < 256 := by omega); (have e1 : IntKind.u8.wrap (y : Int) = y := u8_of y y1); (have hrx := hid (show r < 16 ∧ x < 3 by omega)); (obtain ⟨vn, cn⟩ : ∃ u, w7.cell? ⟨w.heap.size, 2 + r * 3 + x, none⟩ = some u := ⟨_, hS.out.m2.cnx r x hrx.out.1 hrx.out.2⟩); (have fn : w7.frozen? ⟨w.heap.size, 2 + r * 3 + x, none⟩ = false := World.rowIs.frozen hS.out.m2 _)))
        replace hS := hid (hS.out.f2.setNx hle.out r x y hrx.out.1 hrx.out.2)
        have hF := hid (hm.out.setN (r * 3 + x) y y1)
        generalize World.setCell w7 _ _ = wz at *
        generalize hMM : Mach.mk _ _ _ _ = M at hS hF
        clear hMM
        go_wp2_with (first
          | ((with_reducible refine gate (N := 49) rfl ?_); refine load_mach rfl _ rfl w.heap.size rfl M hS.out.m0 ?_)
          | ((with_reducible refine gateOp (op := .store 27 (.tmp 4) (.tmp 49)) rfl ?_); refine store_mach rfl _ _ rfl b4 rfl M rfl 27 _ hS.out.f2.m0 ?_; intro w9 p3 ho hsz hbl; replace hS := hid (hS.out.f2.setM hle2.out p3 ho hbl); clear p3 ho hsz hbl))
        exact ret_mach rfl rfl hS.out.m0 rfl ⟨M, rfl, hF, hS.out.drop.drop⟩
      · have d2 : ((k : Int) == 2) = false := by simp; omega
        by_cases k3 : k = 3
        · subst k3
          go_upto_region 9 with (fail)
          have mk1 : True := trivial
          have mk2 : True := trivial
          clear cL cS fL fS
          go_region_with (first
            | (go_at_call 132; clear mk1; (with_reducible refine (hN.out _ _ _ (by omega) hS.out.drew).mono ?_); rintro e w5 ⟨r, rfl, hr, hS'⟩; (have r0 : (0 : Int) ≤ (r : Int) := Int.natCast_nonneg _); (have r1 : (r : Int) < 16 := by omega); replace hS := hid hS'; clear hS')
            | (go_at_call 132; clear mk2; (with_reducible refine (hN.out _ _ _ (by omega) hS.out).mono ?_); rintro e w6 ⟨x, rfl, hx, hS'⟩; (have x0 : (0 : Int) ≤ (x : Int) := Int.natCast_nonneg _); (have x1 : (x : Int) < 3 := by omega); replace hS := hid hS'; clear hS')
            | (go_at_call 132; (with_reducible refine (hN.out _ _ _ (by omega) hS.out).mono ?_); rintro e w7 ⟨y, rfl, hy, hS'⟩; replace hS := hid hS'; clear hS'; (have y1 : y < 256 := by omega); (have e1 : IntKind.u8.wrap (y : Int) = y := u8_of y y1); (have hrx := hid (show r < 16 ∧ x < 3 by omega)); (obtain ⟨vn, cn⟩ : ∃ u, w7.cell? ⟨w.heap.size, 50 + r * 3 + x, none⟩ = some u := ⟨_, hS.out.m2.cot r x hrx.out.1 hrx.out.2⟩); (have fn : w7.frozen? ⟨w.heap.size, 50 + r * 3 + x, none⟩ = false := World.rowIs.frozen hS.out.m2 _)))
          replace hS := hid (hS.out.f2.setOt hle.out r x y hrx.out.1 hrx.out.2)
          have hF := hid (hm.out.setO (r * 3 + x) y y1)
          generalize World.setCell w7 _ _ = wz at *
          generalize hMM : Mach.mk _ _ _ _ = M at hS hF
          clear hMM
          go_wp2_with (first
            | ((with_reducible refine gate (N := 49) rfl ?_); refine load_mach rfl _ rfl w.heap.size rfl M hS.out.m0 ?_)
            | ((with_reducible refine gateOp (op := .store 27 (.tmp 4) (.tmp 49)) rfl ?_); refine store_mach rfl _ _ rfl b4 rfl M rfl 27 _ hS.out.f2.m0 ?_; intro w9 p3 ho hsz hbl; replace hS := hid (hS.out.f2.setM hle2.out p3 ho hbl); clear p3 ho hsz hbl))
          exact ret_mach rfl rfl hS.out.m0 rfl ⟨M, rfl, hF, hS.out.drop.drop⟩
        · have d3 : ((k : Int) == 3) = false := by simp; omega
          replace hS := hid hS.out.f2
          have hF := hid hm.out.low
          clear cL cS fL fS
          go_wp2_with (first
            | ((with_reducible refine gate (N := 49) rfl ?_); refine load_mach rfl _ rfl w.heap.size rfl m hS.out.m0 ?_)
            | ((with_reducible refine gateOp (op := .store 27 (.tmp 4) (.tmp 49)) rfl ?_); refine store_mach rfl _ _ rfl b4 rfl m rfl 27 _ hS.out.f2.m0 ?_; intro w9 p3 ho hsz hbl; replace hS := hid (hS.out.f2.setM hle2.out p3 ho hbl); clear p3 ho hsz hbl))
          exact ret_mach rfl rfl hS.out.m0 rfl ⟨m, rfl, hF, hS.out.drop.drop⟩
set_option maxHeartbeats 4000000 in
set_option maxRecDepth 100000 in
theorem Dg.spoil (D : Dg w0 S v l) (hS : St w0.heap.size w0 (Asn.src S v l.length :: L) w) :
    Calls Try.prog 77 #[.pointer (some ⟨S, 0, none⟩)] w fun e w' => ∃ m : Mach, e = .returned (.agg (mcells m)) ∧ Hid (Low8 m) ∧ St w0.heap.size w0 (Asn.src S v l.length :: L) w' := by
  have hR := hid (fun W L hW => D.draw (w := W) (L := L) hW)
  have hB := hid (fun W L m hm hW => D.bad (w := W) (L := L) m hm hW)
  have hz := zeroM_run
  have hle := hid hS.le
  have hS := hid ((hS.newMB zeroM 27).f1)
  clear D
  go_enter Try.func77, Try.ntmps77
  go_wp2_with (first
    | (go_at_call 180; (with_reducible refine (hR.out _ _ hS.out).mono ?_); rintro e w1 ⟨m0, rfl, hm, hS'⟩; replace hS := hid hS'; clear hS')
    | (go_at_call 162; (with_reducible refine (hB.out _ _ m0 hm.out hS.out).mono ?_); rintro e w2 ⟨M, rfl, hF, hS'⟩; replace hS := hid hS'; clear hS')
    | ((with_reducible refine gateOp (op := .store 27 (.tmp 2) (.tmp 6)) rfl ?_); refine store_mach rfl _ _ rfl w.heap.size rfl M rfl 27 _ hS.out.f1.m0 ?_; intro w9 p3 ho hsz hbl; replace hS := hid (hS.out.f1.setM hle.out p3 ho hbl); clear p3 ho hsz hbl))
  exact ret_mach rfl rfl hS.out.m0 rfl ⟨M, rfl, hF, hS.out.drop⟩
end
end Go.Proofs.Ytbmkkaecfogmoaa

/- Draws of machines and levels. -/
namespace Go.Proofs.Ytbmkkaecfogmoaa
open Go.RowKit
set_option linter.unusedVariables false
set_option linter.unusedSimpArgs false
-- @LONG

theorem Low8.ok {m : Mach} (h : Low8 m) : m.Ok := h.1
theorem ret_mvv {fn : Func} {R : Ending → World → Prop} {a : Act} {w : World} {p q r : Nat} (h : fn.results = #[.cell p 27, .tmp q, .tmp r]) {g t : Nat} {m : Mach} {v u : Value}
    (hp : a.tmps.getD p undef = .pointer (some ⟨g, 0, none⟩)) (hq : a.tmps.getD q undef = v) (hr : a.tmps.getD r undef = u) (hm : MB w t g m) (hdf : a.defers = []) (hR : R (.returned (.tuple #[.agg (mcells m), v, u])) w) : bodyPost Try.prog fn R .ret a w := by
  refine bodyPost_ret (v := .tuple #[.agg (mcells m), v, u]) ?_ hdf hR
  have hp' : a.tmps[p]?.getD undef = .pointer (some ⟨g, 0, none⟩) := by simpa using hp
  have hq' : a.tmps[q]?.getD undef = v := by simpa using hq
  have hr' : a.tmps[r]?.getD undef = u := by simpa using hr
  have := run_loadVar_row (P := Try.prog) w g t 27 (mcells m) (0, 0) _ hm.heap Try.underlying27 rfl (by rw [size_mcells]; exact sz_mach)
  simp [results, h, hp', hq', hr', asAddr, this]
theorem ret_mvvv {fn : Func} {R : Ending → World → Prop} {a : Act} {w : World} {p q r s : Nat} (h : fn.results = #[.cell p 27, .tmp q, .tmp r, .tmp s]) {g t : Nat} {m : Mach} {v u x : Value}
    (hp : a.tmps.getD p undef = .pointer (some ⟨g, 0, none⟩)) (hq : a.tmps.getD q undef = v) (hr : a.tmps.getD r undef = u) (hs : a.tmps.getD s undef = x) (hm : MB w t g m) (hdf : a.defers = []) (hR : R (.returned (.tuple #[.agg (mcells m), v, u, x])) w) : bodyPost Try.prog fn R .ret a w := by
  refine bodyPost_ret (v := .tuple #[.agg (mcells m), v, u, x]) ?_ hdf hR
  have hp' : a.tmps[p]?.getD undef = .pointer (some ⟨g, 0, none⟩) := by simpa using hp
  have hq' : a.tmps[q]?.getD undef = v := by simpa using hq
  have hr' : a.tmps[r]?.getD undef = u := by simpa using hr
  have hs' : a.tmps[s]?.getD undef = x := by simpa using hs
  have := run_loadVar_row (P := Try.prog) w g t 27 (mcells m) (0, 0) _ hm.heap Try.underlying27 rfl (by rw [size_mcells]; exact sz_mach)
  simp [results, h, hp', hq', hr', hs', asAddr, this]
theorem Dg.from5 {w W : World} {v : Value} {l : List Nat} {L : List Asn} (hv : ArgB w v l) (hl : l.length ≤ 5000) (hS : St w.heap.size w L W) :
    Calls Try.prog 78 #[v] W fun e w' => ∃ S, e = .returned (.pointer (some ⟨S, 0, none⟩)) ∧ Hid (Dg w S v l) ∧ St w.heap.size w (Asn.src S v l.length :: L) w' := by
  refine (l01From_any W v l (hv.below hS.bel) hl).mono ?_
  rintro e w' ⟨rfl, h⟩
  exact ⟨_, rfl, hid ⟨hv, hl, hS.le⟩, hS.callPush (a := Asn.src W.heap.size v l.length) h.bel h.star.1 fun k hk => Nat.le_of_eq (show k = W.heap.size from hk).symm⟩
theorem Dg.from {w W : World} {v : Value} {l : List Nat} {L : List Asn} (hv : ArgB w v l) (hl : l.length ≤ 4096) (hS : St w.heap.size w L W) :
    Calls Try.prog 78 #[v] W fun e w' => ∃ S, e = .returned (.pointer (some ⟨S, 0, none⟩)) ∧ Hid (Dg w S v l) ∧ St w.heap.size w (Asn.src S v l.length :: L) w' := Dg.from5 hv (by omega) hS
section
variable {w0 w : World} {S : Nat} {v : Value} {l : List Nat} {L : List Asn}
end
end Go.Proofs.Ytbmkkaecfogmoaa

/- Draws of FnMinimal. -/
namespace Go.Proofs.Ytbmkkaecfogmoaa
open Go.RowKit
set_option linter.unusedVariables false
set_option linter.unusedSimpArgs false
-- @LONG

set_option maxHeartbeats 2000000 in
set_option maxRecDepth 100000 in
theorem drMin_any (w : World) (v : Value) (l : List Nat) (hv : ArgB w v l) (hl : l.length ≤ 4096) :
    Calls Try.prog 9 #[v] w fun e w' => ∃ m : Mach, e = .returned (.agg (mcells m)) ∧ Hid (Low8 m) ∧ Below w.heap.size w w' := by
  have hz := zeroM_run
  have hS := hid ((St.start w).newMB zeroM 27)
  have hfr := hid (fun W L hW => Dg.from (w := w) (W := W) (L := L) hv hl hW)
  have hz2 := hid (fun L W (h : St w.heap.size w L W) => h.newMB zeroM 27)
  replace hv := hid hv
  obtain ⟨A, c, rfl, _⟩ := hv.out
  go_enter Try.func9, Try.ntmps9
  go_wp2_with (first
    | (go_at_call 78; (with_reducible refine (hfr.out _ _ hS.out).mono ?_); rintro e w1 ⟨S, rfl, D, hS'⟩; replace hS := hid hS'; clear hS')
    | (go_at_call 77; (with_reducible refine (D.out.spoil hS.out).mono ?_); rintro e w2 ⟨M, rfl, hM, hS'⟩; replace hS := hid hS'; clear hS')
    | ((with_reducible refine gateOp (op := .store 27 (.tmp 2) (.tmp 5)) rfl ?_); refine store_mach rfl _ _ rfl w.heap.size rfl M rfl 27 _ hS.out.m1 ?_; intro W3 p2 ho hsz hbl; have pB := hid (hbl _ _ (Nat.le_refl _) hS.out.bel); replace p2 := hid p2; clear ho hsz hbl))
  exact ret_mach rfl rfl p2.out rfl ⟨M, rfl, hM, pB.out⟩
set_option maxHeartbeats 2000000 in
set_option maxRecDepth 100000 in
theorem drAes_any (w : World) (v : Value) (l : List Nat) (hv : ArgB w v l) (hl : l.length ≤ 4096) :
    Calls Try.prog 17 #[v] w fun e w' => ∃ (m : Mach) (q r : Int), e = .returned (.tuple #[.agg (mcells m), .int .i64 q, .int .i64 r]) ∧ Hid (Low8 m ∧ I64 q ∧ I64 r) ∧ Below w.heap.size w w' := by
  have hz := zeroM_run
  have hS := hid ((St.start w).newMB zeroM 27)
  have hfr := hid (fun W L hW => Dg.from (w := w) (W := W) (L := L) hv hl hW)
  have hz2 := hid (fun L W (h : St w.heap.size w L W) => h.newMB zeroM 27)
  replace hv := hid hv
  obtain ⟨A, c, rfl, _⟩ := hv.out
  go_enter Try.func17, Try.ntmps17
  go_upto_region 3 with (first
    | (go_at_call 78; (with_reducible refine (hfr.out _ _ hS.out).mono ?_); rintro e w1 ⟨S, rfl, D, hS'⟩; replace hS := hid hS'; clear hS')
    | (go_at_call 77; (with_reducible refine (D.out.spoil hS.out).mono ?_); rintro e w2 ⟨M, rfl, hM, hS'⟩; have hle := hid hS'.le; replace hS := hid (hz2.out _ _ hS'); clear hS')
    | ((with_reducible refine gateOp (op := .store 27 (.tmp 6) (.tmp 10)) rfl ?_); refine store_mach rfl _ _ rfl w2.heap.size rfl M rfl 27 _ hS.out.m0 ?_; intro w4 p3 ho hsz hbl; replace hS := hid (hS.out.setM hle.out p3 ho hbl); clear p3 ho hsz hbl))
  generalize w2.heap.size = b6 at *
  replace hS := hid hS.out.drew
  refine wp_region_heldL (L := [(7, (fun w' : World => MB w' 27 b6 M))]) (by kernel_rfl) (HeldL.cons (fun _ => hS.out.m0) HeldL.nil) (fun hHeld => ?_)
  generalize World.drew w4 = wa at *
  refine wpAnyL_takeP (i := 0) 7 [] (v := (.agg (mcells M))) (fun w' : World => MB w' 27 b6 M) rfl (by kernel_rfl) (by kernel_rfl) (by kernel_rfl) (by rfl) (by kernel_rfl) (by simp) (fun _ _ _ h => h) (Or.inl ⟨by rfl, ?_⟩) (by assumption) ?_
  · (intro W hW; exact exec_load _ rfl rfl (load_run hW))
  intro hHeld'
  clear hHeld; have hHeld := hHeld'; clear hHeld'
  try simp only [Act.put, List.getElem_toArray, List.getElem_cons_succ, List.getElem_cons_zero, List.setIfInBounds_toArray, List.set_cons_zero, List.set_cons_succ]
  refine wpAnyL_take0 (i := 1) (v := ?_) rfl (by kernel_rfl) (by kernel_rfl) (by kernel_rfl) (by rfl) (fun _ _ _ h => h) (Or.inl ⟨by rfl, ?_⟩) (by assumption) ?_
  rotate_left
  · (intro W _; go_simp; (with_reducible rfl))
  intro hHeld'
  clear hHeld; have hHeld := hHeld'; clear hHeld'
  try simp only [Act.put, List.getElem_toArray, List.getElem_cons_succ, List.getElem_cons_zero, List.setIfInBounds_toArray, List.set_cons_zero, List.set_cons_succ]
  refine wpAnyL_takeP (i := 2) 7 [6, 3] (v := (.agg (mcells M))) (fun w' : World => MB w' 27 b6 M) rfl (by kernel_rfl) (by kernel_rfl) (by kernel_rfl) (by rfl) (by kernel_rfl) (by simp) (fun _ _ _ h => h) (Or.inl ⟨by rfl, ?_⟩) (by assumption) ?_
  · (intro W hW; exact exec_load _ rfl rfl (load_run hW))
  intro hHeld'
  clear hHeld; have hHeld := hHeld'; clear hHeld'
  try simp only [Act.put, List.getElem_toArray, List.getElem_cons_succ, List.getElem_cons_zero, List.setIfInBounds_toArray, List.set_cons_zero, List.set_cons_succ]
  refine wpAnyL_take0 (i := 4) (v := ?_) rfl (by kernel_rfl) (by kernel_rfl) (by kernel_rfl) (by rfl) (fun _ _ _ h => h) (Or.inl ⟨by rfl, ?_⟩) (by assumption) ?_
  rotate_left
  · (intro W _; go_simp; (with_reducible rfl))
  intro hHeld'
  clear hHeld; have hHeld := hHeld'; clear hHeld'
  try simp only [Act.put, List.getElem_toArray, List.getElem_cons_succ, List.getElem_cons_zero, List.setIfInBounds_toArray, List.set_cons_zero, List.set_cons_succ]
  refine wpAnyL_takeP (i := 5) 7 [6] (v := (.agg (mcells M))) (fun w' : World => MB w' 27 b6 M) rfl (by kernel_rfl) (by kernel_rfl) (by kernel_rfl) (by rfl) (by kernel_rfl) (by simp) (fun _ _ _ h => h) (Or.inl ⟨by rfl, ?_⟩) (by assumption) ?_
  · (intro W hW; exact exec_load _ rfl rfl (load_run hW))
  intro hHeld'
  clear hHeld; have hHeld := hHeld'; clear hHeld'
  try simp only [Act.put, List.getElem_toArray, List.getElem_cons_succ, List.getElem_cons_zero, List.setIfInBounds_toArray, List.set_cons_zero, List.set_cons_succ]
  refine wpAnyL_ready (rs := [3]) (by kernel_rfl) (by simp) ?_
  refine AllReadyL.cons rfl (fun K hK => ?_) AllReadyL.nil
  go_simp
  replace hS := hid hS.out.f1
  (with_reducible refine (D.out.state M hS.out).mono ?_)
  rintro e w5 ⟨k, rfl, hk, hS'⟩
  replace hS := hid hS'
  clear hS'
  go_simp
  refine hK.out _ _ (HeldL.cons (fun _ => hS.out.m1) HeldL.nil) (fun hHeld' => ?_)
  clear hK K hHeld; have hHeld := hHeld'; clear hHeld'
  try simp only [Act.put, List.getElem_toArray, List.getElem_cons_succ, List.getElem_cons_zero, List.setIfInBounds_toArray, List.set_cons_zero, List.set_cons_succ]
  refine wpAnyL_ready (rs := [6]) (by kernel_rfl) (by simp) ?_
  refine AllReadyL.cons rfl (fun K hK => ?_) AllReadyL.nil
  go_simp
  (with_reducible refine (D.out.state M hS.out).mono ?_)
  rintro e w6 ⟨k2, rfl, hk2, hS'⟩
  replace hS := hid hS'
  clear hS'
  go_simp
  refine hK.out _ _ (HeldL.cons (fun _ => hS.out.m1) HeldL.nil) (fun hHeld' => ?_)
  clear hK K hHeld; have hHeld := hHeld'; clear hHeld'
  try simp only [Act.put, List.getElem_toArray, List.getElem_cons_succ, List.getElem_cons_zero, List.setIfInBounds_toArray, List.set_cons_zero, List.set_cons_succ]
  refine wpAnyL_ready (rs := [7]) (by kernel_rfl) (by simp) ?_
  refine AllReadyL.cons rfl (fun K hK => ?_) AllReadyL.nil
  refine step_store_mach rfl _ _ rfl _ rfl M rfl _ _ hS.out.m2 ?_
  intro W9 p2 ho hbl
  replace hS := hid (hS.out.f2.setM (Nat.le_refl _) p2 ho hbl)
  clear p2 ho hbl
  refine hK.out _ _ (HeldL.cons (fun h => absurd h (by decide +kernel)) HeldL.nil) (fun hHeld' => ?_)
  clear hK K hHeld; have hHeld := hHeld'; clear hHeld'
  try simp only [Act.put, List.getElem_toArray, List.getElem_cons_succ, List.getElem_cons_zero, List.setIfInBounds_toArray, List.set_cons_zero, List.set_cons_succ]
  refine wpAnyL_take0 (i := 8) (v := ?_) rfl (by kernel_rfl) (by kernel_rfl) (by kernel_rfl) (by rfl) (fun _ _ _ h => h) (Or.inl ⟨by rfl, ?_⟩) (by assumption) ?_
  rotate_left
  · (intro W _; go_simp; (with_reducible rfl))
  intro hHeld'
  clear hHeld; have hHeld := hHeld'; clear hHeld'
  try simp only [Act.put, List.getElem_toArray, List.getElem_cons_succ, List.getElem_cons_zero, List.setIfInBounds_toArray, List.set_cons_zero, List.set_cons_succ]
  refine wpAnyL_take0 (i := 9) (v := ?_) rfl (by kernel_rfl) (by kernel_rfl) (by kernel_rfl) (by rfl) (fun _ _ _ h => h) (Or.inl ⟨by rfl, ?_⟩) (by assumption) ?_
  rotate_left
  · (intro W _; go_simp; (with_reducible rfl))
  intro hHeld'
  clear hHeld; have hHeld := hHeld'; clear hHeld'
  try simp only [Act.put, List.getElem_toArray, List.getElem_cons_succ, List.getElem_cons_zero, List.setIfInBounds_toArray, List.set_cons_zero, List.set_cons_succ]
  refine wpAnyL_done (by kernel_rfl) ?_ _
  go_wp2
  exact ret_mvv rfl rfl rfl rfl hS.out.m0 rfl ⟨M, k, k2, rfl, hid ⟨hM.out, hk.out, hk2.out⟩, hS.out.bel⟩
end Go.Proofs.Ytbmkkaecfogmoaa
