/- What the proof of LevelOrbits leans on, part 11 of 13. -/
import Derived.Test.YtgpjcekpmhfljaaZLevelOrbitsJ
/- Orbits of a level: the program. -/
namespace Go.Proofs.Ytgpjcekpmhfljaa
open Go.RowKit
set_option linter.unusedVariables false
set_option linter.unusedSimpArgs false
-- @LONG

def mkAll (s : List Bool) (o : List Nat) : List Bool := o.foldl (fun s x => s.set x true) s
theorem mkAll_len (o : List Nat) : ∀ s, (mkAll s o).length = s.length := by
  induction o with
  | nil => intro s; rfl
  | cons x o ih => intro s; show (mkAll (s.set x true) o).length = _; rw [ih, List.length_set]
theorem mkAll_snoc (s : List Bool) (o : List Nat) (x : Nat) : mkAll s (o ++ [x]) = (mkAll s o).set x true := by simp [mkAll]
theorem mkAll_take {s : List Bool} {o : List Nat} {j x : Nat} (h : o[j]? = some x) : mkAll s (o.take (j + 1)) = (mkAll s (o.take j)).set x true := by
  rw [List.take_add_one, h]; exact mkAll_snoc _ _ _
/-- The words that a tree reaches. -/
def orbT (far : List Int) (n : Nat) : List Nat := (List.range n).filter fun i => decide (0 ≤ far.getD i 0)
def natI (l : List Nat) : List Int := l.map Int.ofNat
theorem natI_length (l : List Nat) : (natI l).length = l.length := by simp [natI]
/-- What is met, and the orbits, before k. -/
def orbS (f : Nat → List Nat) (n : Nat) : Nat → List Bool × List (List Int)
  | 0 => (List.replicate n false, [])
  | k + 1 => if (orbS f n k).1.getD k false = true then orbS f n k else (mkAll (orbS f n k).1 (f k), (orbS f n k).2 ++ [natI (f k)])
theorem orbS_len (f : Nat → List Nat) (n : Nat) : ∀ k, (orbS f n k).1.length = n
  | 0 => by simp [orbS]
  | k + 1 => by
    rw [orbS]
    split
    · exact orbS_len f n k
    · show (mkAll _ _).length = n; rw [mkAll_len]; exact orbS_len f n k
theorem orbS_out (f : Nat → List Nat) (n : Nat) : ∀ k, (orbS f n k).2.length ≤ k
  | 0 => by simp [orbS]
  | k + 1 => by
    have := orbS_out f n k
    rw [orbS]
    split
    · omega
    · simp; omega
theorem orbS_rows {f : Nat → List Nat} {n b : Nat} (h : ∀ k, k < n → (f k).length ≤ b) : ∀ k, k ≤ n → ∀ r ∈ (orbS f n k).2, r.length ≤ b
  | 0, _, r, hr => by simp [orbS] at hr
  | k + 1, hk, r, hr => by
    rw [orbS] at hr
    split at hr
    · exact orbS_rows h k (by omega) r hr
    · rcases List.mem_append.1 hr with hr | hr
      · exact orbS_rows h k (by omega) r hr
      · rw [List.mem_singleton.1 hr, natI_length]; exact h k (by omega)
theorem orbS_met {f : Nat → List Nat} {n k : Nat} (h : (orbS f n k).1[k]? = some true) : orbS f n (k + 1) = orbS f n k := by
  rw [orbS, if_pos (by rw [List.getD_eq_getElem?_getD, h]; rfl)]
theorem orbS_new {f : Nat → List Nat} {n k : Nat} (h : (orbS f n k).1[k]? = some false) : orbS f n (k + 1) = (mkAll (orbS f n k).1 (f k), (orbS f n k).2 ++ [natI (f k)]) := by
  rw [orbS, if_neg (by rw [List.getD_eq_getElem?_getD, h]; exact Bool.false_ne_true)]
theorem orbT_lt {far : List Int} {n : Nat} : ∀ x ∈ orbT far n, x < n := fun x hx => List.mem_range.1 (List.mem_filter.1 hx).1
theorem orbT_len (far : List Int) (n : Nat) : (orbT far n).length ≤ n := Nat.le_trans (List.length_filter_le _ _) (by simp)
theorem orbT_srt {n : Nat} {t : Tr} (h : TrOk n t) : srt (natI t.q) = natI (orbT t.far n) := by
  have hmem : ∀ x, x ∈ orbT t.far n ↔ x ∈ t.q := fun x => by
    unfold orbT
    rw [List.mem_filter, List.mem_range]
    constructor
    · rintro ⟨hx, hd⟩
      have hg : t.far[x]? = some (t.far.getD x 0) := by rw [List.getD_eq_getElem?_getD, List.getElem?_eq_getElem (by rw [h.fl]; exact hx)]; rfl
      have hd' : 0 ≤ t.far.getD x 0 := of_decide_eq_true hd
      rcases h.fb x _ hg with ⟨h1, _⟩ | ⟨h1, _⟩
      · omega
      · exact h1
    · intro hx
      have hb := h.qb x hx
      have hg : t.far[x]? = some (t.far.getD x 0) := by rw [List.getD_eq_getElem?_getD, List.getElem?_eq_getElem (by rw [h.fl]; exact hb)]; rfl
      refine ⟨hb, decide_eq_true ?_⟩
      rcases h.fb x _ hg with ⟨_, h1⟩ | ⟨_, h1, _⟩
      · exact absurd hx h1
      · exact h1
  have hnd : (orbT t.far n).Nodup := List.Nodup.sublist List.filter_sublist List.nodup_range
  have hp : (orbT t.far n).Perm t.q := (List.perm_ext_iff_of_nodup hnd h.nd).2 hmem
  have hs : (natI (orbT t.far n)).Pairwise (· ≤ ·) := by
    unfold natI
    rw [List.pairwise_map]
    have h1 : (List.range n).Pairwise fun a b => Int.ofNat a ≤ Int.ofNat b := List.pairwise_lt_range.imp fun h => by simp only [Int.ofNat_eq_natCast]; omega
    exact h1.filter _
  exact (srt_eq (hp.map _) hs).symm
theorem hasI_of_own {w : World} {b0 : Nat} {v : Value} {l : List Int} (h : Own w b0 2 v (ints l)) : HasI w.heap.size w v l := by
  obtain ⟨A, c, rfl, _, hA⟩ := h.form
  rw [ints_length] at *
  rcases hA with ⟨rfl, he, rfl⟩ | ⟨g, rfl, _, hlt, hc⟩
  · have e : l = [] := by cases l with
      | nil => rfl
      | cons a t => simp [ints] at he
    subst e
    exact .inl ⟨rfl, rfl⟩
  · refine .inr ⟨g, c, rfl, hlt, fun j hj => ?_⟩
    have hx : l[j]? = some l[j] := List.getElem?_eq_getElem hj
    rw [hx]
    exact hc j _ (by simp [ints, hx])
theorem St.nilMat {base : Nat} {w0 w : World} {L : List Asn} (h : St base w0 L w) : St base w0 (Asn.mat base (.slice none 0 0) [] [] :: L) w :=
  h.push (a := Asn.mat base (.slice none 0 0) [] []) ⟨Own.nil _ _ _, rfl, fun i r l hr => by simp at hr⟩ fun k hk => by
    rcases hk with hk | ⟨r, hr, _⟩
    · simp [Value.ownBlock] at hk
    · cases hr
theorem sortedVals (W : World) (b0 : Nat) (vq : Value) (zs : List Int) (hO : Own W b0 2 vq (ints zs)) (hl : zs.length < 1000000) :
    Calls Try.prog 98 #[.func (.func 130) #[] #[.pointer (some ⟨W.heap.size, 0, none⟩)]] (W.alloc (.cells #[vq] 34)) fun e w' => ∃ v, e = .returned v ∧ Own w' (W.alloc (.cells #[vq] 34)).heap.size 2 v (ints (srt zs)) ∧ Below (W.alloc (.cells #[vq] 34)).heap.size (W.alloc (.cells #[vq] 34)) w' := by
  have hc : (W.alloc (.cells #[vq] 34)).cell? ⟨W.heap.size, 0, none⟩ = some vq := cell_of_row _ _ 0 _ _ _ (World.alloc_heap_new W _)
  have hlt : W.heap.size < (W.alloc (.cells #[vq] 34)).heap.size := by rw [heap_alloc_size]; omega
  have hB : Below W.heap.size W (W.alloc (.cells #[vq] 34)) := below_alloc (Below.refl _ _) (Nat.le_refl _) _
  exact sorted_any W.heap.size vq zs hl _ hlt hc (hasI_of_own (hO.below hB))
/-- No two rows share a block. -/
def Dj (rows : List Value) : Prop := rows.Pairwise fun r r' => ∀ k, r.ownBlock = some k → r'.ownBlock ≠ some k
theorem St.djSnoc {base t : Nat} {w0 w : World} {L : List Asn} {v r : Value} {rows : List Value} {M : List (List Int)} {cs : List Value} (h : St base w0 (Asn.mat base v rows M :: Asn.own base t r cs :: L) w) (hd : Dj rows) : Dj (rows ++ [r]) := by
  unfold Dj
  rw [List.pairwise_append]
  refine ⟨hd, List.pairwise_singleton _ _, fun a ha b hb k hk hk' => ?_⟩
  rw [List.mem_singleton.1 hb] at hk'
  exact h.star.2.1 k (.inr ⟨a, ha, hk⟩) (.inl hk')
/-- A slice of slices, its rows apart. -/
def MatD (w : World) (base : Nat) (v : Value) (M : List (List Int)) : Prop := ∃ rows, (Asn.mat base v rows M).holds w ∧ Dj rows
theorem MatD.mat {w : World} {base : Nat} {v : Value} {M : List (List Int)} (h : MatD w base v M) : Mat w base v M := h.elim fun _ h => Asn.toMat h.1
theorem MatD.mono {w : World} {base b' : Nat} {v : Value} {M : List (List Int)} (h : MatD w base v M) (hb : b' ≤ base) : MatD w b' v M := by
  obtain ⟨rows, ⟨h1, h2, h3⟩, hd⟩ := h
  exact ⟨rows, ⟨h1.mono hb, h2, fun i r l hr hl => (h3 i r l hr hl).mono hb⟩, hd⟩
set_option maxHeartbeats 4000000 in
set_option maxRecDepth 100000 in
theorem orbits_any (w : World) (G n s : Nat) (vA vB : Value) (A B : List (List Int)) (hG : GB w G n vA vB A B) (hf : Few n) (hA : A.length = s) (hB : B.length = s) (h1 : 1 ≤ s) (h16 : s ≤ 16) (T : Nat → Nat → Nat)
    (hTA : ∀ p, p < s → ∃ row, A[p]? = some row ∧ row.length = n ∧ ∀ i, i < n → row[i]? = some ((T p i : Nat) : Int)) (hTB : ∀ p, p < s → ∃ row, B[p]? = some row ∧ row.length = n ∧ ∀ i, i < n → row[i]? = some ((T (s + p) i : Nat) : Int))
    (hT : ∀ j fr, j < 2 * s → fr < n → T j fr < n) (hn : n ≤ 243) :
    Calls Try.prog 62 #[.pointer (some ⟨G, 0, none⟩)] w fun e w' => ∃ v, e = .returned v ∧ MatD w' w.heap.size v (orbS (fun k => orbT (treeT T s n k).far n) n n).2 ∧ Below w.heap.size w w' := by
  have htr := hid (fun k (hk : k < n) W (hW : Below w.heap.size w W) => tree_any W G n s k vA vB A B (hG.below hW) hf hk hA hB h1 h16 T hTA hTB hT)
  have hok := hid (fun k (hk : k < n) => (show TrOk n (treeT T s n k) from growT_ok hk hT _))
  have hsq := hid (fun k (hk : k < n) => orbT_srt (hok.out k hk))
  have hql := hid (fun k (hk : k < n) => (hok.out k hk).ql)
  have hmk := fun W : World => run_make_row' (P := Try.prog) 83 4 (.bool false) 1 Try.underlying83 info_bool rfl .i64 .i64 n (by omega) (by omega) W
  have hmc := hid (toList_madeCells_one (.bool false) n)
  generalize madeCells #[.bool false] n = mc at *
  have hmcs := hid (show mc.size = n by rw [← Array.length_toList, hmc.out, List.length_replicate])
  have hS := (St.start w).newArr mc n hmcs.out 4 (by omega)
  rw [hmc.out] at hS
  obtain ⟨f, hfd⟩ : ∃ f : Nat → List Nat, f = fun k => orbT (treeT T s n k).far n := ⟨_, rfl⟩
  have hfe := hid (fun k => (show orbT (treeT T s n k).far n = f k by rw [hfd]))
  have hflt := hid (fun k x (hx : x ∈ f k) => (show x < n from by rw [← hfe.out k] at hx; exact orbT_lt x hx))
  have hfl := hid (fun k => (show (f k).length ≤ n from by rw [← hfe.out k]; exact orbT_len _ _))
  simp only [hfe.out] at hsq ⊢
  rw [show (fun k => f k) = f from rfl]
  clear hfd hfe
  have hrep : List.replicate n (Value.bool false) = bls (orbS f n 0).1 := by simp [bls, orbS]
  rw [hrep] at hS
  have hS0 := hid (show Asn.mat w.heap.size (.slice none 0 0) [] [] = Asn.mat w.heap.size (.slice none 0 0) [] (orbS f n 0).2 from rfl)
  replace hS := hid hS.nilMat
  rw [hS0.out] at hS
  have hsl := hid (orbS_len f n)
  have hso := hid (orbS_out f n)
  have hmet := hid (fun k (h : (orbS f n k).1[k]? = some true) => orbS_met h)
  have hnew := hid (fun k (h : (orbS f n k).1[k]? = some false) => orbS_new h)
  have c0 := hid (fun W (hW : Below w.heap.size w W) => (hG.below hW).c0)
  have cG := hG.c0
  have cG2 := ((hG.below ((Below.refl _ w).alloc (Nat.le_refl _) (.cells mc 4))).c0)
  clear hrep hmc hG hTA hTB hT hS0
  go_enter Try.func62, Try.ntmps62
  go_wp2
  go_loopw [4, 18] (fun o i wr => ∃ (k : Nat) (vo : Value) (rows : List Value), k ≤ n ∧ i = .int .i64 k ∧ vo = o ∧ Hid (Dj rows) ∧ St w.heap.size w [Asn.mat w.heap.size vo rows (orbS f n k).2, Asn.own w.heap.size 4 (.slice (some ⟨w.heap.size, 0, none⟩) n n) (bls (orbS f n k).1)] wr) (fun _ i _ => n - (intOf i).toNat)
  case atStart => exact ⟨0, _, _, Nat.zero_le _, rfl, rfl, hid List.Pairwise.nil, hS.out⟩
  case round =>
    obtain ⟨k, vo, rows, hk, rfl, rfl, hDj, rS⟩ := hrel
    clear hS cG cG2
    have hob := hid rS.bel
    replace rS := hid rS
    by_cases hlk : k < n
    · have dk : decide ((k : Int) < (n : Int)) = true := decide_eq_true (by omega)
      have k0 : (0 : Int) ≤ (k : Int) := Int.natCast_nonneg _
      have k1 : (k : Int) < (n : Int) := by omega
      by_cases hm : (orbS f n k).1[k]? = some true
      · have ck := rS.out.o1.cellAt k _ (bls_get hm)
        have hs2 := hid (hmet.out k hm)
        clear hm
        go_wp2
        go_roundw
        case rel => exact ⟨k + 1, _, _, by omega, by go_num, rfl, hDj, by rw [hs2.out]; exact rS.out⟩
        case measure => simp [intOf]; omega
      · have hm2 := get_bool (by rw [hsl.out]; omega) hm
        have ck := rS.out.o1.cellAt k _ (bls_get hm2)
        have hs2 := hid (hnew.out k hm2)
        have htk := hid (htr.out k hlk _ hob.out)
        have hsqk := hid (hsq.out k hlk)
        have hqk := hid (hql.out k hlk)
        have hok2 := hso.out k
        have hnl := hid (natI_length (f k))
        have hfn := hfl.out k
        have hrlt := hid (hflt.out k)
        clear hm hm2
        generalize treeT T s n k = t at *
        generalize hst : (orbS f n k).1 = sn at *
        generalize hos : (orbS f n k).2 = os at *
        have hsl2 := hid (show sn.length = n from by rw [← hst]; exact hsl.out k)
        replace hst := hid hst; replace hos := hid hos
        generalize f k = O at *
        go_upto_region 8 with (first
          | (go_at_call 42; (with_reducible refine (htk.out).mono ?_); rintro e w4 ⟨bt, gf, gw, vq, rws, rfl, hT⟩; (have q1 := (show w4.cell? ⟨bt, 0, none⟩ = some vq from cell_of_row _ _ 0 _ _ _ hT.k0)); (have hO := hT.o1); rw [nats_ints] at hO; (have hvq := hid (fun W => vals_any vq W (by obtain ⟨A, c, e, _⟩ := hO.form; exact ⟨_, _, _, e⟩))); (have hso2 := hid (sortedVals w4 _ vq (natI t.q) hO (by rw [natI_length]; have := hqk.out; omega))); rw [hsqk.out] at hso2; clear hO; replace rS := hid (rS.out.outer hT); clear hT)
          | (go_at_call 99; (with_reducible refine (hvq.out _).mono ?_); rintro e w5 ⟨rfl, rfl⟩; replace rS := hid (rS.out.alloc (.cells #[vq] 34)))
          | (go_at_call 98; (with_reducible refine (hso2.out).mono ?_); rintro e w6 ⟨v6, rfl, hO6, hb⟩; replace rS := hid (rS.out.callOwn hb hO6); clear hO6 hb hso2 hvq q1))
        obtain ⟨A6, c6, rfl, _, hA6⟩ := rS.out.o0.form
        rw [ints_length, hnl.out] at rS ⊢
        replace rS := hid (show St w.heap.size w [Asn.own w.heap.size 4 (.slice (some ⟨w.heap.size, 0, none⟩) n n) (bls (mkAll sn (O.take 0))), Asn.own w.heap.size 2 (.slice A6 O.length c6) (ints (natI O)), Asn.mat w.heap.size vo rows os] w6 from rS.out.f2)
        replace hA6 := hid hA6
        generalize hOl : O.length = no at *
        go_wp2
        go_loopw [35] (fun i wi => ∃ j : Nat, j ≤ no ∧ i = .int .i64 j ∧ St w.heap.size w [Asn.own w.heap.size 4 (.slice (some ⟨w.heap.size, 0, none⟩) n n) (bls (mkAll sn (O.take j))), Asn.own w.heap.size 2 (.slice A6 no c6) (ints (natI O)), Asn.mat w.heap.size vo rows os] wi) (fun i _ => no - (intOf i).toNat)
        case atStart => exact ⟨0, Nat.zero_le _, rfl, rS.out⟩
        case round =>
          obtain ⟨j, hj, rfl, zS⟩ := hrel
          clear rS
          replace zS := hid zS
          by_cases hlj : j < no
          · have dj : decide ((j : Int) < (no : Int)) = true := decide_eq_true (by omega)
            obtain ⟨g6, rfl⟩ : ∃ g, A6 = some ⟨g, 0, none⟩ := by
              rcases hA6.out with ⟨_, h1, _⟩ | ⟨g, h1, _⟩
              · have : (ints (natI O)).length = 0 := by rw [h1]; rfl
                rw [ints_length, natI_length] at this
                omega
              · exact ⟨g, h1⟩
            obtain ⟨x, hx⟩ : ∃ x, O[j]? = some x := ⟨_, List.getElem?_eq_getElem (by rw [hOl]; exact hlj)⟩
            have cx := zS.out.o1.cellAt j (.int .i64 ((x : Nat) : Int)) (by simp [ints, natI, hx])
            have hxn := hrlt.out x (List.mem_of_getElem? hx)
            have hstp := hid (mkAll_take (s := sn) hx)
            have x0 : (0 : Int) ≤ (x : Int) := Int.natCast_nonneg _
            have x1 : (x : Int) < (n : Int) := by omega
            have hbl := hid (show (bls (mkAll sn (O.take j))).length = n by rw [bls_length, mkAll_len]; exact hsl2.out)
            have fs := Own.frozenAt zS.out.o0 hbl.out x
            obtain ⟨bb, hbb⟩ : ∃ b, (mkAll sn (O.take j))[x]? = some b := ⟨_, List.getElem?_eq_getElem (by rw [mkAll_len, hsl2.out]; exact hxn)⟩
            have cbb := zS.out.o0.cellAt x _ (bls_get hbb)
            clear hbb
            have hset := hid (bls_set (mkAll sn (O.take j)) x true)
            clear hx
            go_wp2
            replace zS := hid (zS.out.setOwn hbl.out x (.bool true) hxn)
            rw [hset.out, ← hstp.out] at zS
            go_roundw
            case rel => exact ⟨j + 1, by omega, by go_num, zS.out⟩
            case measure => simp [intOf]; omega
          · obtain rfl : no = j := by omega
            have dj : decide ((no : Int) < (no : Int)) = false := decide_eq_false (by omega)
            have htk2 := hid (show O.take no = O from by rw [← hOl]; exact List.take_length)
            rw [htk2.out] at zS
            have hDj2 := hid (zS.out.b2.f1.djSnoc hDj.out)
            go_wp2_with (first
              | ((with_reducible refine gate (N := 46) rfl ?_); refine St.appM rfl _ _ rfl _ _ rows os (natI O) rfl zS.out.b2.f1 rfl _ rfl (by omega) ?_; intro gn cn w7 zS'; replace zS := hid zS'; clear zS'))
            go_roundw
            case rel => exact ⟨k + 1, _, _, by omega, by go_num, rfl, hDj2, by rw [hs2.out]; exact zS.out⟩
            case measure => simp [intOf]; omega
    · obtain rfl : k = n := by omega
      have dk : decide ((k : Int) < (k : Int)) = false := decide_eq_false (by omega)
      go_wp2
      go_ret
      exact ⟨_, rfl, ⟨_, rS.out.g0, hDj.out⟩, rS.out.bel⟩
end Go.Proofs.Ytgpjcekpmhfljaa

/- Slices of slices of numbers: equal, marked, held. -/
namespace Go.Proofs.Ytgpjcekpmhfljaa
open Go.RowKit
set_option linter.unusedVariables false
set_option linter.unusedSimpArgs false
-- @LONG

/-- Rows, whatever they hold. -/
def Asn.rws (base : Nat) (v : Value) (rows : List Value) (C : Nat → List Value) : Asn :=
  ⟨fun k => v.ownBlock = some k ∨ ∃ i r, rows[i]? = some r ∧ r.ownBlock = some k,
   fun w => Own w base 34 v rows ∧ ∀ (i : Nat) (r : Value), rows[i]? = some r → Own w base 2 r (C i),
   fun h hk => ⟨h.1.keep fun k hk' => hk k (.inl hk'), fun i r hr => (h.2 i r hr).keep fun k hk' => hk k (.inr ⟨i, r, hr, hk'⟩)⟩,
   fun h k hk => by
    rcases hk with hk | ⟨i, r, hr, hk⟩
    · exact (h.1.lt k hk).2
    · exact ((h.2 i r hr).lt k hk).2⟩
/-- All rows but number j. -/
def Asn.rwx (base : Nat) (v : Value) (rows : List Value) (C : Nat → List Value) (j : Nat) : Asn :=
  ⟨fun k => v.ownBlock = some k ∨ ∃ i r, i ≠ j ∧ rows[i]? = some r ∧ r.ownBlock = some k,
   fun w => Own w base 34 v rows ∧ ∀ (i : Nat) (r : Value), i ≠ j → rows[i]? = some r → Own w base 2 r (C i),
   fun h hk => ⟨h.1.keep fun k hk' => hk k (.inl hk'), fun i r hi hr => (h.2 i r hi hr).keep fun k hk' => hk k (.inr ⟨i, r, hi, hr, hk'⟩)⟩,
   fun h k hk => by
    rcases hk with hk | ⟨i, r, hi, hr, hk⟩
    · exact (h.1.lt k hk).2
    · exact ((h.2 i r hi hr).lt k hk).2⟩
theorem Dj.ne {rows : List Value} (h : Dj rows) {i j : Nat} {r r' : Value} (hi : rows[i]? = some r) (hj : rows[j]? = some r') (hij : i ≠ j) (k : Nat) (hk : r.ownBlock = some k) : r'.ownBlock ≠ some k := by
  obtain ⟨h1, e1⟩ := List.getElem?_eq_some_iff.1 hi
  obtain ⟨h2, e2⟩ := List.getElem?_eq_some_iff.1 hj
  rw [← e1] at hk
  rw [← e2]
  rcases Nat.lt_or_gt_of_ne hij with h3 | h3
  · exact List.pairwise_iff_getElem.1 h i j h1 h2 h3 k hk
  · exact fun hk' => List.pairwise_iff_getElem.1 h j i h2 h1 h3 k hk' hk
section
variable {base : Nat} {w0 w : World} {L : List Asn} {v r : Value} {rows : List Value} {C : Nat → List Value} {c : List Value} {j : Nat}
theorem St.rowOut (h : St base w0 (Asn.rws base v rows C :: L) w) (hd : Dj rows) (hj : rows[j]? = some r) : St base w0 (Asn.own base 2 r (C j) :: Asn.rwx base v rows C j :: L) w := by
  obtain ⟨⟨h1, h2⟩, hf, hL⟩ := h.star
  refine ⟨h.bel, h.le, h2 j r hj, fun k hk hF => ?_, ⟨h1, fun i r' _ hr' => h2 i r' hr'⟩, fun k hk hF => hf k ?_ hF, hL⟩
  · rcases hF with hF | hF
    · rcases hF with hF | ⟨i, r', hi, hr', hk'⟩
      · exact (h2 j r hj).ne h1 (by decide) k hk hF
      · exact hd.ne hr' hj hi k hk' hk
    · exact hf k (.inr ⟨j, r, hj, hk⟩) hF
  · rcases hk with hk | ⟨i, r', _, hr', hk'⟩
    · exact .inl hk
    · exact .inr ⟨i, r', hr', hk'⟩
theorem St.rowIn (h : St base w0 (Asn.own base 2 r c :: Asn.rwx base v rows C j :: L) w) (hj : rows[j]? = some r) (C' : Nat → List Value) (hC : C' j = c) (hC' : ∀ i, i ≠ j → C' i = C i) : St base w0 (Asn.rws base v rows C' :: L) w := by
  obtain ⟨hr, hf, ⟨h1, h2⟩, hf2, hL⟩ := h.star
  refine ⟨h.bel, h.le, ⟨h1, fun i r' hr' => ?_⟩, fun k hk hF => ?_, hL⟩
  · by_cases e : i = j
    · subst e
      rw [hj] at hr'; injection hr' with hr'; subst hr'
      rw [hC]; exact hr
    · rw [hC' i e]; exact h2 i r' e hr'
  · rcases hk with hk | ⟨i, r', hr', hk⟩
    · exact hf2 k (.inl hk) hF
    · by_cases e : i = j
      · subst e
        rw [hj] at hr'; injection hr' with hr'; subst hr'
        exact hf k hk (.inr hF)
      · exact hf2 k (.inr ⟨i, r', e, hr', hk⟩) hF
end
theorem rws_of_mat {base : Nat} {v : Value} {rows : List Value} {M : List (List Int)} {w : World} (h : (Asn.mat base v rows M).holds w) : (Asn.rws base v rows (fun i => ints (M.getD i []))).holds w := by
  obtain ⟨h1, h2, h3⟩ := h
  refine ⟨h1, fun i r hr => ?_⟩
  have hi : i < M.length := by rw [← h2]; exact (List.getElem?_eq_some_iff.1 hr).1
  have he : M[i]? = some (M.getD i []) := by rw [List.getD_eq_getElem?_getD, List.getElem?_eq_getElem hi]; rfl
  exact h3 i r _ hr he
/-- Where the marks of row i begin. -/
def mkk (ns : Nat → Nat) (k : Nat) : Nat → Nat
  | 0 => k
  | i + 1 => mkk ns k i + ns i
theorem mkk_le {ns : Nat → Nat} {b : Nat} (h : ∀ i, ns i ≤ b) (k : Nat) : ∀ i, mkk ns k i ≤ k + i * b
  | 0 => by simp [mkk]
  | i + 1 => by have := mkk_le h k i; have := h i; rw [mkk, Nat.add_mul]; omega
def mkC (ns : Nat → Nat) (k : Nat) (C : Nat → List Value) (j : Nat) : Nat → List Value := fun i => if i < j then marks (mkk ns k i) (ns i) else C i
set_option maxHeartbeats 2000000 in
set_option maxRecDepth 100000 in
theorem markSS_any (base : Nat) (w0 : World) (L : List Asn) (w : World) (v : Value) (rows : List Value) (C : Nat → List Value) (ns : Nat → Nat) (k N : Nat) (hN : rows.length = N) (hd : Dj rows) (hn : ∀ i, (C i).length = ns i) (hb : ∀ i, ns i ≤ 1000) (hNb : N ≤ 1000) (hk : k ≤ 10)
    (hS : St base w0 (Asn.rws base v rows C :: L) w) :
    Calls Try.prog 14 #[v, .int .i64 k] w fun e w' => e = .returned (.int .i64 ((mkk ns k N : Nat) : Int)) ∧ St base w0 (Asn.rws base v rows (mkC ns k C N) :: L) w' := by
  obtain ⟨A, c, rfl, _, hA⟩ := (show Own w base 34 v rows from hS.g0.1).form
  rw [hN] at hS ⊢
  have hbl := hid (mkk_le hb k)
  have hC0 : mkC ns k C 0 = C := funext fun i => by simp [mkC]
  have hg := hid (fun j (hj : j < N) => (show ∃ r, rows[j]? = some r from ⟨_, List.getElem?_eq_getElem (by rw [hN]; exact hj)⟩))
  have hm := hid (fun j (hj : j < N) r (hr : rows[j]? = some r) W (hW : St base w0 (Asn.rws base (.slice A N c) rows (mkC ns k C j) :: L) W) => (by
    have h := markS_any base w0 _ W r (mkC ns k C j j) (ns j) (mkk ns k j) (by simp only [mkC, Nat.lt_irrefl, if_false]; exact hn j) (hW.rowOut hd hr) (by have := hbl.out j; have := hb j; have : j * 1000 ≤ 1000 * 1000 := Nat.mul_le_mul_right _ (by omega); omega)
    exact h.mono fun e w' ⟨h1, h2⟩ => ⟨h1, h2.rowIn hr (mkC ns k C (j + 1)) (by simp [mkC]) (fun i hi => by
      simp only [mkC]
      by_cases e1 : i < j
      · rw [if_pos e1, if_pos (by omega)]
      · rw [if_neg e1, if_neg (by omega)])⟩ :
    Calls Try.prog 24 #[r, .int .i64 (mkk ns k j : Nat)] W fun e w' => e = .returned (.int .i64 ((mkk ns k (j + 1) : Nat) : Int)) ∧ St base w0 (Asn.rws base (.slice A N c) rows (mkC ns k C (j + 1)) :: L) w'))
  have hc := hid (fun j r (hr : rows[j]? = some r) W C' L' (hW : St base w0 (Asn.rws base (.slice A N c) rows C' :: L') W) => (show ∃ g, A = some ⟨g, 0, none⟩ ∧ W.cell? ⟨g, j, none⟩ = some r from by
    obtain ⟨A', c', e, _, hA'⟩ := (show Own W base 34 (.slice A N c) rows from hW.g0.1).form
    rcases hA' with ⟨_, h2, _⟩ | ⟨g, h1, _, _, h2⟩
    · rw [h2] at hr; simp at hr
    · injection e with e1 _ _; exact ⟨g, by rw [e1, h1], h2 j r hr⟩))
  rw [← hC0] at hS
  replace hS := hid hS
  have hk0 := hid (show mkk ns k 0 = k from rfl)
  clear hA hbl hC0
  go_enter Try.func14, Try.ntmps14
  go_wp2
  go_loopw [1, 5] (fun q i wr => ∃ j : Nat, j ≤ N ∧ i = .int .i64 j ∧ q = .int .i64 ((mkk ns k j : Nat) : Int) ∧ St base w0 (Asn.rws base (.slice A N c) rows (mkC ns k C j) :: L) wr) (fun _ i _ => N - (intOf i).toNat)
  case atStart => exact ⟨0, Nat.zero_le _, rfl, by rw [hk0.out], hS.out⟩
  case round =>
    obtain ⟨j, hj, rfl, rfl, rS⟩ := hrel
    clear hS
    replace rS := hid rS
    by_cases hlt : j < N
    · have dk : decide ((j : Int) < (N : Int)) = true := decide_eq_true (by omega)
      obtain ⟨r, hr⟩ := hg.out j hlt
      obtain ⟨g, rfl, cr⟩ := hc.out j r hr _ _ _ rS.out
      have hmj := hid (hm.out j hlt r hr wr rS.out)
      have j0 : (0 : Int) ≤ (j : Int) := Int.natCast_nonneg _
      have j1 : (j : Int) < (N : Int) := by omega
      clear hr
      go_wp2_with (first
        | (go_at_call 24; (with_reducible refine (hmj.out).mono ?_); rintro e w5 ⟨rfl, hS'⟩; replace rS := hid hS'; clear hS' hmj))
      go_roundw
      case rel => exact ⟨j + 1, by omega, by go_num, rfl, rS.out⟩
      case measure => simp [intOf]; omega
    · obtain rfl : j = N := by omega
      have dk : decide ((j : Int) < (j : Int)) = false := decide_eq_false (by omega)
      go_wp2
      go_ret
      exact ⟨rfl, rS.out⟩
set_option maxHeartbeats 2000000 in
set_option maxRecDepth 100000 in
theorem heldSS_any (base : Nat) (w : World) (v : Value) (rows : List Value) (C : Nat → List Value) (ns : Nat → Nat) (k N : Nat) (hN : rows.length = N) (hb : ∀ i, ns i ≤ 1000) (hNb : N ≤ 1000) (hk : k ≤ 10)
    (hS : (Asn.rws base v rows (mkC ns k C N)).holds w) :
    Calls Try.prog 15 #[v, .int .i64 k] w fun e w' => e = .returned (.int .i64 ((mkk ns k N : Nat) : Int)) ∧ w = w' := by
  obtain ⟨A, c, rfl, _, hA⟩ := (show Own w base 34 v rows from hS.1).form
  rw [hN] at hS ⊢
  have hbl := hid (mkk_le hb k)
  have hg := hid (fun j (hj : j < N) => (show ∃ r, rows[j]? = some r from ⟨_, List.getElem?_eq_getElem (by rw [hN]; exact hj)⟩))
  have hm := hid (fun j (hj : j < N) r (hr : rows[j]? = some r) => (by
    have hO := hS.2 j r hr
    simp only [mkC, if_pos hj] at hO
    exact heldInt64SL_any w base r (ns j) (mkk ns k j) hO (by have := hbl.out j; have := hb j; have : j * 1000 ≤ 1000 * 1000 := Nat.mul_le_mul_right _ (by omega); omega) :
    Calls Try.prog 25 #[r, .int .i64 (mkk ns k j : Nat)] w fun e w' => e = .returned (.int .i64 ((mkk ns k (j + 1) : Nat) : Int)) ∧ w = w'))
  have hc := hid (fun j r (hr : rows[j]? = some r) => (show ∃ g, A = some ⟨g, 0, none⟩ ∧ w.cell? ⟨g, j, none⟩ = some r from by
    rcases hA with ⟨_, h2, _⟩ | ⟨g, h1, _, _, h2⟩
    · rw [h2] at hr; simp at hr
    · exact ⟨g, h1, h2 j r hr⟩))
  have hk0 := hid (show mkk ns k 0 = k from rfl)
  replace hS := hid hS
  clear hA hbl
  go_enter Try.func15, Try.ntmps15
  go_wp2
  go_loopw [1, 5] (fun q i wr => ∃ j : Nat, j ≤ N ∧ i = .int .i64 j ∧ q = .int .i64 ((mkk ns k j : Nat) : Int) ∧ w = wr) (fun _ i _ => N - (intOf i).toNat)
  case atStart => exact ⟨0, Nat.zero_le _, rfl, by rw [hk0.out], rfl⟩
  case round =>
    obtain ⟨j, hj, rfl, rfl, rfl⟩ := hrel
    by_cases hlt : j < N
    · have dk : decide ((j : Int) < (N : Int)) = true := decide_eq_true (by omega)
      obtain ⟨r, hr⟩ := hg.out j hlt
      obtain ⟨g, rfl, cr⟩ := hc.out j r hr
      have hmj := hid (hm.out j hlt r hr)
      have j0 : (0 : Int) ≤ (j : Int) := Int.natCast_nonneg _
      have j1 : (j : Int) < (N : Int) := by omega
      have j2 : decide (((mkk ns k (j + 1) : Nat) : Int) < 0) = false := decide_eq_false (by omega)
      clear hr
      go_wp2_with (first
        | (go_at_call 25; (with_reducible refine (hmj.out).mono ?_); rintro e w5 ⟨rfl, rfl⟩))
      go_roundw
      case rel => exact ⟨j + 1, by omega, by go_num, rfl, trivial⟩
      case measure => simp [intOf]; omega
    · obtain rfl : j = N := by omega
      have dk : decide ((j : Int) < (j : Int)) = false := decide_eq_false (by omega)
      go_wp2
      go_ret
      exact ⟨rfl, rfl⟩
set_option maxHeartbeats 4000000 in
set_option maxRecDepth 100000 in
theorem eqSS_any (w : World) (b1 b2 : Nat) (v1 v2 : Value) (M : List (List Int)) (h1 : Mat w b1 v1 M) (h2 : Mat w b2 v2 M) (hl : M.length ≤ 1000) (hr : ∀ r ∈ M, r.length ≤ 1000) :
    Calls Try.prog 13 #[v1, v2] w fun e w' => e = .returned (.bool true) ∧ Below w.heap.size w w' := by
  have hcell := fun (v : Value) (b : Nat) (h : Mat w b v M) => hid (fun (j : Nat) (x : List Int) (hx : M[j]? = some x) => (show ∃ ga, v = .slice (some ⟨ga, 0, none⟩) M.length (match v with | .slice _ _ c => c | _ => 0) ∧ ∀ W, Below w.heap.size w W → ∃ r, W.cell? ⟨ga, j, none⟩ = some r ∧ Own W b 2 r (ints x) from by
    obtain ⟨ga, ca, rfl, _⟩ := h.blk (fun e => by rw [e] at hx; simp at hx)
    exact ⟨ga, rfl, fun W hW => (h.below hW).row j x hx⟩))
  have hc1 := hcell v1 b1 h1
  have hc2 := hcell v2 b2 h2
  clear hcell
  have heq := hid (fun W b1 b2 r1 r2 x (hx : x ∈ M) (hO1 : Own W b1 2 r1 (ints x)) (hO2 : Own W b2 2 r2 (ints x)) => eqInt64SL_any W b1 b2 r1 r2 x hO1 hO2 (by have := hr x hx; omega))
  obtain ⟨A1, cp1, rfl⟩ := h1.form
  obtain ⟨A2, cp2, rfl⟩ := h2.form
  dsimp only at hc1 hc2
  have hget := hid (fun j (hj : j < M.length) => (show ∃ x, M[j]? = some x from ⟨_, List.getElem?_eq_getElem hj⟩))
  clear h1 h2 hr
  generalize hN : M.length = N at *
  replace hN := hid hN
  go_enter Try.func13, Try.ntmps13
  go_wp2
  go_loopw [5] (fun i wr => ∃ k : Nat, k ≤ N ∧ i = .int .i64 k ∧ Below w.heap.size w wr) (fun i _ => N - (intOf i).toNat)
  case atStart => exact ⟨0, Nat.zero_le _, rfl, Below.refl _ _⟩
  case round =>
    obtain ⟨k, hk, rfl, rB⟩ := hrel
    by_cases hlt : k < N
    · have dk : decide ((k : Int) < (N : Int)) = true := decide_eq_true (by omega)
      obtain ⟨x, hx⟩ := hget.out k hlt
      obtain ⟨g1, e1, hr1⟩ := hc1.out k x hx
      obtain ⟨g2, e2, hr2⟩ := hc2.out k x hx
      obtain rfl : A1 = some ⟨g1, 0, none⟩ := by injection e1
      obtain rfl : A2 = some ⟨g2, 0, none⟩ := by injection e2
      have hxm := List.mem_of_getElem? hx
      have k0 : (0 : Int) ≤ (k : Int) := Int.natCast_nonneg _
      have k1 : (k : Int) < (N : Int) := by omega
      obtain ⟨r1, q1, o1⟩ := hr1 wr.drew rB.drew
      obtain ⟨r2, q2, o2⟩ := hr2 wr.drew rB.drew
      have heqk := hid (fun W (hW : Below wr.drew.heap.size wr.drew W) => heq.out W b1 b2 r1 r2 x hxm (o1.below hW) (o2.below hW))
      clear hx hxm e1 e2 hr1 hr2 o1 o2
      replace rB := hid rB
      go_upto_region 6 with (fail)
      replace rB := hid rB.out.drew
      have hbr := hid (Below.refl wr.drew.heap.size wr.drew)
      refine wp_region_heldL (L := [(8, (fun w' : World => w'.cell? ⟨g1, k, none⟩ = some r1 ∧ w'.cell? ⟨g2, k, none⟩ = some r2))]) (by kernel_rfl) (HeldL.cons (fun _ => ⟨q1, q2⟩) HeldL.nil) (fun hHeld => ?_)
      generalize wr.drew = wa at *
      clear q1 q2
      refine wpAnyL_take0 (i := 0) (v := ?_) rfl (by kernel_rfl) (by kernel_rfl) (by kernel_rfl) (by rfl) (fun _ _ _ h => h) (Or.inl ⟨by rfl, ?_⟩) (by assumption) ?_
      rotate_left
      · (intro W _; go_simp; (with_reducible rfl))
      intro hHeld'
      clear hHeld; have hHeld := hHeld'; clear hHeld'
      try simp only [Act.put, List.getElem_toArray, List.getElem_cons_succ, List.getElem_cons_zero, List.setIfInBounds_toArray, List.set_cons_zero, List.set_cons_succ]
      refine wpAnyL_take0 (i := 1) (v := ?_) rfl (by kernel_rfl) (by kernel_rfl) (by kernel_rfl) (by rfl) (fun _ _ _ h => h) (Or.inl ⟨by rfl, ?_⟩) (by assumption) ?_
      rotate_left
      · (intro W _; go_simp; (with_reducible rfl))
      intro hHeld'
      clear hHeld; have hHeld := hHeld'; clear hHeld'
      try simp only [Act.put, List.getElem_toArray, List.getElem_cons_succ, List.getElem_cons_zero, List.setIfInBounds_toArray, List.set_cons_zero, List.set_cons_succ]
      refine wpAnyL_take0 (i := 2) (v := ?_) rfl (by kernel_rfl) (by kernel_rfl) (by kernel_rfl) (by rfl) (fun _ _ _ h => h) (Or.inl ⟨by rfl, ?_⟩) (by assumption) ?_
      rotate_left
      · (intro W _; go_simp; (with_reducible rfl))
      intro hHeld'
      clear hHeld; have hHeld := hHeld'; clear hHeld'
      try simp only [Act.put, List.getElem_toArray, List.getElem_cons_succ, List.getElem_cons_zero, List.setIfInBounds_toArray, List.set_cons_zero, List.set_cons_succ]
      refine wpAnyL_takeP (i := 3) 8 [] (v := ?_) (fun w' : World => w'.cell? ⟨g1, k, none⟩ = some r1 ∧ w'.cell? ⟨g2, k, none⟩ = some r2) rfl (by kernel_rfl) (by kernel_rfl) (by kernel_rfl) (by rfl) (by kernel_rfl) (by simp) (fun _ _ _ h => h) (Or.inl ⟨by rfl, ?_⟩) (by assumption) ?_
      rotate_left
      · (intro W hW; (obtain ⟨hW, _⟩ := hW); go_simp; (with_reducible rfl))
      intro hHeld'
      clear hHeld; have hHeld := hHeld'; clear hHeld'
      try simp only [Act.put, List.getElem_toArray, List.getElem_cons_succ, List.getElem_cons_zero, List.setIfInBounds_toArray, List.set_cons_zero, List.set_cons_succ]
      refine wpAnyL_take0 (i := 4) (v := ?_) rfl (by kernel_rfl) (by kernel_rfl) (by kernel_rfl) (by rfl) (fun _ _ _ h => h) (Or.inl ⟨by rfl, ?_⟩) (by assumption) ?_
      rotate_left
      · (intro W _; go_simp; (with_reducible rfl))
      intro hHeld'
      clear hHeld; have hHeld := hHeld'; clear hHeld'
      try simp only [Act.put, List.getElem_toArray, List.getElem_cons_succ, List.getElem_cons_zero, List.setIfInBounds_toArray, List.set_cons_zero, List.set_cons_succ]
      refine wpAnyL_take0 (i := 5) (v := ?_) rfl (by kernel_rfl) (by kernel_rfl) (by kernel_rfl) (by rfl) (fun _ _ _ h => h) (Or.inl ⟨by rfl, ?_⟩) (by assumption) ?_
      rotate_left
      · (intro W _; go_simp; (with_reducible rfl))
      intro hHeld'
      clear hHeld; have hHeld := hHeld'; clear hHeld'
      try simp only [Act.put, List.getElem_toArray, List.getElem_cons_succ, List.getElem_cons_zero, List.setIfInBounds_toArray, List.set_cons_zero, List.set_cons_succ]
      refine wpAnyL_take0 (i := 6) (v := ?_) rfl (by kernel_rfl) (by kernel_rfl) (by kernel_rfl) (by rfl) (fun _ _ _ h => h) (Or.inl ⟨by rfl, ?_⟩) (by assumption) ?_
      rotate_left
      · (intro W _; go_simp; (with_reducible rfl))
      intro hHeld'
      clear hHeld; have hHeld := hHeld'; clear hHeld'
      try simp only [Act.put, List.getElem_toArray, List.getElem_cons_succ, List.getElem_cons_zero, List.setIfInBounds_toArray, List.set_cons_zero, List.set_cons_succ]
      refine wpAnyL_takeP (i := 7) 8 [] (v := ?_) (fun w' : World => w'.cell? ⟨g1, k, none⟩ = some r1 ∧ w'.cell? ⟨g2, k, none⟩ = some r2) rfl (by kernel_rfl) (by kernel_rfl) (by kernel_rfl) (by rfl) (by kernel_rfl) (by simp) (fun _ _ _ h => h) (Or.inl ⟨by rfl, ?_⟩) (by assumption) ?_
      rotate_left
      · (intro W hW; (obtain ⟨_, hW⟩ := hW); go_simp; (with_reducible rfl))
      intro hHeld'
      clear hHeld; have hHeld := hHeld'; clear hHeld'
      try simp only [Act.put, List.getElem_toArray, List.getElem_cons_succ, List.getElem_cons_zero, List.setIfInBounds_toArray, List.set_cons_zero, List.set_cons_succ]
      refine wpAnyL_ready (rs := [8]) (by kernel_rfl) (by simp) ?_
      refine AllReadyL.cons rfl (fun K hK => ?_) AllReadyL.nil
      go_simp
      (with_reducible refine (heqk.out _ hbr.out).mono ?_)
      rintro e w3 ⟨rfl, hb⟩
      replace rB := hid (rB.out.trans (hb.mono rB.out.size))
      clear hb hbr heqk
      go_simp
      refine hK.out _ _ (HeldL.cons (fun h => absurd h (by decide +kernel)) HeldL.nil) (fun hHeld' => ?_)
      clear hK K hHeld; have hHeld := hHeld'; clear hHeld'
      try simp only [Act.put, List.getElem_toArray, List.getElem_cons_succ, List.getElem_cons_zero, List.setIfInBounds_toArray, List.set_cons_zero, List.set_cons_succ]
      refine wpAnyL_take0 (i := 9) (v := ?_) rfl (by kernel_rfl) (by kernel_rfl) (by kernel_rfl) (by rfl) (fun _ _ _ h => h) (Or.inl ⟨by rfl, ?_⟩) (by assumption) ?_
      rotate_left
      · (intro W _; go_simp; (with_reducible rfl))
      intro hHeld'
      clear hHeld; have hHeld := hHeld'; clear hHeld'
      try simp only [Act.put, List.getElem_toArray, List.getElem_cons_succ, List.getElem_cons_zero, List.setIfInBounds_toArray, List.set_cons_zero, List.set_cons_succ]
      refine wpAnyL_done (by kernel_rfl) ?_ _
      go_wp2
      go_roundw
      case rel => exact ⟨k + 1, by omega, by go_num, rB.out⟩
      case measure => simp [intOf]; omega
    · obtain rfl : k = N := by omega
      have dk : decide ((k : Int) < (k : Int)) = false := decide_eq_false (by omega)
      go_wp2
      go_ret
      exact ⟨rfl, rB⟩
end Go.Proofs.Ytgpjcekpmhfljaa

/- The tree of a word: where each word was met from (plain law). -/
namespace Go.Proofs.Ytgpjcekpmhfljaa
set_option linter.unusedVariables false
set_option linter.unusedSimpArgs false

/-- What one step writes down of where a word was met from, and by which step. -/
def meetF (t : Tr) (X : List Int × List Int) (fr tx : Nat) (st : Int) : List Int × List Int :=
  if t.far.getD tx 0 < 0 then (X.1.set tx (fr : Int), X.2.set tx st) else X
structure Lk (n k : Nat) (t : Tr) (X : List Int × List Int) : Prop where
  l1 : X.1.length = n
  l2 : X.2.length = n
  q0 : t.q[0]? = some k
  wk : t.ways[k]? = some []
  lk : ∀ x ∈ t.q, x = k ∨ ∃ (f : Nat) (st : Int) (u : List Int), X.1[x]? = some (f : Int) ∧ X.2[x]? = some st ∧ f ∈ t.q ∧ t.ways[f]? = some u ∧ t.ways[x]? = some (u ++ [st])
theorem Lk.zero {n k : Nat} (hk : k < n) : Lk n k (tr0 n k) (List.replicate n 0, List.replicate n 0) where
  l1 := by simp
  l2 := by simp
  q0 := rfl
  wk := by simp [tr0, hk]
  lk := fun x hx => by simp [tr0] at hx; exact .inl hx
theorem Lk.meet {n k : Nat} {t : Tr} {X : List Int × List Int} (h : Lk n k t X) (ok : TrOk n t) {fr tx : Nat} (st : Int) (hfr : fr ∈ t.q) (hto : tx < n) : Lk n k (meetT t fr tx st) (meetF t X fr tx st) := by
  unfold meetT meetF
  split
  · rename_i hneg
    have hfn := ok.qb fr hfr
    have e1 : t.far[tx]? = some (t.far.getD tx 0) := by
      rw [List.getD_eq_getElem?_getD, List.getElem?_eq_getElem (by rw [ok.fl]; exact hto)]; rfl
    have e3 : t.ways[fr]? = some (t.ways.getD fr []) := by
      rw [List.getD_eq_getElem?_getD, List.getElem?_eq_getElem (by rw [ok.wl]; exact hfn)]; rfl
    have hnq : tx ∉ t.q := by
      rcases ok.fb tx _ e1 with h1 | h1
      · exact h1.2
      · omega
    have hne : ∀ x ∈ t.q, tx ≠ x := fun x hx e => hnq (e ▸ hx)
    have hkq : k ∈ t.q := List.mem_of_getElem? h.q0
    exact {
      l1 := by simp [h.l1]
      l2 := by simp [h.l2]
      q0 := by
        show (t.q ++ [tx])[0]? = some k
        rw [List.getElem?_append_left (List.getElem?_eq_some_iff.1 h.q0).1]; exact h.q0
      wk := by
        show (t.ways.set tx _)[k]? = some []
        rw [List.getElem?_set, if_neg (hne k hkq)]; exact h.wk
      lk := fun x hx => by
        rcases List.mem_append.1 hx with hx | hx
        · rcases h.lk x hx with h1 | ⟨f, s, u, h1, h2, h3, h4, h5⟩
          · exact .inl h1
          · refine .inr ⟨f, s, u, ?_, ?_, by simp [h3], ?_, ?_⟩
            · simp only [List.getElem?_set, if_neg (hne x hx)]; exact h1
            · simp only [List.getElem?_set, if_neg (hne x hx)]; exact h2
            · simp only [List.getElem?_set, if_neg (hne f h3)]; exact h4
            · simp only [List.getElem?_set, if_neg (hne x hx)]; exact h5
        · simp at hx
          subst hx
          refine .inr ⟨fr, st, t.ways.getD fr [], ?_, ?_, by simp [hfr], ?_, ?_⟩
          · simp only [List.getElem?_set, h.l1, hto, if_true]
          · simp only [List.getElem?_set, h.l2, hto, if_true]
          · simp only [List.getElem?_set, if_neg (hne fr hfr)]; exact e3
          · simp only [List.getElem?_set, ok.wl, hto, if_true] }
  · exact h
/-- A word's way by the links. -/
theorem Lk.way {n k : Nat} {t : Tr} {X : List Int × List Int} (h : Lk n k t X) (ok : TrOk n t) {x : Nat} (hx : x ∈ t.q) : x = k ∧ t.ways[x]? = some [] ∨ ∃ (f : Nat) (st : Int) (u : List Int), x ≠ k ∧ X.1[x]? = some (f : Int) ∧ X.2[x]? = some st ∧ f ∈ t.q ∧ t.ways[f]? = some u ∧ t.ways[x]? = some (u ++ [st]) := by
  by_cases e : x = k
  · exact .inl ⟨e, e ▸ h.wk⟩
  · rcases h.lk x hx with h1 | ⟨f, s, u, h1⟩
    · exact absurd h1 e
    · exact .inr ⟨f, s, u, e, h1⟩
end Go.Proofs.Ytgpjcekpmhfljaa
