/- What the proof of FixedOfLevel leans on, part 9 of 9. -/
import Derived.Test.YthempofohidlnaaZFixedOfLevelH
/- FixedOfLevel: what the program and the reference answer. -/
namespace Go.Proofs.Ythempofohidlnaa
open Go.RowKit
set_option linter.unusedVariables false
set_option linter.unusedSimpArgs false
-- @LONG

def strs (L : List ByteArray) : List Value := L.map Value.string
theorem strs_length (L : List ByteArray) : (strs L).length = L.length := by simp [strs]
theorem strs_snoc (L : List ByteArray) (s : ByteArray) : strs (L ++ [s]) = strs L ++ [.string s] := by simp [strs]
/-- The words that are left, of those before j. -/
def fixS (P : Nat → Nat) (l n : Nat) : Nat → List ByteArray
  | 0 => []
  | j + 1 => if P j = j then fixS P l n j ++ [wstr (wrd l n j)] else fixS P l n j
theorem fixS_len (P : Nat → Nat) (l n : Nat) : ∀ j, (fixS P l n j).length ≤ j
  | 0 => Nat.le_refl _
  | j + 1 => by have := fixS_len P l n j; unfold fixS; split <;> simp <;> omega
def pW (m : Mach) (l s : Nat) (g : List Int) (n k : Nat) : Nat := num l (imgW m l s g (wrd l n k))
open Classical in
/-- What FixedOfLevel answers. -/
noncomputable def folAns (m : Mach) (g : List Int) (n : Int) : List ByteArray × Int :=
  if (polAns m g n).2 = 0 then (fixS (pW m m.L.toNat m.S.toNat g n.toNat) m.L.toNat n.toNat (pw m.L.toNat n.toNat), 0) else ([], (polAns m g n).2)
theorem polAns_cases (m : Mach) (g : List Int) (n : Int) : ((polAns m g n).2 = 1 ∧ polAns m g n = ([], 1)) ∨ ((polAns m g n).2 = 2 ∧ polAns m g n = ([], 2)) ∨ ∃ (l s : Nat) (n' : Nat), Good m l s ∧ IsGw m g ∧ n = n' ∧ n' ≤ 5 ∧ polAns m g n = (permW m l s g n', 0) := by
  by_cases h : IsGw m g
  · by_cases hn : 0 ≤ n ∧ n ≤ 5
    · obtain ⟨l, s, gd⟩ := h.1.good
      obtain ⟨k, rfl⟩ := Int.eq_ofNat_of_zero_le hn.1
      exact .inr (.inr ⟨l, s, k, gd, h, rfl, by omega, polAns_0 gd h (by omega)⟩)
    · exact .inr (.inl ⟨by rw [polAns_2 h hn], polAns_2 h hn⟩)
  · exact .inl ⟨by rw [polAns_1 h], polAns_1 h⟩
theorem folAns_n {m : Mach} {g : List Int} {n c : Int} (h : (polAns m g n).2 = c) (hc : c ≠ 0) : folAns m g n = ([], c) := by unfold folAns; rw [h, if_neg hc]
theorem folAns_0 {m : Mach} {l s n : Nat} {g : List Int} (gd : Good m l s) (h : (polAns m g n).2 = 0) : folAns m g (n : Int) = (fixS (pW m l s g n) l n (pw l n), 0) := by unfold folAns; rw [if_pos h, gd.L, gd.S]; rfl
theorem folAns_len (m : Mach) (g : List Int) (n : Int) : (folAns m g n).1.length ≤ 243 := by
  rcases polAns_cases m g n with ⟨h, _⟩ | ⟨h, _⟩ | ⟨l, s, n', gd, hgw, rfl, h5, h⟩
  · rw [folAns_n h (by decide)]; exact Nat.zero_le _
  · rw [folAns_n h (by decide)]; exact Nat.zero_le _
  · rw [folAns_0 gd (by rw [h])]
    exact Nat.le_trans (fixS_len _ _ _ _) (pw_five gd.l2 gd.l3 h5)

set_option maxHeartbeats 4000000 in
set_option maxRecDepth 100000 in
theorem implFol_any (w : World) (m : Mach) (hkm : m.Ok) (b0 : Nat) (v : Value) (g : List Int) (hg : Own w b0 2 v (ints g)) (hl : g.length < 2000000) (n : Int) :
    Calls Try.prog 44 #[.agg (mcells m), v, .int .i64 n] w fun e w' => ∃ v', e = .returned (.tuple #[v', .int .i64 (folAns m g n).2]) ∧ Own w' w.heap.size 9 v' (strs (folAns m g n).1) ∧ Below w.heap.size w w' := by
  have hS := hid ((St.arg w hg).newMB m 34)
  have hpo := hid (fun W (hO : Own W 0 2 v (ints g)) => implPol_any W m hkm 0 v g hO hl n)
  rcases polAns_cases m g n with ⟨h, hp⟩ | ⟨h, hp⟩ | ⟨l, s, n, gd, hgw, rfl, h5, hp⟩
  · rw [folAns_n h (by decide)]
    rw [hp] at hpo
    replace hkm := hid hkm; replace hg := hid hg; clear h hp
    go_enter Try.func44, Try.ntmps44
    go_wp2_with (first
      | ((with_reducible refine gate (N := 14) rfl ?_); refine load_mach rfl _ rfl w.heap.size rfl m hS.out.m0 ?_)
      | (go_at_call 96; (with_reducible refine (hpo.out _ hS.out.o1).mono ?_); rintro e w1 ⟨v1, rfl, hO, hb⟩; replace hS := hid (hS.out.call hb); clear hb hO hpo))
    go_ret2
    exact ⟨_, rfl, Own.nil _ _ _, hS.out.bel⟩
  · rw [folAns_n h (by decide)]
    rw [hp] at hpo
    replace hkm := hid hkm; replace hg := hid hg; clear h hp
    go_enter Try.func44, Try.ntmps44
    go_wp2_with (first
      | ((with_reducible refine gate (N := 14) rfl ?_); refine load_mach rfl _ rfl w.heap.size rfl m hS.out.m0 ?_)
      | (go_at_call 96; (with_reducible refine (hpo.out _ hS.out.o1).mono ?_); rintro e w1 ⟨v1, rfl, hO, hb⟩; replace hS := hid (hS.out.call hb); clear hb hO hpo))
    go_ret2
    exact ⟨_, rfl, Own.nil _ _ _, hS.out.bel⟩
  · rw [folAns_0 gd (by rw [hp])]
    rw [hp] at hpo
    have l2 := gd.l2; have l3 := gd.l3
    have hM := pw_five gd.l2 gd.l3 h5
    have gL := hid gd.L
    have hpg := hid (fun k (hk : k < pw l n) => (show (nats (permW m l s g n))[k]? = some (.int .i64 (pW m l s g n k : Nat)) from by simp [nats, permW_get _ _ _ _ _ _ hk, pW]))
    have hpl := hid (show (nats (permW m l s g n)).length = pw l n by rw [nats_length, permW_length])
    have hwo := hid (fun k (hk : k < pw l n) W => wordOf_any l n k (by omega) l3 (by omega) (by omega) W)
    have hfl := hid (fixS_len (pW m l s g n) l n)
    have hfs := hid (fun j => (show fixS (pW m l s g n) l n (j + 1) = if pW m l s g n j = j then fixS (pW m l s g n) l n j ++ [wstr (wrd l n j)] else fixS (pW m l s g n) l n j from rfl))
    have hpos := pw_pos l (by omega) n
    replace hkm := hid hkm; replace hg := hid hg; replace gd := hid gd; replace hgw := hid hgw; clear hp
    generalize pW m l s g n = P at *
    generalize hMn : pw l n = M at *
    replace hMn := hid hMn
    generalize nats (permW m l s g n) = ps at *
    go_enter Try.func44, Try.ntmps44
    go_upto_region 5 with (first
      | ((with_reducible refine gate (N := 14) rfl ?_); refine load_mach rfl _ rfl w.heap.size rfl m hS.out.m0 ?_)
      | (go_at_call 96; (with_reducible refine (hpo.out _ hS.out.o1).mono ?_); rintro e w1 ⟨v1, rfl, hO, hb⟩; replace hS := hid (hS.out.callOwn hb hO); clear hb hO hpo))
    obtain ⟨gp, cp, rfl, _, _⟩ := hS.out.o0.blk (fun e => by have h1 := congrArg List.length e; rw [hpl.out] at h1; simp at h1; omega)
    rw [hpl.out] at hS ⊢
    replace hS := hid (hS.out.nilOwn 9)
    go_wp2
    go_loopw [10, 25] (fun o i wr => ∃ k : Nat, k ≤ M ∧ i = .int .i64 k ∧ St w.heap.size w [Asn.own w.heap.size 9 o (strs (fixS P l n k)), Asn.own w.heap.size 2 (.slice (some ⟨gp, 0, none⟩) M cp) ps, Asn.mb 34 w.heap.size m, Asn.own 0 2 v (ints g)] wr) (fun _ i _ => M - (intOf i).toNat)
    case atStart => exact ⟨0, Nat.zero_le _, rfl, hS.out⟩
    case round =>
      obtain ⟨k, hk, rfl, rS⟩ := hrel
      clear hS
      have cL := rS.m2.cL
      rw [gL.out] at cL
      replace rS := hid rS
      by_cases hlt : k < M
      · have ck := rS.out.o1.cellAt k _ (hpg.out k hlt)
        by_cases hPk : P k = k
        · have hfk := hid (show fixS P l n (k + 1) = fixS P l n k ++ [wstr (wrd l n k)] by rw [hfs.out k, if_pos hPk])
          rw [hPk] at ck
          have hkk : ((k : Int) == (k : Int)) = true := by simp
          have hwk := hid (hwo.out k hlt)
          have hlen := hid (strs_length (fixS P l n k))
          have hlm := hfl.out k
          generalize wstr (wrd l n k) = wk at *
          go_wp2_with (first
            | (go_at_call 97; (with_reducible refine (hwk.out _).mono ?_); rintro e w3 ⟨rfl, hb⟩; replace rS := hid (rS.out.call hb); clear hb)
            | ((with_reducible refine gate (N := 40) rfl ?_); refine St.app 51 9 (.string { data := #[] }) 16 Try.underlying51 info_str rfl (by omega) rfl _ _ rfl _ _ rfl rS.out _ rfl rfl (fixS P l n k).length hlen.out (by omega) ?_; intro gn cn w5 rS'; replace rS := hid rS'; clear rS' cL))
          rw [← strs_snoc, ← hfk.out] at rS
          go_roundw
          case rel => exact ⟨k + 1, by omega, by go_num, rS.out⟩
          case measure => simp [intOf]; omega
        · have hfk := hid (show fixS P l n (k + 1) = fixS P l n k by rw [hfs.out k, if_neg hPk])
          have hkk : ((k : Int) == ((P k : Nat) : Int)) = false := by simp; omega
          go_wp2
          go_roundw
          case rel => exact ⟨k + 1, by omega, by go_num, by rw [hfk.out]; exact rS.out⟩
          case measure => simp [intOf]; omega
      · obtain rfl : k = M := by omega
        go_wp2
        go_ret2
        exact ⟨_, rfl, rS.out.o0, rS.out.bel⟩
set_option maxHeartbeats 4000000 in
set_option maxRecDepth 100000 in
theorem specFol_any (w : World) (m : Mach) (hkm : m.Ok) (b0 : Nat) (v : Value) (g : List Int) (hg : Own w b0 2 v (ints g)) (hl : g.length < 2000000) (n : Int) :
    Calls Try.prog 43 #[.agg (mcells m), v, .int .i64 n] w fun e w' => ∃ v', e = .returned (.tuple #[v', .int .i64 (folAns m g n).2]) ∧ Own w' w.heap.size 9 v' (strs (folAns m g n).1) ∧ Below w.heap.size w w' := by
  have hS := hid ((St.arg w hg).newMB m 34)
  have hpo := hid (fun W (hO : Own W 0 2 v (ints g)) => l04Code_any W m hkm 0 v g hO hl n)
  rcases polAns_cases m g n with ⟨h, hp⟩ | ⟨h, hp⟩ | ⟨l, s, n, gd, hgw, rfl, h5, hp⟩
  · rw [folAns_n h (by decide)]
    rw [hp] at hpo
    replace hkm := hid hkm; replace hg := hid hg; clear h hp
    go_enter Try.func43, Try.ntmps43
    go_wp2_with (first
      | ((with_reducible refine gate (N := 12) rfl ?_); refine load_mach rfl _ rfl w.heap.size rfl m hS.out.m0 ?_)
      | (go_at_call 94; (with_reducible refine (hpo.out _ hS.out.o1).mono ?_); rintro e w1 ⟨rfl, hb⟩; replace hS := hid (hS.out.call hb); clear hpo; clear hb))
    go_ret2
    exact ⟨_, rfl, Own.nil _ _ _, hS.out.bel⟩
  · rw [folAns_n h (by decide)]
    rw [hp] at hpo
    replace hkm := hid hkm; replace hg := hid hg; clear h hp
    go_enter Try.func43, Try.ntmps43
    go_wp2_with (first
      | ((with_reducible refine gate (N := 12) rfl ?_); refine load_mach rfl _ rfl w.heap.size rfl m hS.out.m0 ?_)
      | (go_at_call 94; (with_reducible refine (hpo.out _ hS.out.o1).mono ?_); rintro e w1 ⟨rfl, hb⟩; replace hS := hid (hS.out.call hb); clear hpo; clear hb))
    go_ret2
    exact ⟨_, rfl, Own.nil _ _ _, hS.out.bel⟩
  · rw [folAns_0 gd (by rw [hp])]
    rw [hp] at hpo
    have l2 := gd.l2; have l3 := gd.l3
    have hM := pw_five gd.l2 gd.l3 h5
    have gL := hid gd.L
    obtain ⟨hgl, hgn⟩ := hgw.parts gd
    have hle := hid (fun W (hO : Own W 0 2 v (ints g)) => l02Level_any W m hkm l s gd 0 v g hO hgn (by omega) n (by omega) (by omega))
    have hpg := hid (fun k (hk : k < pw l n) => (show (nats (permW m l s g n))[k]? = some (.int .i64 (pW m l s g n k : Nat)) from by simp [nats, permW_get _ _ _ _ _ _ hk, pW]))
    have hpl := hid (show (nats (permW m l s g n)).length = pw l n by rw [nats_length, permW_length])
    have hwo := hid (fun k (hk : k < pw l n) W => l01WordOf_any l (by omega) l3 n k (by omega) (by omega) W)
    have hfl := hid (fixS_len (pW m l s g n) l n)
    have hfs := hid (fun j => (show fixS (pW m l s g n) l n (j + 1) = if pW m l s g n j = j then fixS (pW m l s g n) l n j ++ [wstr (wrd l n j)] else fixS (pW m l s g n) l n j from rfl))
    have hpos := pw_pos l (by omega) n
    have hnO := hid (fun L W (h : St w.heap.size w L W) => h.newOwn [] 9 (by simp))
    simp only [List.length_nil] at hnO
    replace hkm := hid hkm; replace hg := hid hg; replace gd := hid gd; replace hgw := hid hgw; replace hgn := hid hgn; clear hp
    generalize pW m l s g n = P at *
    generalize hMn : pw l n = M at *
    replace hMn := hid hMn
    generalize nats (permW m l s g n) = ps at *
    go_enter Try.func43, Try.ntmps43
    go_upto_region 5 with (first
      | ((with_reducible refine gate (N := 12) rfl ?_); refine load_mach rfl _ rfl w.heap.size rfl m hS.out.m0 ?_)
      | (go_at_call 94; (with_reducible refine (hpo.out _ hS.out.o1).mono ?_); rintro e w1 ⟨rfl, hb⟩; replace hS := hid (hS.out.call hb); clear hpo; clear hb)
      | ((with_reducible refine gate (N := 19) rfl ?_); refine load_mach rfl _ rfl w.heap.size rfl m hS.out.m0 ?_)
      | (go_at_call 95; (with_reducible refine (hle.out _ hS.out.o1).mono ?_); rintro e w2 ⟨v1, rfl, hO, hb⟩; replace hS := hid (hnO.out _ _ (hS.out.callOwn hb hO)); clear hb hO hle))
    obtain ⟨gp, cp, rfl, _, _⟩ := hS.out.o1.blk (fun e => by have h1 := congrArg List.length e; rw [hpl.out] at h1; simp at h1; omega)
    rw [hpl.out] at hS ⊢
    generalize w2.alloc (.cells #[] 9) = W3 at *
    go_wp2
    go_loopw [10, 11] (fun o i wr => ∃ k : Nat, k ≤ M ∧ i = .int .i64 k ∧ St w.heap.size w [Asn.own w.heap.size 9 o (strs (fixS P l n k)), Asn.own w.heap.size 2 (.slice (some ⟨gp, 0, none⟩) M cp) ps, Asn.mb 34 w.heap.size m, Asn.own 0 2 v (ints g)] wr) (fun _ i _ => M - (intOf i).toNat)
    case atStart => exact ⟨0, Nat.zero_le _, rfl, hS.out⟩
    case round =>
      obtain ⟨k, hk, rfl, rS⟩ := hrel
      clear hS
      have cL := rS.m2.cL
      rw [gL.out] at cL
      replace rS := hid rS
      by_cases hlt : k < M
      · have dk : decide ((k : Int) < (M : Int)) = true := decide_eq_true (by omega)
        have k0 : (0 : Int) ≤ (k : Int) := Int.natCast_nonneg _
        have k1 : (k : Int) < (M : Int) := by omega
        have ck := rS.out.o1.cellAt k _ (hpg.out k hlt)
        by_cases hPk : P k = k
        · have hfk := hid (show fixS P l n (k + 1) = fixS P l n k ++ [wstr (wrd l n k)] by rw [hfs.out k, if_pos hPk])
          rw [hPk] at ck
          have hkk : ((k : Int) == (k : Int)) = true := by simp
          have hwk := hid (hwo.out k hlt)
          have hlen := hid (strs_length (fixS P l n k))
          have hlm := hfl.out k
          generalize wstr (wrd l n k) = wk at *
          go_wp2_with (first
            | (go_at_call 51; (with_reducible refine (hwk.out _).mono ?_); rintro e w3 ⟨rfl, hb⟩; replace rS := hid (rS.out.call hb); clear hb)
            | ((with_reducible refine gate (N := 43) rfl ?_); refine St.app 51 9 (.string { data := #[] }) 16 Try.underlying51 info_str rfl (by omega) rfl _ _ rfl _ _ rfl rS.out _ rfl rfl (fixS P l n k).length hlen.out (by omega) ?_; intro gn cn w5 rS'; replace rS := hid rS'; clear rS' cL))
          rw [← strs_snoc, ← hfk.out] at rS
          go_roundw
          case rel => exact ⟨k + 1, by omega, by go_num, rS.out⟩
          case measure => simp [intOf]; omega
        · have hfk := hid (show fixS P l n (k + 1) = fixS P l n k by rw [hfs.out k, if_neg hPk])
          have hkk : (((P k : Nat) : Int) == (k : Int)) = false := by simp; omega
          go_wp2
          go_roundw
          case rel => exact ⟨k + 1, by omega, by go_num, by rw [hfk.out]; exact rS.out⟩
          case measure => simp [intOf]; omega
      · obtain rfl : k = M := by omega
        have dk : decide ((k : Int) < (k : Int)) = false := decide_eq_false (by omega)
        go_wp2
        go_ret2
        exact ⟨_, rfl, rS.out.o0, rS.out.bel⟩
end Go.Proofs.Ythempofohidlnaa

/- Slices of strings in the laws: compare, mark, hold. -/
namespace Go.Proofs.Ythempofohidlnaa
open Go.RowKit
set_option linter.unusedVariables false
set_option linter.unusedSimpArgs false
-- @LONG

def mtx (u : List Nat) : Nat → Nat → List Nat
  | 0, _ => u
  | f + 1, k => if k = 0 then u else mtx ((k % 10) :: u) f (k / 10)
theorem mtx_zero (u : List Nat) (f : Nat) : mtx u f 0 = u := by cases f <;> simp [mtx]
/-- The text of mark k. -/
def mtxt (k : Nat) : ByteArray := if k = 0 then wstr [61, 0] else wstr (61 :: mtx [] 7 k)
def mstr (k : Nat) : Nat → List Value
  | 0 => []
  | n + 1 => mstr k n ++ [.string (mtxt (k + n))]
theorem mstr_length (k : Nat) : ∀ n, (mstr k n).length = n
  | 0 => rfl
  | n + 1 => by simp [mstr, mstr_length k n]
theorem mstr_step (k j n : Nat) (cs : List Value) (hn : cs.length = n) (hlt : j < n) : (mstr k j ++ cs.drop j).set j (.string (mtxt (k + j))) = mstr k (j + 1) ++ cs.drop (j + 1) := by
  rw [List.set_append_right _ _ (by rw [mstr_length]; exact Nat.le_refl _), mstr_length, Nat.sub_self, List.drop_eq_getElem_cons (by omega), List.set_cons_zero]
  simp [mstr]
theorem mstr_get (k : Nat) : ∀ n j, j < n → (mstr k n)[j]? = some (.string (mtxt (k + j)))
  | 0, j, h => by omega
  | n + 1, j, h => by
    by_cases e : j = n
    · subst e
      rw [mstr, List.getElem?_append_right (by rw [mstr_length]; exact Nat.le_refl _), mstr_length, Nat.sub_self]; rfl
    · rw [mstr, List.getElem?_append_left (by rw [mstr_length]; omega)]
      exact mstr_get k n j (by omega)
set_option maxHeartbeats 2000000 in
set_option maxRecDepth 100000 in
theorem markText_any (w : World) (k : Nat) (hk : k < 4000000) :
    Calls Try.prog 98 #[.int .i64 k] w fun e w' => e = .returned (.string (mtxt k)) ∧ Below w.heap.size w w' := by
  by_cases h0 : k = 0
  · subst h0
    have he := hid (show mtxt 0 = { data := #[109, 48] } from rfl)
    rw [he.out]
    go_enter Try.func98, Try.ntmps98
    go_wp2
    go_ret
    exact ⟨rfl, Below.refl _ _⟩
  · have he := hid (show mtxt k = { data := #[109] } ++ wstr (mtx [] 7 k) by
      unfold mtxt; rw [if_neg h0]
      exact wstr_append [61] (mtx [] 7 k))
    have h1 : (0 : Int) < (k : Int) := by omega
    have d1 : decide ((k : Int) ≤ 0) = false := decide_eq_false (by omega)
    rw [he.out]
    go_enter Try.func98, Try.ntmps98
    go_wp2
    go_loopw [0, 3] (fun q s wr => ∃ (j f : Nat) (u : List Nat), j < 10 ^ f ∧ j < 4000000 ∧ u.length + f = 7 ∧ mtx u f j = mtx [] 7 k ∧ q = .int .i64 j ∧ s = .string (wstr u) ∧ Below w.heap.size w wr) (fun q _ _ => (intOf q).toNat)
    case atStart => exact ⟨k, 7, [], by omega, hk, rfl, rfl, rfl, rfl, Below.refl _ _⟩
    case round =>
      obtain ⟨j, f, u, hj, hj4, hu, hm, rfl, rfl, rB⟩ := hrel
      by_cases hz : j = 0
      · subst hz
        rw [mtx_zero] at hm
        have hsz : (wstr u).size ≤ 7 := by rw [wstr_size]; omega
        have hsz2 : (({ data := #[109] } : ByteArray) ++ wstr u).size ≤ 8 := by rw [ByteArray.size_append]; simp only [ByteArray.size]; simp; omega
        have hm2 := hid (congrArg wstr hm)
        clear hm he
        generalize wstr u = tx at *
        replace rB := hid rB
        go_wp2
        go_ret
        exact ⟨by rw [← hm2.out]; rfl, rB.out⟩
      · obtain ⟨f, rfl⟩ : ∃ f', f = f' + 1 := ⟨f - 1, by rcases f with _ | f <;> simp at hj ⊢ <;> omega⟩
        have hp : 10 ^ (f + 1) = 10 * 10 ^ f := by rw [Nat.pow_succ, Nat.mul_comm]
        have hq : j / 10 < 10 ^ f := by omega
        have hm2 := hid (show mtx ((j % 10) :: u) f (j / 10) = mtx [] 7 k by rw [← hm, mtx, if_neg hz])
        have d2 : decide ((0 : Int) < (j : Int)) = true := decide_eq_true (by omega)
        have m1 : Int.tmod (j : Int) 10 = ((j % 10 : Nat) : Int) := by rw [Int.tmod_eq_emod_of_nonneg (by omega)]; omega
        have m2 : Int.tdiv (j : Int) 10 = ((j / 10 : Nat) : Int) := by rw [Int.tdiv_eq_ediv_of_nonneg (by omega)]; omega
        have hr10 : j % 10 < 10 := Nat.mod_lt _ (by omega)
        have hqj : j / 10 < j := by omega
        clear hp hj hm
        generalize hr : j % 10 = r at *
        generalize hpd : j / 10 = q at *
        replace hpd := hid hpd; replace hr := hid hr
        have s1 : IntKind.i64.wrap (r : Int) = r := IntWalk.i64_in _ (by omega)
        have s2 : IntKind.i64.wrap (48 + (r : Int)) = 48 + r := IntWalk.i64_in _ (by omega)
        have s3 : IntKind.u8.wrap (48 + (r : Int)) = 48 + r := IntWalk.u8_in _ (by omega)
        have s4 : IntKind.i64.wrap (q : Int) = q := IntWalk.i64_in _ (by omega)
        have hcv := fun (b : Nat) (W : World) (hc : W.cell? ⟨b, 0, none⟩ = some (.int .u8 (48 + (r : Int)))) => conv1 b W r hc
        have hz1 : (wstr u).size = u.length := wstr_size u
        have hz2 : (wstr [r]).size = 1 := by rw [wstr_size]; rfl
        have hz3 : (wstr [r] ++ wstr u).size = 1 + u.length := by rw [ByteArray.size_append, hz1, hz2]
        have hap := hid (show wstr [r] ++ wstr u = wstr (r :: u) from (wstr_append [r] u).symm)
        replace rB := hid rB
        generalize wstr [r] = res2 at *
        go_wp2
        go_roundw
        case rel => exact ⟨q, f, r :: u, hq, by omega, by simp only [List.length_cons]; omega, hm2.out, by go_num, by rw [hap.out], below_alloc rB.out (Nat.le_refl _) _⟩
        case measure => simp [intOf]; omega
set_option maxHeartbeats 4000000 in
set_option maxRecDepth 100000 in
theorem eqStringS_any (w : World) (b1 b2 : Nat) (v1 v2 : Value) (l : List ByteArray) (h1 : Own w b1 9 v1 (strs l)) (h2 : Own w b2 9 v2 (strs l)) (hl : l.length < 4000000) :
    Calls Try.prog 45 #[v1, v2] w fun e w' => e = .returned (.bool true) ∧ Below w.heap.size w w' := by
  have hil := strs_length l
  by_cases hne : l = []
  · subst hne
    obtain ⟨A1, c1, rfl, _, _⟩ := h1.form
    obtain ⟨A2, c2, rfl, _, _⟩ := h2.form
    rw [hil]
    clear h1 h2
    go_enter Try.func45, Try.ntmps45
    go_wp2
    go_loopw [5] (fun i wr => i = .int .i64 0 ∧ wr = w) (fun _ _ => 0)
    case atStart => exact ⟨rfl, rfl⟩
    case round =>
      obtain ⟨rfl, rfl⟩ := hrel
      go_wp2
      go_ret
      exact ⟨rfl, Below.refl _ _⟩
  · have hne' : strs l ≠ [] := fun e => hne (by rw [← List.length_eq_zero_iff, ← hil, e]; rfl)
    obtain ⟨g1, c1, rfl, _, hg1⟩ := h1.blk hne'
    obtain ⟨g2, c2, rfl, _, hg2⟩ := h2.blk hne'
    rw [hil] at *
    have hget := hid (fun (k : Nat) (x : ByteArray) (hx : l[k]? = some x) => (show (strs l)[k]? = some (.string x) by simp [strs, hx]))
    replace h1 := hid h1
    replace h2 := hid h2
    clear hne hne' hil
    generalize hn : l.length = n at *
    go_enter Try.func45, Try.ntmps45
    go_wp2
    go_loopw [5] (fun i wr => ∃ k : Nat, k ≤ n ∧ i = .int .i64 k ∧ Below w.heap.size w wr) (fun i _ => n - (intOf i).toNat)
    case atStart => exact ⟨0, Nat.zero_le _, rfl, Below.refl _ _⟩
    case round =>
      obtain ⟨k, hk, rfl, rB⟩ := hrel
      replace rB := hid rB
      by_cases hlt : k < n
      · obtain ⟨x, hx⟩ : ∃ x, l[k]? = some x := ⟨_, List.getElem?_eq_getElem (by omega)⟩
        have d1 := (h1.out.below rB.out).cellAt k _ (hget.out k x hx)
        have d2 := (h2.out.below rB.out).cellAt k _ (hget.out k x hx)
        have hxx : (x.data.toList != x.data.toList) = false := by simp
        go_upto_region 6 with (fail)
        go_quiet (fail)
        go_wp2
        go_roundw
        case rel => exact ⟨k + 1, by omega, by go_num, below_drewN rB.out _⟩
        case measure => simp [intOf]; omega
      · obtain rfl : k = n := by omega
        go_wp2
        go_ret
        exact ⟨rfl, rB.out⟩
set_option maxHeartbeats 1000000 in
set_option maxRecDepth 100000 in
theorem markStrS_any (base : Nat) (w0 : World) (L : List Asn) (w : World) (v : Value) (cs : List Value) (n k : Nat) (hn : cs.length = n) (hS : St base w0 (Asn.own base 9 v cs :: L) w) (hl : n + k < 4000000) :
    Calls Try.prog 46 #[v, .int .i64 k] w fun e w' => e = .returned (.int .i64 ((k + n : Nat) : Int)) ∧ St base w0 (Asn.own base 9 v (mstr k n) :: L) w' := by
  have h := hS.o0
  by_cases hne : n = 0
  · subst hne
    obtain ⟨A1, c1, rfl, _, _⟩ := h.form
    have hcs := List.eq_nil_of_length_eq_zero hn
    rw [hn]
    have hm : mstr k 0 = cs := by rw [hcs]; rfl
    rw [hm]
    rw [hn] at hS
    replace hS := hid hS
    clear h
    go_enter Try.func46, Try.ntmps46
    go_wp2
    go_loopw [1, 5] (fun i j wr => i = .int .i64 k ∧ j = .int .i64 0 ∧ wr = w) (fun _ _ _ => 0)
    case atStart => exact ⟨rfl, rfl, rfl⟩
    case round =>
      obtain ⟨rfl, rfl, rfl⟩ := hrel
      go_wp2
      go_ret
      exact ⟨rfl, hS.out⟩
  · obtain ⟨g, c, rfl, hb, hg⟩ := h.blk (fun e => hne (by rw [← hn, e]; rfl))
    rw [hn] at hS ⊢
    clear h
    replace hS := hid hS
    go_enter Try.func46, Try.ntmps46
    go_wp2
    go_loopw [1, 5] (fun q i wr => ∃ j : Nat, j ≤ n ∧ i = .int .i64 j ∧ q = .int .i64 ((k + j : Nat) : Int) ∧ St base w0 (Asn.own base 9 (.slice (some ⟨g, 0, none⟩) n c) (mstr k j ++ cs.drop j) :: L) wr) (fun _ i _ => n - (intOf i).toNat)
    case atStart => exact ⟨0, Nat.zero_le _, rfl, rfl, hS.out⟩
    case round =>
      obtain ⟨j, hj, rfl, rfl, rS⟩ := hrel
      clear hS
      replace rS := hid rS
      have hjl : (mstr k j ++ cs.drop j).length = n := by rw [List.length_append, mstr_length, List.length_drop]; omega
      by_cases hlt : j < n
      · have hst := hid (mstr_step k j n cs hn hlt)
        obtain ⟨u, hu⟩ : ∃ u, (mstr k j ++ cs.drop j)[j]? = some u := ⟨_, List.getElem?_eq_getElem (by omega)⟩
        have hmt := hid (fun W => markText_any W (k + j) (by omega))
        replace hjl := hid hjl
        replace hu := hid hu
        have e1 : ((k + j : Nat) : Int) + 1 = ((k + (j + 1) : Nat) : Int) := by omega
        have e2 : ((k + j : Nat) : Int) < 4000000 := by omega
        have e3 : 0 ≤ ((k + j : Nat) : Int) := by omega
        generalize hkj : ((k + j : Nat) : Int) = kj at *
        generalize mtxt (k + j) = tx at *
        go_wp2_with (
          go_at_call 98; (with_reducible refine (hmt.out _).mono ?_); rintro e w5 ⟨rfl, hb⟩; (replace rS := hid (rS.out.call hb)); clear hb; (have co := rS.out.o0.cellAt j u hu.out); (have fo := rS.out.o0.frozenAt hjl.out j); (have y1 := hid (rS.out.setOwn hjl.out j (.string tx) hlt)))
        go_roundw
        case rel => exact ⟨j + 1, by omega, by go_num, by go_num, by rw [← hst.out]; exact y1.out⟩
        case measure => simp [intOf]; omega
      · obtain rfl : j = n := by omega
        have hm : mstr k j ++ cs.drop j = mstr k j := by rw [← hn, List.drop_length, List.append_nil]
        rw [hm] at rS
        go_wp2
        go_ret
        exact ⟨rfl, rS.out⟩
theorem markStrS1 (base : Nat) (w0 : World) (L : List Asn) (w : World) (v : Value) (cs : List Value) (n : Nat) (hn : cs.length = n) (hS : St base w0 (Asn.own base 9 v cs :: L) w) (hl : n < 3999999) :
    Calls Try.prog 46 #[v, .int .i64 1] w fun e w' => e = .returned (.int .i64 ((n : Int) + 1)) ∧ St base w0 (Asn.own base 9 v (mstr 1 n) :: L) w' :=
  (markStrS_any base w0 L w v cs n 1 hn hS (by omega)).mono fun e w' ⟨h1, h2⟩ => ⟨h1.trans (retI (by omega)), h2⟩
set_option maxHeartbeats 4000000 in
set_option maxRecDepth 100000 in
theorem heldStrS_any (w : World) (base : Nat) (v : Value) (n k : Nat) (h : Own w base 9 v (mstr k n)) (hl : n + k < 4000000) :
    Calls Try.prog 47 #[v, .int .i64 k] w fun e w' => e = .returned (.int .i64 ((k + n : Nat) : Int)) ∧ Below w.heap.size w w' := by
  have hml := mstr_length k n
  by_cases hne : n = 0
  · subst hne
    obtain ⟨A1, c1, rfl, _, _⟩ := h.form
    rw [hml]
    clear h
    go_enter Try.func47, Try.ntmps47
    go_wp2
    go_loopw [1, 5] (fun i j wr => i = .int .i64 k ∧ j = .int .i64 0 ∧ wr = w) (fun _ _ _ => 0)
    case atStart => exact ⟨rfl, rfl, rfl⟩
    case round =>
      obtain ⟨rfl, rfl, rfl⟩ := hrel
      go_wp2
      go_ret
      exact ⟨rfl, Below.refl _ _⟩
  · obtain ⟨g, c, rfl, hb, hg⟩ := h.blk (fun e => hne (by rw [← hml, e]; rfl))
    rw [hml] at h ⊢
    have hS := hid (St.arg w h)
    clear h
    go_enter Try.func47, Try.ntmps47
    go_wp2
    go_loopw [1, 5] (fun q i wr => ∃ j : Nat, j ≤ n ∧ i = .int .i64 j ∧ q = .int .i64 ((k + j : Nat) : Int) ∧ St w.heap.size w [Asn.own 0 9 (.slice (some ⟨g, 0, none⟩) n c) (mstr k n)] wr) (fun _ i _ => n - (intOf i).toNat)
    case atStart => exact ⟨0, Nat.zero_le _, rfl, rfl, hS.out⟩
    case round =>
      obtain ⟨j, hj, rfl, rfl, rS⟩ := hrel
      clear hS
      replace rS := hid rS
      by_cases hlt : j < n
      · have hco := hid (fun W L (hW : St w.heap.size w (Asn.own 0 9 (.slice (some ⟨g, 0, none⟩) n c) (mstr k n) :: L) W) => hW.o0.cellAt j _ (mstr_get k n j hlt))
        have hmt := hid (fun W => markText_any W (k + j) (by omega))
        have e1 : ((k + j : Nat) : Int) + 1 = ((k + (j + 1) : Nat) : Int) := by omega
        have e2 : ((k + j : Nat) : Int) < 4000000 := by omega
        have e3 : 0 ≤ ((k + j : Nat) : Int) := by omega
        generalize hkj : ((k + j : Nat) : Int) = kj at *
        generalize mtxt (k + j) = tx at *
        have hxx : (tx.data.toList != tx.data.toList) = false := by simp
        have co := hco.out _ _ rS.out
        have co1 : wr.drew.cell? ⟨g, j, none⟩ = some (.string tx) := co
        go_upto_region 4 with (fail)
        go_region_with (go_at_call 98; (with_reducible refine (hmt.out _).mono ?_); rintro e w5 ⟨rfl, hb⟩; (first | (replace rS := hid (rS.out.call hb)) | (replace rS := hid (rS.out.drew.call hb))); clear hb co1 co; (have co := hco.out _ _ rS.out))
        all_goals (go_wp2; go_roundw)
        all_goals first | exact ⟨j + 1, by omega, by go_num, by go_num, by first | exact rS.out | exact rS.out.drew⟩ | (simp [intOf]; omega)
      · obtain rfl : j = n := by omega
        go_wp2
        go_ret
        exact ⟨rfl, rS.out.bel⟩
theorem heldStr1 (w : World) (base : Nat) (v : Value) (n : Nat) (h : Own w base 9 v (mstr 1 n)) (hl : n < 3999999) :
    Calls Try.prog 47 #[v, .int .i64 1] w fun e w' => e = .returned (.int .i64 ((n : Int) + 1)) ∧ Below w.heap.size w w' :=
  (heldStrS_any w base v n 1 h (by omega)).mono fun e w' ⟨h1, h2⟩ => ⟨h1.trans (retI (by omega)), h2⟩
end Go.Proofs.Ythempofohidlnaa

/- FixedOfLevel: the law. -/
namespace Go.Proofs.Ythempofohidlnaa
open Go.RowKit
set_option linter.unusedVariables false
set_option linter.unusedSimpArgs false

set_option maxHeartbeats 8000000 in
set_option maxRecDepth 100000 in
theorem folAns_law (w : World) (m : Mach) (hkm : m.Ok) (v : Value) (l : List Int) (hl : ArgI w v l) (n : Int) :
    Calls Try.prog 14 #[.agg (mcells m), v, .int .i64 n] w fun e w' => e = .returned (.bool true) ∧ Below w.heap.size w w' := by
  have hS := hid ((St.start w).newMB m 32)
  have hl' := hid hl
  obtain ⟨A, c, rfl, _⟩ := hl
  by_cases h1 : l.length ≤ 1048576
  · have d1 : decide ((1048576 : Int) < (l.length : Int)) = false := decide_eq_false (by omega)
    have hti := hid (fun W (hW : Below w.heap.size w W) => toInt64S_any W _ l (hl'.out.below hW) (by omega))
    have hs := hid (fun W b vq (hO : Own W b 2 vq (ints l)) => specFol_any W m hkm b vq l hO (by omega) n)
    have hp := hid (fun W b vq (hO : Own W b 2 vq (ints l)) => implFol_any W m hkm b vq l hO (by omega) n)
    have heq := hid (fun W b1 b2 v1 v2 (hO1 : Own W b1 2 v1 (ints l)) (hO2 : Own W b2 2 v2 (ints l)) => eqInt64SL_any W b1 b2 v1 v2 l hO1 hO2 (by omega))
    have hlen := folAns_len m l n
    have hcc : ((folAns m l n).2 != (folAns m l n).2) = false := by simp
    generalize (folAns m l n).1 = r at *
    generalize (folAns m l n).2 = cd at *
    have heq2 := hid (fun W b1 b2 v1 v2 (hO1 : Own W b1 9 v1 (strs r)) (hO2 : Own W b2 9 v2 (strs r)) => eqStringS_any W b1 b2 v1 v2 r hO1 hO2 (by omega))
    have hm1 := hid (fun L W vq (hS : St w.heap.size w (Asn.own w.heap.size 2 vq (ints l) :: L) W) => markS1 w.heap.size w L W vq (ints l) l.length (ints_length l) hS (by omega))
    have hm2 := hid (fun L W vq (hS : St w.heap.size w (Asn.own w.heap.size 9 vq (strs r) :: L) W) => markStrS1 w.heap.size w L W vq (strs r) r.length (strs_length r) hS (by omega))
    have hhe := hid (fun W b vq (hO : Own W b 9 vq (mstr 1 r.length)) => heldStr1 W b vq r.length hO (by omega))
    have z1 : decide ((l.length : Int) + 1 < 0) = false := decide_eq_false (by omega)
    have z2 : decide ((r.length : Int) + 1 < 0) = false := decide_eq_false (by omega)
    have z3 : ((r.length : Int) + 1 != (r.length : Int) + 1) = false := by simp
    replace hkm := hid hkm
    replace hlen := hid hlen
    generalize r.length = nr at *
    generalize l.length = n1 at *
    go_enter Try.func14, Try.ntmps14
    go_wp2_with (first
      | ((with_reducible refine gate (N := 21) rfl ?_); refine load_lmach rfl _ rfl w.heap.size rfl m hS.out.m0 ?_)
      | ((with_reducible refine gate (N := 32) rfl ?_); refine load_lmach rfl _ rfl w.heap.size rfl m hS.out.m3 ?_)
      | ((with_reducible refine gate (N := 81) rfl ?_); refine load_lmach rfl _ rfl w.heap.size rfl m hS.out.m5 ?_)
      | (go_at_call 22; (with_reducible refine (toMachine_any m hkm.out _).mono ?_); rintro e w1 ⟨rfl, hb⟩; replace hS := hid (hS.out.call hb); clear hb)
      | (go_at_call 16; (with_reducible refine (hti.out _ hS.out.bel).mono ?_); rintro e w2 ⟨vq, rfl, hO, hb⟩; replace hS := hid (hS.out.callOwn hb hO); clear hb hO)
      | (go_at_call 43; (with_reducible refine (hs.out _ _ _ hS.out.o0).mono ?_); rintro e w3 ⟨v7, rfl, hO, hb⟩; replace hS := hid (hS.out.callOwn hb hO); clear hb hO)
      | (go_at_call 44; (with_reducible refine (hp.out _ _ _ hS.out.o0).mono ?_); rintro e w4 ⟨v8, rfl, hO, hb⟩; replace hS := hid (hS.out.callOwn hb hO); clear hb hO)
      | (go_at_call 45; (first
          | (with_reducible refine (heq2.out _ _ _ _ _ hS.out.o0 hS.out.o2).mono ?_)
          | (with_reducible refine (heq2.out _ _ _ _ _ hS.out.o2 hS.out.o3).mono ?_)
          | (with_reducible refine (heq2.out _ _ _ _ _ hS.out.o0 hS.out.o5).mono ?_)); rintro e w5 ⟨rfl, hb⟩; replace hS := hid (hS.out.call hb); clear hb)
      | (go_at_call 18; (first
          | (with_reducible refine (heq.out _ _ _ _ _ hS.out.o2 hS.out.o0).mono ?_)); rintro e w5 ⟨rfl, hb⟩; replace hS := hid (hS.out.call hb); clear hb)
      | (go_at_call 19; (with_reducible refine (hm1.out _ _ _ hS.out.f2).mono ?_); rintro e w5 ⟨rfl, hS'⟩; replace hS := hid hS'; clear hS')
      | (go_at_call 46; (with_reducible refine (hm2.out _ _ _ hS.out.f2).mono ?_); rintro e w5 ⟨rfl, hS'⟩; replace hS := hid hS'; clear hS')
      | (go_at_call 47; (first
          | (with_reducible refine (hhe.out _ _ _ hS.out.o0).mono ?_)
          | (with_reducible refine (hhe.out _ _ _ hS.out.o2).mono ?_)); rintro e w5 ⟨rfl, hb⟩; replace hS := hid (hS.out.call hb); clear hb))
    go_ret
    exact ⟨rfl, hS.out.bel⟩
  · have d1 : decide ((1048576 : Int) < (l.length : Int)) = true := decide_eq_true (by omega)
    generalize l.length = n1 at *
    go_enter Try.func14, Try.ntmps14
    go_wp2
    go_ret
    exact ⟨rfl, hS.out.bel⟩
end Go.Proofs.Ythempofohidlnaa
