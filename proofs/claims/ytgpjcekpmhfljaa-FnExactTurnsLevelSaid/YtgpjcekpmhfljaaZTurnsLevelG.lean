/- What the proof of TurnsLevel leans on, part 7 of 12. -/
import Derived.Test.YtgpjcekpmhfljaaZTurnsLevelF
import Derived.Shelf.SortM.Plain
import Derived.Shelf.SortM.SortNone
import Derived.Sort.OwnSortedInts
import Derived.WalkSpells
/- slices.Sort over []int64. -/
namespace Go.Proofs.Ytgpjcekpmhfljaa
open Go.RowKit
set_option linter.unusedVariables false
set_option linter.unusedSimpArgs false

def srt (l : List Int) : List Int := l.mergeSort fun x y => decide (x ≤ y)
theorem srt_perm (l : List Int) : (srt l).Perm l := List.mergeSort_perm _ _
theorem srt_length (l : List Int) : (srt l).length = l.length := (srt_perm l).length_eq
theorem srt_sorted (l : List Int) : (srt l).Pairwise (· ≤ ·) := by
  have h := List.pairwise_mergeSort (le := fun x y : Int => decide (x ≤ y)) (fun a b c h1 h2 => by simp at *; omega) (fun a b => by simp; omega) l
  exact h.imp fun h => by simpa using h
theorem srt_eq {l l' : List Int} (hp : l'.Perm l) (hs : l'.Pairwise (· ≤ ·)) : l' = srt l :=
  List.Perm.eq_of_pairwise (le := (· ≤ ·)) (fun a b _ _ h1 h2 => Int.le_antisymm h1 h2) hs (srt_sorted l) (hp.trans (srt_perm l).symm)
/-- Where a number goes in. -/
def insA (x : Int) : List Int → Nat
  | [] => 0
  | y :: l => if y ≤ x then insA x l + 1 else 0
theorem insA_le (x : Int) : ∀ l, insA x l ≤ l.length
  | [] => Nat.le_refl _
  | y :: l => by
    have := insA_le x l
    unfold insA; split <;> simp <;> omega
theorem insA_lt {x : Int} : ∀ {l : List Int} {j : Nat}, j < insA x l → ∃ y, l[j]? = some y ∧ y ≤ x
  | [], j, h => absurd h (Nat.not_lt_zero _)
  | y :: l, j, h => by
    unfold insA at h
    split at h
    · rename_i hy
      cases j with
      | zero => exact ⟨y, rfl, hy⟩
      | succ j => exact insA_lt (l := l) (j := j) (by omega)
    · exact absurd h (Nat.not_lt_zero _)
theorem insA_at {x : Int} : ∀ {l : List Int}, insA x l < l.length → ∃ y, l[insA x l]? = some y ∧ ¬ y ≤ x
  | [], h => absurd h (Nat.not_lt_zero _)
  | y :: l, h => by
    by_cases hy : y ≤ x
    · have e : insA x (y :: l) = insA x l + 1 := by rw [insA, if_pos hy]
      rw [e] at h ⊢
      exact insA_at (l := l) (by simpa using h)
    · have e : insA x (y :: l) = 0 := by rw [insA, if_neg hy]
      rw [e]
      exact ⟨y, rfl, hy⟩
def insX (x : Int) (l : List Int) : List Int := l.take (insA x l) ++ x :: l.drop (insA x l)
theorem insX_perm (x : Int) (l : List Int) : (insX x l).Perm (x :: l) := by
  have h : (l.take (insA x l) ++ x :: l.drop (insA x l)).Perm (x :: (l.take (insA x l) ++ l.drop (insA x l))) := List.perm_middle
  rw [List.take_append_drop] at h
  exact h
theorem insX_sorted {x : Int} {l : List Int} (h : l.Pairwise (· ≤ ·)) : (insX x l).Pairwise (· ≤ ·) := by
  have hl := h
  rw [← List.take_append_drop (insA x l) l, List.pairwise_append] at hl
  obtain ⟨h1, h2, h3⟩ := hl
  have ht : ∀ y ∈ l.take (insA x l), y ≤ x := fun y hy => by
    obtain ⟨j, hj, rfl⟩ := List.getElem_of_mem hy
    have hj' : j < insA x l := by rw [List.length_take] at hj; omega
    obtain ⟨z, hz, hzx⟩ := insA_lt hj'
    rw [List.getElem_take]
    have := List.getElem?_eq_some_iff.1 hz
    obtain ⟨_, e⟩ := this
    rw [e]; exact hzx
  have hd : ∀ y ∈ l.drop (insA x l), x ≤ y := fun y hy => by
    by_cases hlt : insA x l < l.length
    · obtain ⟨z, hz, hzx⟩ := insA_at hlt
      have e : l.drop (insA x l) = z :: l.drop (insA x l + 1) := by
        obtain ⟨_, e⟩ := List.getElem?_eq_some_iff.1 hz
        rw [← e]; exact List.drop_eq_getElem_cons hlt
      rw [e] at hy h2
      rcases List.mem_cons.1 hy with rfl | hy
      · omega
      · have := (List.pairwise_cons.1 h2).1 y hy; omega
    · rw [List.drop_eq_nil_of_le (by omega)] at hy; cases hy
  unfold insX
  rw [List.pairwise_append]
  refine ⟨h1, List.pairwise_cons.2 ⟨hd, h2⟩, fun a ha b hb => ?_⟩
  rcases List.mem_cons.1 hb with rfl | hb
  · exact ht a ha
  · exact h3 a ha b hb
theorem insX_length (x : Int) (l : List Int) : (insX x l).length = l.length + 1 := by rw [(insX_perm x l).length_eq]; rfl
/-- The first k numbers of a list, put in one after the other. -/
def insL (l : List Int) : Nat → List Int
  | 0 => []
  | k + 1 => match l[k]? with
    | some x => insX x (insL l k)
    | none => insL l k
theorem insL_step {l : List Int} {k : Nat} {x : Int} (h : l[k]? = some x) : insL l (k + 1) = insX x (insL l k) := by rw [insL, h]
theorem insL_ok (l : List Int) : ∀ k, k ≤ l.length → (insL l k).Perm (l.take k) ∧ (insL l k).Pairwise (· ≤ ·)
  | 0, _ => ⟨by simp [insL], List.Pairwise.nil⟩
  | k + 1, hk => by
    obtain ⟨h1, h2⟩ := insL_ok l k (by omega)
    have hx : l[k]? = some l[k] := List.getElem?_eq_getElem (by omega)
    rw [insL_step hx]
    refine ⟨(insX_perm _ _).trans ?_, insX_sorted h2⟩
    rw [List.take_add_one, hx]
    exact ((h1.cons _).trans (List.perm_append_singleton _ _).symm)
theorem insL_len (l : List Int) (k : Nat) (hk : k ≤ l.length) : (insL l k).length = k := by rw [(insL_ok l k hk).1.length_eq, List.length_take]; omega
theorem insL_srt (l : List Int) : insL l l.length = srt l := by
  obtain ⟨h1, h2⟩ := insL_ok l l.length (Nat.le_refl _)
  rw [List.take_length] at h1
  exact srt_eq h1 h2
section
open Go.Shelf
def srtL_ren : Go.Shelf.Ren := ⟨fun | 5 => 95 | 8 => 126 | 7 => 125 | 19 => 151 | 20 => 152 | 10 => 142 | 11 => 143 | 12 => 144 | 13 => 145 | 14 => 146 | 15 => 147 | 16 => 148 | 17 => 149 | 18 => 150 | 30 => 162 | 31 => 163 | 32 => 164 | 33 => 165 | 34 => 166 | 35 => 167 | 40 => 174 | n => n, fun | 23 => 34 | 25 => 2 | 3 => 3 | 32 => 119 | 22 => 34 | 0 => 0 | 44 => 143 | 46 => 146 | 4 => 4 | 36 => 153 | 35 => 152 | 41 => 157 | 5 => 5 | 9 => 9 | 53 => 171 | 57 => 175 | 63 => 181 | 64 => 182 | n => n, fun | n => n⟩
theorem srtL : Go.Proofs.SlLaysM.n5 Try.prog srtL_ren := {
  mixed := by kernel_rfl
  f5 := ⟨Try.f95.name, by decide, Try.func95.trans (congrArg some (by kernel_rfl))⟩
  f7 := ⟨Try.f125.name, by decide, Try.func125.trans (congrArg some (by kernel_rfl))⟩
  f8 := Try.func126.trans (congrArg some (by kernel_rfl))
  f10 := ⟨Try.f142.name, by decide, Try.func142.trans (congrArg some (by kernel_rfl))⟩
  f11 := ⟨Try.f143.name, by decide, Try.func143.trans (congrArg some (by kernel_rfl))⟩
  f12 := ⟨Try.f144.name, by decide, Try.func144.trans (congrArg some (by kernel_rfl))⟩
  f13 := ⟨Try.f145.name, by decide, Try.func145.trans (congrArg some (by kernel_rfl))⟩
  f14 := ⟨Try.f146.name, by decide, Try.func146.trans (congrArg some (by kernel_rfl))⟩
  f15 := ⟨Try.f147.name, by decide, Try.func147.trans (congrArg some (by kernel_rfl))⟩
  f16 := ⟨Try.f148.name, by decide, Try.func148.trans (congrArg some (by kernel_rfl))⟩
  f17 := ⟨Try.f149.name, by decide, Try.func149.trans (congrArg some (by kernel_rfl))⟩
  f18 := ⟨Try.f150.name, by decide, Try.func150.trans (congrArg some (by kernel_rfl))⟩
  f19 := Try.func151.trans (congrArg some (by kernel_rfl))
  f20 := Try.func152.trans (congrArg some (by kernel_rfl))
  f30 := ⟨Try.f162.name, by decide, Try.func162.trans (congrArg some (by kernel_rfl))⟩
  f31 := Try.func163.trans (congrArg some (by kernel_rfl))
  f32 := Try.func164.trans (congrArg some (by kernel_rfl))
  f33 := ⟨Try.f165.name, by decide, Try.func165.trans (congrArg some (by kernel_rfl))⟩
  f34 := ⟨Try.f166.name, by decide, Try.func166.trans (congrArg some (by kernel_rfl))⟩
  f35 := ⟨Try.f167.name, by decide, Try.func167.trans (congrArg some (by kernel_rfl))⟩
  f40 := ⟨Try.f174.name, by decide, Try.func174.trans (congrArg some (by kernel_rfl))⟩
  t0 := Try.underlying0
  a0 := Try.isAgg0
  z0 := Try.sizeOf0
  v0 := Try.zeroValue0
  t3 := Try.underlying3
  a3 := Try.isAgg3
  z3 := Try.sizeOf3
  v3 := Try.zeroValue3
  t4 := Try.underlying4
  a4 := Try.isAgg4
  z4 := Try.sizeOf4
  v4 := Try.zeroValue4
  t5 := Try.underlying5
  a5 := Try.isAgg5
  z5 := Try.sizeOf5
  v5 := Try.zeroValue5
  t9 := Try.underlying9
  a9 := Try.isAgg9
  z9 := Try.sizeOf9
  v9 := Try.zeroValue9
  t22 := Try.underlying34
  a22 := Try.isAgg34
  z22 := Try.sizeOf34
  v22 := Try.zeroValue34
  t23 := Try.underlying34
  a23 := Try.isAgg34
  z23 := Try.sizeOf34
  v23 := Try.zeroValue34
  t25 := Try.underlying2
  a25 := Try.isAgg2
  z25 := Try.sizeOf2
  v25 := Try.zeroValue2
  t32 := Try.underlying119
  a32 := Try.isAgg119
  z32 := Try.sizeOf119
  v32 := Try.zeroValue119
  t35 := Try.underlying152
  a35 := Try.isAgg152
  z35 := Try.sizeOf152
  v35 := Try.zeroValue152
  t36 := Try.underlying153
  a36 := Try.isAgg153
  z36 := Try.sizeOf153
  v36 := Try.zeroValue153
  t41 := Try.underlying157
  a41 := Try.isAgg157
  z41 := Try.sizeOf157
  v41 := Try.zeroValue157
  t44 := Try.underlying143
  a44 := Try.isAgg143
  z44 := Try.sizeOf143
  v44 := Try.zeroValue143
  t46 := Try.underlying146
  a46 := Try.isAgg146
  z46 := Try.sizeOf146
  v46 := Try.zeroValue146
  t53 := Try.underlying171
  a53 := Try.isAgg171
  z53 := Try.sizeOf171
  v53 := Try.zeroValue171
  t57 := Try.underlying175
  a57 := Try.isAgg175
  z57 := Try.sizeOf175
  v57 := Try.zeroValue175
  t63 := Try.underlying181
  a63 := Try.isAgg181
  z63 := Try.sizeOf181
  v63 := Try.zeroValue181
  t64 := Try.underlying182
  a64 := Try.isAgg182
  z64 := Try.sizeOf182
  v64 := Try.zeroValue182 }
end
theorem slSort_st {base : Nat} {w0 : World} {L : List Asn} {W : World} {v : Value} {l : List Int} (h : St base w0 (Asn.own base 2 v (ints l) :: L) W) (hl : l.length < 1000000) :
    Calls Try.prog 95 #[v] W fun e w' => e = .returned (.tuple #[]) ∧ St base w0 (Asn.own base 2 v (ints (srt l)) :: L) w' := by
  have hO : W.ownsRow base 2 1 v (ints l).length (ints l) := h.o0
  have hil := ints_length l
  rcases hO.2 with ⟨rfl, hn⟩ | ⟨g, cap, cur, rfl, hg, hb, h1, h2, h3, h4⟩
  · have e : l = [] := by cases l with
      | nil => rfl
      | cons a t => simp [ints] at hn
    subst e
    have hc := AnyM.slices_Sort_int_none srtL none 0 W
    change Calls Try.prog 95 _ _ _ at hc
    refine hc.mono ?_
    rintro e w' ⟨rfl, rfl⟩
    exact ⟨rfl, by rw [show srt [] = [] by simp [srt]]; exact h⟩
  · rw [hil] at h1 h4 h ⊢
    rw [Nat.mul_one] at h4
    have hc := AnyM.slices_Sort_int srtL g 0 cap l W (holds_of_blockI hb h4) (Array.getElem?_eq_some_iff.1 hb).1 (by omega)
    change Calls Try.prog 95 _ _ _ at hc
    refine hc.mono ?_
    rintro e w' ⟨rfl, n, os, rfl⟩
    have hs := ownsRow_sortedI (n := n) (os := os) (ts := srt l) (srt_length l) hg hb h1 h2 h3
    have hgr := grownBy_sortedI (w := W) (g := g) (n := n) (os := os) (srt l).toArray
    refine ⟨rfl, h.turn (a' := Asn.own base 2 (.slice (some ⟨g, 0, none⟩) l.length cap) (ints (srt l))) ?_ (fun k hk => .inl ?_) (fun k hk => ?_) ?_ (fun k hk hne => ?_)⟩
    · show Own _ _ _ _ _
      unfold Own
      rw [ints_length, srt_length]
      exact hs
    · have e : g = k := by simpa [Asn.own, Value.ownBlock] using hk
      show Value.ownBlock _ = some k
      rw [← e]; rfl
    · have e : g = k := by
        have := hk
        simpa [Asn.own, Value.ownBlock] using this
      omega
    · exact ⟨hgr.os, hgr.tape, hgr.output, hgr.size, fun k hk => hgr.block k (by have := (Array.getElem?_eq_some_iff.1 hb).1; omega) (fun e => by injection e with e; omega)⟩
    · exact hgr.block k hk fun e => hne (by injection e with e; subst e; rfl)
end Go.Proofs.Ytgpjcekpmhfljaa

/- Cycles and orders of permutations: the program. -/
namespace Go.Proofs.Ytgpjcekpmhfljaa
open Go.RowKit
set_option linter.unusedVariables false
set_option linter.unusedSimpArgs false
-- @LONG

/-- The cycles' lengths, ascending. -/
def cysI (p : List Nat) : List Int := srt ((cyc p).map Int.ofNat)
set_option maxHeartbeats 4000000 in
set_option maxRecDepth 100000 in
theorem cycles_any (w : World) (b0 : Nat) (v : Value) (p : List Nat) (h : Own w b0 2 v (nats p)) (hn : p.length ≤ 1000) (hlt : ∀ x, x < p.length → p.getD x 0 < p.length) :
    Calls Try.prog 59 #[v] w fun e w' => ∃ v', e = .returned v' ∧ Own w' w.heap.size 2 v' (ints (cysI p)) ∧ Below w.heap.size w w' := by
  have hil := nats_length p
  obtain ⟨A, cp, rfl, _, hA⟩ := h.form
  rw [hil] at h ⊢
  have hpg := hid (fun (x : Nat) (hx : x < p.length) => (show (nats p)[x]? = some (.int .i64 ((p.getD x 0 : Nat) : Int)) from by simp [nats, List.getD_eq_getElem?_getD, List.getElem?_eq_getElem hx]))
  have hplt := hid (fun (x : Nat) (hx : x < p.length) => hlt x hx)
  have hA2 := hid (fun (hx : 0 < p.length) => (show ∃ gp, A = some ⟨gp, 0, none⟩ from by
    rcases hA with ⟨_, h1, _⟩ | ⟨g, h1, _⟩
    · have : p.length = 0 := by rw [← hil, h1]; rfl
      omega
    · exact ⟨g, h1⟩))
  have hmk := fun W : World => run_make_row' (P := Try.prog) 83 4 (.bool false) 1 Try.underlying83 info_bool rfl .i64 .i64 p.length (by omega) (by omega) W
  have hmc := hid (toList_madeCells_one (.bool false) p.length)
  generalize madeCells #[.bool false] p.length = mc at *
  have hmcs := hid (show mc.size = p.length by rw [← Array.length_toList, hmc.out, List.length_replicate])
  have hS := (St.arg w h).newArr mc p.length hmcs.out 4 (by omega)
  rw [hmc.out] at hS
  have hrep : List.replicate p.length (Value.bool false) = bls (cyst p 0).1 := by simp [bls, cyst]
  rw [hrep] at hS
  replace hS := hid hS
  have hcl := hid (cyst_len p)
  have hco := hid (cyst_out p)
  have hcs := hid (fun k => (show cyst p (k + 1) = ((crun p (cyst p k).1 k).1, if 0 < (crun p (cyst p k).1 k).2 then (cyst p k).2 ++ [(crun p (cyst p k).1 k).2] else (cyst p k).2) from rfl))
  have hcb := hid (fun k => (show (crun p (cyst p k).1 k).2 ≤ p.length from by have h := crun_le p (cyst p k).1 k; rw [cyst_len] at h; exact h))
  have hseen := hid (fun s a (h : s[a]? = some true) => crun_seen (p := p) h)
  have hnew := hid (fun s a (h : s[a]? = some false) => crun_new (p := p) h)
  have hresult := hid (show (cyst p p.length).2 = cyc p from rfl)
  clear hA hil hlt hrep hmc h
  generalize hN : p.length = N at *
  replace hN := hid hN
  have hS2 := hS.out.nilOwn 2
  replace hS := hid hS2.f1
  clear hS2
  have hs0 := hid (show nats (cyst p 0).2 = [] from rfl)
  have hni := hid (nats_ints (cyc p))
  have hcyl := hid (show (cyc p).length ≤ N from by rw [← hresult.out]; exact hco.out N)
  have hsrt := hid (fun W (vo : Value) (L : List Asn) (hS : St w.heap.size w (Asn.own w.heap.size 2 vo (ints ((cyc p).map Int.ofNat)) :: L) W) => slSort_st hS (by rw [List.length_map]; have := hcyl.out; omega))
  have hci := hid (show srt ((cyc p).map Int.ofNat) = cysI p from rfl)
  go_enter Try.func59, Try.ntmps59
  go_wp2
  go_loopw [4, 13] (fun o i wr => ∃ (k : Nat) (vo : Value), k ≤ N ∧ i = .int .i64 k ∧ vo = o ∧ St w.heap.size w [Asn.own w.heap.size 4 (.slice (some ⟨w.heap.size, 0, none⟩) N N) (bls (cyst p k).1), Asn.own w.heap.size 2 vo (nats (cyst p k).2), Asn.own 0 2 (.slice A N cp) (nats p)] wr) (fun _ i _ => N - (intOf i).toNat)
  case atStart => exact ⟨0, _, Nat.zero_le _, rfl, rfl, by rw [hs0.out]; exact hS.out⟩
  case round =>
    obtain ⟨k, vo, hk, rfl, rfl, rS⟩ := hrel
    clear hS
    replace rS := hid rS
    by_cases hlk : k < N
    · have dk : decide ((k : Int) < (N : Int)) = true := decide_eq_true (by omega)
      obtain ⟨gp, rfl⟩ := hA2.out (by omega)
      clear hsrt
      go_wp2
      go_loopw [6, 7] (fun c a wr => ∃ (x C : Nat) (s : List Bool), c = .int .i64 C ∧ a = .int .i64 x ∧ x < N ∧ s.length = N ∧ Hid ((crun p s x).1 = (crun p (cyst p k).1 k).1 ∧ C + (crun p s x).2 = (crun p (cyst p k).1 k).2) ∧ St w.heap.size w [Asn.own w.heap.size 4 (.slice (some ⟨w.heap.size, 0, none⟩) N N) (bls s), Asn.own w.heap.size 2 vo (nats (cyst p k).2), Asn.own 0 2 (.slice (some ⟨gp, 0, none⟩) N cp) (nats p)] wr) (fun c _ _ => (crun p (cyst p k).1 k).2 - (intOf c).toNat)
      case atStart => exact ⟨k, 0, (cyst p k).1, rfl, rfl, hlk, hcl.out k, hid ⟨rfl, Nat.zero_add _⟩, rS.out⟩
      case round =>
        obtain ⟨x, C, s, rfl, rfl, hx, hsl, hr, rS⟩ := hrel
        have x0 : (0 : Int) ≤ (x : Int) := Int.natCast_nonneg _
        have x1 : (x : Int) < (N : Int) := by omega
        have hblen := hid (show (bls s).length = N by rw [bls_length]; exact hsl)
        by_cases hb : s[x]? = some true
        · have cs := rS.o0.cellAt x _ (bls_get hb)
          have hr2 := hr.out
          rw [hseen.out s x hb] at hr2
          obtain ⟨e1, e2⟩ := hr2
          dsimp only at e1 e2
          rw [Nat.add_zero] at e2
          replace e1 := hid e1; replace e2 := hid e2
          clear hb hr
          rw [e1.out] at rS
          replace rS := hid rS
          by_cases hz : 0 < (crun p (cyst p k).1 k).2
          · have hk1 := hid (hcs.out k)
            rw [if_pos hz] at hk1
            have hcb2 := hcb.out k
            have hol := hid (hco.out k)
            have hol2 := hid (nats_length (cyst p k).2)
            have hol3 := hol.out
            generalize hcr : crun p (cyst p k).1 k = R at *
            replace hcr := hid hcr
            have dz : decide (0 < (C : Int)) = true := decide_eq_true (by have := e2.out; omega)
            have dn : decide (0 < C) = true := decide_eq_true (by have := e2.out; omega)
            generalize hq : (cyst p k) = Q at *
            replace hq := hid hq
            go_wp2_with (first
              | ((with_reducible refine gate (N := 36) rfl ?_); refine St.app 34 2 (.int .i64 0) 8 Try.underlying34 info_i64 rfl (by omega) rfl _ _ rfl _ _ rfl rS.out.f1 _ rfl rfl Q.2.length hol2.out (by omega) ?_; intro gn cn w5 rS'; replace rS := hid rS'.f1; clear rS'))
            go_roundw
            case rel => exact ⟨k + 1, _, by omega, by go_num, rfl, by rw [hk1.out]; dsimp only; rw [nats_snoc, ← e2.out]; exact rS.out⟩
            case measure => simp [intOf]; omega
          · have hk1 := hid (hcs.out k)
            rw [if_neg hz] at hk1
            generalize hcr : crun p (cyst p k).1 k = R at *
            replace hcr := hid hcr
            have dz : decide (0 < (C : Int)) = false := decide_eq_false (by have := e2.out; omega)
            have dn : decide (0 < C) = false := decide_eq_false (by have := e2.out; omega)
            generalize hq : (cyst p k) = Q at *
            replace hq := hid hq
            go_wp2
            go_roundw
            case rel => exact ⟨k + 1, _, by omega, by go_num, rfl, by rw [hk1.out]; exact rS.out⟩
            case measure => simp [intOf]; omega
        · have hb2 := get_bool (by omega) hb
          have cs := rS.o0.cellAt x _ (bls_get hb2)
          have fs := Own.frozenAt rS.o0 hblen.out x
          have hr2 := hr.out
          rw [hnew.out s x hb2] at hr2
          have hbnd := hcb.out k
          have hpx := hplt.out x hx
          have hcp := hid (hpg.out x hx)
          have hset := hid (bls_set s x true)
          have hsl2 := hid (show (s.set x true).length = N by rw [List.length_set]; exact hsl)
          generalize hS1 : (crun p (cyst p k).1 k).1 = S1 at *
          generalize hC1 : (crun p (cyst p k).1 k).2 = C1 at *
          replace hS1 := hid hS1; replace hC1 := hid hC1
          generalize p.getD x 0 = px at *
          generalize s.set x true = s2 at *
          obtain ⟨e1, e2⟩ := hr2
          dsimp only at e1 e2
          generalize hcr : crun p s2 px = R at *
          replace hcr := hid hcr; replace e1 := hid e1
          clear hb hb2 hr
          replace rS := hid rS
          have mk : True := trivial
          go_wp2_with (first
            | ((with_reducible refine gate (N := 25) rfl ?_); clear mk; replace rS := hid (rS.out.setOwn hblen.out x (.bool true) hx); rw [hset.out] at rS; (have ck := rS.out.o2.cellAt x _ hcp.out); generalize wr.setCell _ _ = wx at *))
          go_roundw
          case rel => exact ⟨px, C + 1, s2, by go_num, rfl, hpx, hsl2.out, hid ⟨by rw [hcr.out]; exact e1.out, by rw [hcr.out]; omega⟩, rS.out⟩
          case measure => simp [intOf]; omega
    · obtain rfl : k = N := by omega
      have dk : decide ((k : Int) < (k : Int)) = false := decide_eq_false (by omega)
      replace rS := hid rS.out.f1
      rw [hresult.out, hni.out] at rS
      go_wp2_with (first
        | (go_at_call 95; (with_reducible refine (hsrt.out _ _ _ rS.out).mono ?_); rintro e w2 ⟨rfl, rS'⟩; replace rS := hid rS'; clear rS' hsrt))
      go_ret
      exact ⟨_, rfl, by rw [← hci.out]; exact rS.out.o0, rS.out.bel⟩
theorem cysI_nat (p : List Nat) : ∃ q : List Nat, cysI p = q.map Int.ofNat ∧ q.Perm (cyc p) := by
  have hp : (cysI p).Perm ((cyc p).map Int.ofNat) := List.mergeSort_perm _ _
  refine ⟨(cysI p).map Int.toNat, ?_, ?_⟩
  · rw [List.map_map]
    have : ∀ x ∈ cysI p, (Int.ofNat ∘ Int.toNat) x = x := fun x hx => by
      obtain ⟨c, _, rfl⟩ := List.mem_map.1 (hp.mem_iff.1 hx)
      rfl
    rw [List.map_congr_left this, List.map_id']
  · have h := hp.map Int.toNat
    rw [List.map_map] at h
    have e : (Int.toNat ∘ Int.ofNat) = (id : Nat → Nat) := funext fun x => rfl
    rw [e, List.map_id] at h
    exact h
theorem ordL_take {q : List Nat} {k c : Nat} (h : q[k]? = some c) : ordL (q.take (k + 1)) = Nat.lcm (ordL (q.take k)) c := by
  unfold ordL
  rw [List.take_add_one, h]
  simp
set_option maxHeartbeats 4000000 in
set_option maxRecDepth 100000 in
theorem order_any (w : World) (b0 : Nat) (v : Value) (p : List Nat) (h : Own w b0 2 v (nats p)) (hn : p.length ≤ 1000) (hlt : ∀ x, x < p.length → p.getD x 0 < p.length) (K : Nat) (hK0 : 0 < K) (hK : K < 1000000000) (hdv : ∀ c ∈ cyc p, c ∣ K) :
    Calls Try.prog 52 #[v] w fun e w' => e = .returned (.int .i64 (ordL (cyc p) : Nat)) ∧ Below w.heap.size w w' := by
  have hcy := hid (cycles_any w b0 v p h hn hlt)
  obtain ⟨q, hq, hqp⟩ := cysI_nat p
  rw [hq, ← nats_ints] at hcy
  have hord := hid (show ordL (cyc p) = ordL (q.take q.length) from by rw [List.take_length]; exact ordL_congr fun c => hqp.mem_iff.symm)
  rw [hord.out]
  have hqb := hid (fun k c (hc : q[k]? = some c) => (show 0 < c from by
    have hm := hqp.mem_iff.1 (List.mem_of_getElem? hc)
    exact (cyst_pos p p.length c hm).1))
  have hqd := hid (fun k => (show ordL (q.take k) ∣ K from ordL_dvd fun c hc => hdv c (hqp.mem_iff.1 (List.mem_of_mem_take hc))))
  have hpos := hid (fun k => Nat.pos_of_dvd_of_pos (hqd.out k) hK0)
  have hle := hid (fun k => Nat.le_of_dvd hK0 (hqd.out k))
  have hst := hid (fun k c (hc : q[k]? = some c) => ordL_take hc)
  have hl := hid (nats_length q)
  have hql : q.length ≤ 1000 := by rw [hqp.length_eq]; have := cyst_out p p.length; unfold cyc; omega
  have hmu := hid (fun k c (hc : q[k]? = some c) W => (by
    have h := multiple_any (ordL (q.take k)) c (hpos.out k) (hqb.out k c hc) (by rw [← hst.out k c hc]; have := hle.out (k + 1); omega) W
    rw [← hst.out k c hc] at h; exact h : Calls Try.prog 88 #[.int .i64 (ordL (q.take k) : Nat), .int .i64 (c : Nat)] W fun e w' => e = .returned (.int .i64 (ordL (q.take (k + 1)) : Nat)) ∧ Below W.heap.size W w'))
  have h0 := hid (show ordL (q.take 0) = 1 from rfl)
  have hng := hid (fun (k c : Nat) (hc : q[k]? = some c) => (show (nats q)[k]? = some (.int .i64 (c : Nat)) by simp [nats, hc]))
  obtain ⟨F, hF⟩ : ∃ F : Nat → Nat, F = fun k => ordL (q.take k) := ⟨_, rfl⟩
  have hFe := hid (fun k => (show ordL (q.take k) = F k by rw [hF]))
  simp only [hFe.out] at hmu h0 hle ⊢
  clear hF hFe hst hord hqd hpos hqb h
  generalize hN : q.length = N at *
  replace hN := hid hN
  go_enter Try.func52, Try.ntmps52
  go_wp2_with (first
    | (go_at_call 59; (with_reducible refine (hcy.out).mono ?_); rintro e w1 ⟨v1, rfl, hO, hb⟩; obtain ⟨A, cp, rfl, _, hA⟩ := hO.form; rw [hl.out]; rw [hl.out] at hO; replace hO := hid hO; replace hA := hid hA; have hB := hid hb; clear hcy hb))
  go_loopw [3, 9] (fun o i wr => ∃ k : Nat, k ≤ N ∧ i = .int .i64 k ∧ o = .int .i64 (F k : Nat) ∧ Hid (Below w1.heap.size w1 wr)) (fun _ i _ => N - (intOf i).toNat)
  case atStart => exact ⟨0, Nat.zero_le _, rfl, by rw [h0.out]; rfl, Below.refl _ _⟩
  case round =>
    obtain ⟨k, hk, rfl, rfl, rB⟩ := hrel
    by_cases hlt : k < N
    · have dk : decide ((k : Int) < (N : Int)) = true := decide_eq_true (by omega)
      obtain ⟨c, hc⟩ : ∃ c, q[k]? = some c := ⟨_, List.getElem?_eq_getElem (by rw [hN.out]; exact hlt)⟩
      obtain ⟨g, rfl⟩ : ∃ g, A = some ⟨g, 0, none⟩ := by
        rcases hA.out with ⟨_, h1, _⟩ | ⟨g, h1, _⟩
        · have : N = 0 := by rw [← hl.out, h1]; rfl
          omega
        · exact ⟨g, h1⟩
      have ck := (hO.out.below rB.out).cellAt k _ (hng.out k c hc)
      have hmk := hid (hmu.out k c hc)
      generalize hfk1 : F (k + 1) = fk1 at *
      replace hfk1 := hid hfk1
      generalize F k = fk at *
      clear hc
      go_wp2_with (first
        | (go_at_call 88; (with_reducible refine (hmk.out _).mono ?_); rintro e w2 ⟨rfl, hb⟩; replace rB := hid (rB.out.trans (hb.mono rB.out.size)); clear hb))
      go_roundw
      case rel => exact ⟨k + 1, by omega, by go_num, by rw [hfk1.out], rB⟩
      case measure => simp [intOf]; omega
    · obtain rfl : k = N := by omega
      have dk : decide ((k : Int) < (k : Int)) = false := decide_eq_false (by omega)
      go_wp2
      go_ret
      exact ⟨rfl, hB.out.trans (rB.out.mono hB.out.size)⟩
end Go.Proofs.Ytgpjcekpmhfljaa

/- Maps that respect beginnings: how often they bring all words back. -/
namespace Go.Proofs.Ytgpjcekpmhfljaa
open Go.RowKit
set_option linter.unusedVariables false
set_option linter.unusedSimpArgs false

/-- F leads words to words of the same length, common beginnings to common beginnings, different words to different ones. -/
structure Aut (d : Nat) (F : List Nat → List Nat) (n : Nat) : Prop where
  len : ∀ u, (∀ x ∈ u, x < d) → u.length ≤ n → (F u).length = u.length
  lt : ∀ u, (∀ x ∈ u, x < d) → u.length ≤ n → ∀ y ∈ F u, y < d
  pre : ∀ u x, (∀ y ∈ u, y < d) → x < d → u.length < n → ∃ y, F (u ++ [x]) = F u ++ [y]
  inj : ∀ u v, (∀ x ∈ u, x < d) → (∀ x ∈ v, x < d) → u.length ≤ n → u.length = v.length → F u = F v → u = v
def itF (F : List Nat → List Nat) : Nat → List Nat → List Nat
  | 0, u => u
  | j + 1, u => F (itF F j u)
theorem itF_add (F : List Nat → List Nat) (i : Nat) (u : List Nat) : ∀ j, itF F (j + i) u = itF F j (itF F i u)
  | 0 => by rw [Nat.zero_add]; rfl
  | j + 1 => by rw [show j + 1 + i = (j + i) + 1 by omega]; show F _ = F _; rw [itF_add F i u j]
theorem itF_mul (F : List Nat → List Nat) (c : Nat) (u : List Nat) : ∀ j, itF F (j * c) u = itF (itF F c) j u
  | 0 => by rw [Nat.zero_mul]; rfl
  | j + 1 => by rw [Nat.succ_mul, Nat.add_comm, itF_add]; show _ = itF F c (itF (itF F c) j u); rw [itF_mul F c u j]
theorem Aut.id (d n : Nat) : Aut d (fun u => u) n := ⟨fun _ _ _ => rfl, fun _ h _ => h, fun _ x _ _ _ => ⟨x, rfl⟩, fun _ _ _ _ _ _ h => h⟩
theorem Aut.comp {d n : Nat} {F G : List Nat → List Nat} (hF : Aut d F n) (hG : Aut d G n) : Aut d (fun u => F (G u)) n where
  len := fun u h hl => by rw [hF.len _ (hG.lt u h hl) (by rw [hG.len u h hl]; exact hl), hG.len u h hl]
  lt := fun u h hl => hF.lt _ (hG.lt u h hl) (by rw [hG.len u h hl]; exact hl)
  pre := fun u x h hx hl => by
    obtain ⟨y, hy⟩ := hG.pre u x h hx hl
    have h1 : ∀ z ∈ G (u ++ [x]), z < d := hG.lt _ (fun z hz => (List.mem_append.1 hz).elim (h z) fun hz => by rw [List.mem_singleton.1 hz]; exact hx) (by simp; omega)
    rw [hy] at h1
    obtain ⟨z, hz⟩ := hF.pre (G u) y (fun a ha => h1 a (List.mem_append.2 (.inl ha))) (h1 y (by simp)) (by rw [hG.len u h (by omega)]; exact hl)
    exact ⟨z, by rw [hy, hz]⟩
  inj := fun u v hu hv hl he e => hG.inj u v hu hv hl he (hF.inj _ _ (hG.lt u hu hl) (hG.lt v hv (by omega)) (by rw [hG.len u hu hl]; exact hl) (by rw [hG.len u hu hl, hG.len v hv (by omega), he]) e)
theorem Aut.it {d n : Nat} {F : List Nat → List Nat} (h : Aut d F n) : ∀ j, Aut d (itF F j) n
  | 0 => Aut.id d n
  | j + 1 => h.comp (h.it j)
def itN (t : Nat → Nat) : Nat → Nat → Nat
  | 0, x => x
  | j + 1, x => t (itN t j x)
theorem two_back (t : Nat → Nat) (hl : ∀ x, x < 2 → t x < 2) (hi : ∀ x y, x < 2 → y < 2 → t x = t y → x = y) (x : Nat) (hx : x < 2) : itN t 2 x = x := by
  have h0 := hl 0 (by omega); have h1 := hl 1 (by omega)
  have h01 : t 0 ≠ t 1 := fun e => absurd (hi 0 1 (by omega) (by omega) e) (by decide)
  have hx' : x = 0 ∨ x = 1 := by omega
  have c : (t 0 = 0 ∧ t 1 = 1) ∨ (t 0 = 1 ∧ t 1 = 0) := by omega
  rcases c with ⟨a, b⟩ | ⟨a, b⟩ <;> rcases hx' with rfl | rfl <;> simp [itN, a, b]
theorem three_back (t : Nat → Nat) (hl : ∀ x, x < 3 → t x < 3) (hi : ∀ x y, x < 3 → y < 3 → t x = t y → x = y) (x : Nat) (hx : x < 3) : itN t 6 x = x := by
  have h0 := hl 0 (by omega); have h1 := hl 1 (by omega); have h2 := hl 2 (by omega)
  have h01 : t 0 ≠ t 1 := fun e => absurd (hi 0 1 (by omega) (by omega) e) (by decide)
  have h02 : t 0 ≠ t 2 := fun e => absurd (hi 0 2 (by omega) (by omega) e) (by decide)
  have h12 : t 1 ≠ t 2 := fun e => absurd (hi 1 2 (by omega) (by omega) e) (by decide)
  have hx' : x = 0 ∨ x = 1 ∨ x = 2 := by omega
  have c : (t 0 = 0 ∧ t 1 = 1 ∧ t 2 = 2) ∨ (t 0 = 0 ∧ t 1 = 2 ∧ t 2 = 1) ∨ (t 0 = 1 ∧ t 1 = 0 ∧ t 2 = 2) ∨ (t 0 = 1 ∧ t 1 = 2 ∧ t 2 = 0) ∨ (t 0 = 2 ∧ t 1 = 0 ∧ t 2 = 1) ∨ (t 0 = 2 ∧ t 1 = 1 ∧ t 2 = 0) := by omega
  rcases c with ⟨a, b, c⟩ | ⟨a, b, c⟩ | ⟨a, b, c⟩ | ⟨a, b, c⟩ | ⟨a, b, c⟩ | ⟨a, b, c⟩ <;> rcases hx' with rfl | rfl | rfl <;> simp [itN, a, b, c]
/-- A number of times that brings each of d letters back. -/
def bk (d : Nat) : Nat := if d = 2 then 2 else 6
theorem let_back {d : Nat} (hd : d = 2 ∨ d = 3) (t : Nat → Nat) (hl : ∀ x, x < d → t x < d) (hi : ∀ x y, x < d → y < d → t x = t y → x = y) (x : Nat) (hx : x < d) : itN t (bk d) x = x := by
  rcases hd with rfl | rfl
  · exact two_back t hl hi x hx
  · exact three_back t hl hi x hx
theorem aut_last {d n : Nat} {G : List Nat → List Nat} (hd : d = 2 ∨ d = 3) (hG : Aut d G n) (v : List Nat) (hv : ∀ y ∈ v, y < d) (hl : v.length < n) (hf : G v = v) (x : Nat) (hx : x < d) : itF G (bk d) (v ++ [x]) = v ++ [x] := by
  obtain ⟨t, ht⟩ : ∃ t : Nat → Nat, ∀ x, x < d → G (v ++ [x]) = v ++ [t x] := by
    refine ⟨fun x => (G (v ++ [x])).getD v.length 0, fun x hx => ?_⟩
    obtain ⟨y, hy⟩ := hG.pre v x hv hx hl
    rw [hf] at hy
    show G (v ++ [x]) = v ++ [(G (v ++ [x])).getD v.length 0]
    rw [hy]
    simp
  have hm : ∀ x, x < d → ∀ z ∈ v ++ [x], z < d := fun x hx z hz => (List.mem_append.1 hz).elim (hv z) fun hz => by rw [List.mem_singleton.1 hz]; exact hx
  have htl : ∀ x, x < d → t x < d := fun x hx => by
    have := hG.lt (v ++ [x]) (hm x hx) (by simp; omega)
    rw [ht x hx] at this
    exact this (t x) (by simp)
  have hti : ∀ x y, x < d → y < d → t x = t y → x = y := fun x y hx hy e => by
    have := hG.inj (v ++ [x]) (v ++ [y]) (hm x hx) (hm y hy) (by simp; omega) (by simp) (by rw [ht x hx, ht y hy, e])
    simpa using this
  have hit : ∀ j, itF G j (v ++ [x]) = v ++ [itN t j x] ∧ itN t j x < d := fun j => by
    induction j with
    | zero => exact ⟨rfl, hx⟩
    | succ j ih => exact ⟨by show G _ = _; rw [ih.1, ht _ ih.2]; rfl, htl _ ih.2⟩
  rw [(hit _).1, let_back hd t htl hti x hx]
theorem aut_back {d n : Nat} {F : List Nat → List Nat} (hd : d = 2 ∨ d = 3) (h : Aut d F n) : ∀ (k : Nat) (u : List Nat), u.length = k → k ≤ n → (∀ y ∈ u, y < d) → itF F (bk d ^ k) u = u
  | 0, u, hl, _, _ => by
    obtain rfl := List.length_eq_zero_iff.1 hl
    have h1 := (h.it (bk d ^ 0)).len [] (by simp) (by simp)
    exact List.length_eq_zero_iff.1 h1
  | k + 1, u, hl, hk, hu => by
    obtain ⟨v, x, rfl⟩ : ∃ v x, u = v ++ [x] := ⟨u.dropLast, u.getLast (by intro e; rw [e] at hl; simp at hl), (List.dropLast_concat_getLast _).symm⟩
    have hv : v.length = k := by simpa using hl
    have ih := aut_back hd h k v hv (by omega) fun y hy => hu y (List.mem_append.2 (.inl hy))
    rw [Nat.pow_succ, Nat.mul_comm, itF_mul]
    exact aut_last hd (h.it _) v (fun y hy => hu y (List.mem_append.2 (.inl hy))) (by omega) ih x (hu x (by simp))
/-- What F makes of a level, in numbers. -/
def pmF (d : Nat) (F : List Nat → List Nat) (n : Nat) : List Nat := (List.range (pw d n)).map fun k => num d (F (wrd d n k))
theorem pmF_length (d : Nat) (F : List Nat → List Nat) (n : Nat) : (pmF d F n).length = pw d n := by simp [pmF]
theorem pmF_get {d : Nat} {F : List Nat → List Nat} {n k : Nat} (hk : k < pw d n) : (pmF d F n).getD k 0 = num d (F (wrd d n k)) := by
  simp [pmF, List.getD_eq_getElem?_getD, hk]
theorem pmF_it {d n : Nat} {F : List Nat → List Nat} (hd : 0 < d) (h : Aut d F n) {k : Nat} (hk : k < pw d n) : ∀ j, itp (pmF d F n) j k = num d (itF F j (wrd d n k))
  | 0 => (num_wrd d hd n k hk).symm
  | j + 1 => by
    have ih := pmF_it hd h hk j
    have hl : (itF F j (wrd d n k)).length = n := by rw [(h.it j).len _ (wrd_lt d hd n k) (by rw [wrd_length]; exact Nat.le_refl n), wrd_length]
    have hm := (h.it j).lt _ (wrd_lt d hd n k) (by rw [wrd_length]; exact Nat.le_refl n)
    show (pmF d F n).getD (itp (pmF d F n) j k) 0 = _
    rw [ih, pmF_get (num_lt d n _ hl hm), wrd_num d hd n _ hl hm]
    rfl
theorem pmF_pm {d n : Nat} {F : List Nat → List Nat} (hd : 0 < d) (h : Aut d F n) : IsPm (pmF d F n) where
  lt := fun k hk => by
    rw [pmF_length] at hk ⊢
    rw [pmF_get hk]
    exact num_lt d n _ (by rw [h.len _ (wrd_lt d hd n k) (by rw [wrd_length]; exact Nat.le_refl n), wrd_length]) (h.lt _ (wrd_lt d hd n k) (by rw [wrd_length]; exact Nat.le_refl n))
  inj := fun i j hi hj e => by
    rw [pmF_length] at hi hj
    rw [pmF_get hi, pmF_get hj] at e
    have hn := fun k => (show (F (wrd d n k)).length = n by rw [h.len _ (wrd_lt d hd n k) (by rw [wrd_length]; exact Nat.le_refl n), wrd_length])
    have hm := fun k => h.lt _ (wrd_lt d hd n k) (by rw [wrd_length]; exact Nat.le_refl n)
    have e2 : F (wrd d n i) = F (wrd d n j) := by rw [← wrd_num d hd n _ (hn i) (hm i), ← wrd_num d hd n _ (hn j) (hm j), e]
    have e3 := h.inj _ _ (wrd_lt d hd n i) (wrd_lt d hd n j) (by rw [wrd_length]; exact Nat.le_refl n) (by rw [wrd_length, wrd_length]) e2
    rw [← num_wrd d hd n i hi, ← num_wrd d hd n j hj, e3]
theorem pmF_back {d n : Nat} {F : List Nat → List Nat} (hd : d = 2 ∨ d = 3) (h : Aut d F n) {k : Nat} (hk : k < pw d n) : itp (pmF d F n) (bk d ^ n) k = k := by
  rw [pmF_it (by omega) h hk, aut_back hd h n _ (wrd_length d n k) (Nat.le_refl n) (wrd_lt d (by omega) n k), num_wrd d (by omega) n k hk]
end Go.Proofs.Ytgpjcekpmhfljaa

/- States are maps that respect beginnings. -/
namespace Go.Proofs.Ytgpjcekpmhfljaa
open Go.RowKit
set_option linter.unusedVariables false
set_option linter.unusedSimpArgs false

theorem img_inj {m : Mach} {l s : Nat} (gd : Good m l s) : ∀ (u v : List Nat) (q : Nat), q < s → (∀ x ∈ u, x < l) → (∀ x ∈ v, x < l) → u.length = v.length → img m q u = img m q v → u = v
  | [], [], _, _, _, _, _, _ => rfl
  | [], y :: v, _, _, _, _, hl, _ => by simp at hl
  | x :: u, [], _, _, _, _, hl, _ => by simp at hl
  | x :: u, y :: v, q, hq, hu, hv, hl, e => by
    have hx := hu x (by simp)
    have hy := hv y (by simp)
    have e1 : m.ot (q * 3 + x) :: img m (m.nx (q * 3 + x)) u = m.ot (q * 3 + y) :: img m (m.nx (q * 3 + y)) v := e
    injection e1 with e2 e3
    have exy : x = y := by
      apply Classical.byContradiction
      intro hn
      rcases Nat.lt_or_gt_of_ne hn with h | h
      · exact gd.inj q hq x y h hy e2
      · exact gd.inj q hq y x h hx e2.symm
    subst exy
    rw [img_inj gd u v _ (gd.nx q x hq hx) (fun z hz => hu z (by simp [hz])) (fun z hz => hv z (by simp [hz])) (by simpa using hl) e3]
theorem aut_img {m : Mach} {l s : Nat} (gd : Good m l s) {q : Nat} (hq : q < s) (n : Nat) : Aut l (img m q) n where
  len := fun u _ _ => img_length m u q
  lt := fun u hu _ => img_lt gd u q hq hu
  pre := fun u x _ _ _ => ⟨_, img_snoc m x u q⟩
  inj := fun u v hu hv _ hl e => img_inj gd u v q hq hu hv hl e
theorem perm_pmF (m : Mach) (l q n : Nat) : perm m l q n = pmF l (img m q) n := rfl
end Go.Proofs.Ytgpjcekpmhfljaa

/- The tree of a word in a graph: plain law. -/
namespace Go.Proofs.Ytgpjcekpmhfljaa
set_option linter.unusedVariables false
set_option linter.unusedSimpArgs false

/-- A tree: its queue, the distances, the ways. -/
structure Tr where
  q : List Nat
  far : List Int
  ways : List (List Int)
/-- What one step from fr tx `tx` does. -/
def meetT (t : Tr) (fr tx : Nat) (st : Int) : Tr :=
  if t.far.getD tx 0 < 0 then ⟨t.q ++ [tx], t.far.set tx (t.far.getD fr 0 + 1), t.ways.set tx (t.ways.getD fr [] ++ [st])⟩ else t
/-- The step by table j of 2s. -/
def stpT (s j : Nat) : Int := if j < s then (j : Int) + 1 else (s : Int) - (j : Int) - 1
/-- The first j steps from fr. -/
def rndT (T : Nat → Nat → Nat) (s : Nat) (t : Tr) (fr : Nat) : Nat → Tr
  | 0 => t
  | j + 1 => meetT (rndT T s t fr j) fr (T j fr) (stpT s j)
def tr0 (n k : Nat) : Tr := ⟨[k], (List.replicate n (-1)).set k 0, List.replicate n []⟩
/-- The tree when i words of the queue are done. -/
def growT (T : Nat → Nat → Nat) (s n k : Nat) : Nat → Tr
  | 0 => tr0 n k
  | i + 1 => match (growT T s n k i).q[i]? with
    | some fr => rndT T s (growT T s n k i) fr (2 * s)
    | none => growT T s n k i
/-- The tree. -/
def treeT (T : Nat → Nat → Nat) (s n k : Nat) : Tr := growT T s n k n

theorem nodup_le {n : Nat} {q : List Nat} (hd : q.Nodup) (hb : ∀ x ∈ q, x < n) : q.length ≤ n := by
  refine inj_le q.length n (fun i => q.getD i 0) (fun i hi => ?_) ?_
  · simp only [List.getD_eq_getElem?_getD, List.getElem?_eq_getElem hi, Option.getD_some]
    exact hb _ (List.getElem_mem hi)
  · intro i j hij hj e
    have hi : i < q.length := by omega
    simp only [List.getD_eq_getElem?_getD, List.getElem?_eq_getElem hi, List.getElem?_eq_getElem hj, Option.getD_some] at e
    exact List.pairwise_iff_getElem.1 hd i j hi hj hij e

structure TrOk (n : Nat) (t : Tr) : Prop where
  fl : t.far.length = n
  wl : t.ways.length = n
  nd : t.q.Nodup
  qb : ∀ x ∈ t.q, x < n
  fb : ∀ (x : Nat) (v : Int), t.far[x]? = some v → (v = -1 ∧ x ∉ t.q) ∨ (x ∈ t.q ∧ 0 ≤ v ∧ v < t.q.length)
  wb : ∀ (x : Nat) (u : List Int), t.ways[x]? = some u → u.length < t.q.length
theorem TrOk.ql {n : Nat} {t : Tr} (h : TrOk n t) : t.q.length ≤ n := nodup_le h.nd h.qb
theorem tr0_ok {n k : Nat} (hk : k < n) : TrOk n (tr0 n k) where
  fl := by simp [tr0]
  wl := by simp [tr0]
  nd := by simp [tr0]
  qb := fun x hx => by simp [tr0] at hx; omega
  fb := fun x v hv => by
    simp only [tr0, List.getElem?_set] at hv
    by_cases e : k = x
    · subst e
      simp [hk] at hv
      subst hv
      exact .inr ⟨by simp [tr0], by omega, by simp [tr0]⟩
    · rw [if_neg e] at hv
      rw [List.getElem?_replicate] at hv
      split at hv
      · injection hv with hv
        exact .inl ⟨hv.symm, by simp [tr0]; omega⟩
      · simp at hv
  wb := fun x u hu => by
    simp only [tr0, List.getElem?_replicate] at hu
    split at hu
    · injection hu with hu
      subst hu; simp [tr0]
    · simp at hu
theorem TrOk.meet {n : Nat} {t : Tr} (h : TrOk n t) {fr tx : Nat} (st : Int) (hfr : fr ∈ t.q) (hto : tx < n) : TrOk n (meetT t fr tx st) := by
  unfold meetT
  split
  · rename_i hneg
    have hfn := h.qb fr hfr
    have e1 : t.far[tx]? = some (t.far.getD tx 0) := by
      rw [List.getD_eq_getElem?_getD, List.getElem?_eq_getElem (by rw [h.fl]; exact hto)]; rfl
    have e2 : t.far[fr]? = some (t.far.getD fr 0) := by
      rw [List.getD_eq_getElem?_getD, List.getElem?_eq_getElem (by rw [h.fl]; exact hfn)]; rfl
    have e3 : t.ways[fr]? = some (t.ways.getD fr []) := by
      rw [List.getD_eq_getElem?_getD, List.getElem?_eq_getElem (by rw [h.wl]; exact hfn)]; rfl
    have hnq : tx ∉ t.q := by
      rcases h.fb tx _ e1 with h1 | h1
      · exact h1.2
      · omega
    have hff : 0 ≤ t.far.getD fr 0 ∧ t.far.getD fr 0 < t.q.length := by
      rcases h.fb fr _ e2 with h1 | h1
      · exact absurd hfr h1.2
      · exact h1.2
    exact {
      fl := by simp [h.fl]
      wl := by simp [h.wl]
      nd := by
        refine List.nodup_append.2 ⟨h.nd, by simp, fun a ha b hb => ?_⟩
        simp at hb; subst hb
        intro e; subst e; exact hnq ha
      qb := fun x hx => by
        rcases List.mem_append.1 hx with hx | hx
        · exact h.qb x hx
        · simp at hx; omega
      fb := fun x v hv => by
        simp only [List.getElem?_set] at hv
        by_cases e : tx = x
        · subst e
          simp [h.fl, hto] at hv
          subst hv
          exact .inr ⟨by simp, by rw [← List.getD_eq_getElem?_getD]; omega, by rw [← List.getD_eq_getElem?_getD]; simp only [List.length_append, List.length_singleton]; omega⟩
        · rw [if_neg e] at hv
          rcases h.fb x v hv with ⟨h1, h2⟩ | ⟨h1, h2, h3⟩
          · exact .inl ⟨h1, by simp; exact ⟨h2, fun e' => e e'.symm⟩⟩
          · exact .inr ⟨by simp [h1], h2, by simp only [List.length_append, List.length_singleton]; omega⟩
      wb := fun x u hu => by
        have hw := h.wb fr _ e3
        simp only [List.getElem?_set] at hu
        by_cases e : tx = x
        · subst e
          simp only [h.wl, hto, if_true] at hu
          injection hu with hu
          subst hu
          simp only [List.length_append, List.length_singleton]; omega
        · rw [if_neg e] at hu
          have := h.wb x u hu
          simp only [List.length_append, List.length_singleton]; omega }
  · exact h
theorem meetT_mem {t : Tr} {fr tx : Nat} {st : Int} {x : Nat} (h : x ∈ t.q) : x ∈ (meetT t fr tx st).q := by
  unfold meetT; split
  · simp [h]
  · exact h
theorem meetT_get {t : Tr} {fr tx : Nat} {st : Int} {i x : Nat} (h : t.q[i]? = some x) : (meetT t fr tx st).q[i]? = some x := by
  unfold meetT; split
  · show (t.q ++ [tx])[i]? = some x
    rw [List.getElem?_append_left (List.getElem?_eq_some_iff.1 h).1]; exact h
  · exact h
theorem rndT_ok {T : Nat → Nat → Nat} {s n : Nat} {t : Tr} (h : TrOk n t) {fr : Nat} (hfr : fr ∈ t.q) (hT : ∀ j, j < 2 * s → T j fr < n) :
    ∀ j, j ≤ 2 * s → TrOk n (rndT T s t fr j) ∧ fr ∈ (rndT T s t fr j).q
  | 0, _ => ⟨h, hfr⟩
  | j + 1, hj => by
    have ih := rndT_ok h hfr hT j (by omega)
    exact ⟨ih.1.meet _ ih.2 (hT j (by omega)), meetT_mem ih.2⟩
theorem rndT_get {T : Nat → Nat → Nat} {s : Nat} {t : Tr} {fr i x : Nat} (h : t.q[i]? = some x) : ∀ j, (rndT T s t fr j).q[i]? = some x
  | 0 => h
  | j + 1 => meetT_get (rndT_get h j)
theorem growT_ok {T : Nat → Nat → Nat} {s n k : Nat} (hk : k < n) (hT : ∀ j fr, j < 2 * s → fr < n → T j fr < n) : ∀ i, TrOk n (growT T s n k i)
  | 0 => tr0_ok hk
  | i + 1 => by
    have ih := growT_ok hk hT i
    unfold growT
    split
    · rename_i fr hfr
      have hm := List.mem_of_getElem? hfr
      exact (rndT_ok ih hm (fun j hj => hT j fr hj (ih.qb fr hm)) _ (Nat.le_refl _)).1
    · exact ih
theorem growT_step {T : Nat → Nat → Nat} {s n k i fr : Nat} (h : (growT T s n k i).q[i]? = some fr) : growT T s n k (i + 1) = rndT T s (growT T s n k i) fr (2 * s) := by
  rw [growT, h]
theorem growT_stop {T : Nat → Nat → Nat} {s n k i : Nat} (h : (growT T s n k i).q.length ≤ i) : ∀ j, growT T s n k (i + j) = growT T s n k i
  | 0 => rfl
  | j + 1 => by
    have ih := growT_stop h j
    show growT T s n k (i + j + 1) = _
    rw [growT, ih, List.getElem?_eq_none (by omega)]
theorem growT_end {T : Nat → Nat → Nat} {s n k i : Nat} (hi : i ≤ n) (h : (growT T s n k i).q.length ≤ i) : treeT T s n k = growT T s n k i := by
  obtain ⟨j, rfl⟩ := Nat.exists_eq_add_of_le hi
  exact growT_stop (n := i + j) h j
theorem rndT_len {T : Nat → Nat → Nat} {s : Nat} {t : Tr} {fr : Nat} : ∀ j, t.q.length ≤ (rndT T s t fr j).q.length
  | 0 => Nat.le_refl _
  | j + 1 => by
    have ih := rndT_len (T := T) (s := s) (t := t) (fr := fr) j
    show _ ≤ (meetT _ _ _ _).q.length
    unfold meetT; split
    · show _ ≤ (_ ++ [_]).length
      simp; omega
    · exact ih
end Go.Proofs.Ytgpjcekpmhfljaa

/- append(dst, src...): a slice behind another one. -/
namespace Go.Proofs.Ytgpjcekpmhfljaa
open Go.RowKit
set_option linter.unusedVariables false
set_option linter.unusedSimpArgs false
-- @LONG

theorem run_append_empty {P : Program} (W : World) (t ty e : TypeId) (i : TypeInfo) (ht : P.underlying t = some (.slice e)) (hi : P.info? e = some i) (base : Nat) (v : Value) (cs : List Value) (h : Own W base e v cs) :
    (Builtin.append_ #[t, t] ty #[v, .slice none 0 0]).run P W = .ok v W := by
  obtain ⟨A, c, rfl, hc, hA⟩ := h.form
  rcases hA with ⟨rfl, rfl, rfl⟩ | ⟨g, rfl, _⟩
  · simp [Builtin.append_, run_underlying ht, sizeOf, typeInfo, hi, Builtin.lenOf, Builtin.firstCells, loadCells, loadCellsFrom]
  · simp [Builtin.append_, run_underlying ht, sizeOf, typeInfo, hi, Builtin.lenOf, Builtin.firstCells, hc, storeCells]
theorem run_append_sl {P : Program} (W : World) (t ty e : TypeId) (z : Value) (bytes : Nat) (ht : P.underlying t = some (.slice e)) (hinfo : (P.info? e).map (fun i => (i.zero, i.size, i.bytes)) = some (some z, 1, bytes)) (hz : z.cells.size = 1) (hb : bytes ≤ 64)
    (base : Nat) (v : Value) (cs : List Value) (h : Own W base e v cs) (hbase : base ≤ W.heap.size) (b2 e2 : Nat) (v2 : Value) (cs2 : List Value) (h2 : Own W b2 e2 v2 cs2) (h1 : ∀ u ∈ cs2, u.oneCell' = true) (hlen : cs.length + cs2.length ≤ 1000000000) :
    ∃ v' w', (Builtin.append_ #[t, t] ty #[v, v2]).run P W = .ok v' w' ∧ Own w' base e v' (cs ++ cs2) ∧ Below base W w' ∧ (∀ k, k < W.heap.size → v.ownBlock ≠ some k → w'.heap[k]? = W.heap[k]?) ∧ (v'.ownBlock = v.ownBlock ∨ v'.ownBlock = some W.heap.size) := by
  obtain ⟨i, hi, hz0, hz1, hz2⟩ := info_parts hinfo
  obtain ⟨A, c, rfl, hc, hA⟩ := h2.form
  rcases hA with ⟨rfl, rfl, rfl⟩ | ⟨g, rfl, _, _, hcell⟩
  · refine ⟨v, W, run_append_empty W t ty e i ht hi base v cs h, by rw [List.append_nil]; exact h, Below.refl _ _, fun _ _ _ => rfl, .inl rfl⟩
  · obtain ⟨v', w', hr, h3, h4, _, h5⟩ := run_append_own_at (P := P) W base t ty e i z 1 bytes ht hi hz0 hz1 hz2 hz (by omega) v cs.length cs h ⟨g, 0, none⟩ cs2.length c cs2 (by omega) (fun j u hu => by rw [Addr.add_mid, Nat.zero_add]; exact hcell j u hu) h1
      (by simp only [maxLen]; omega) (Nat.le_trans (Nat.mul_le_mul_left _ hb) (by omega)) hbase
    have hold : ∀ k, k < W.heap.size → v.ownBlock ≠ some k → w'.heap[k]? = W.heap[k]? := fun k hk hne => h4.block k hk (fun e => hne e.symm)
    refine ⟨v', w', hr, ?_, ⟨h4.os, h4.tape, h4.output, h4.size, fun k hk => hold k (by omega) (fun e => by have := (h.lt k e).1; omega)⟩, hold, h5⟩
    unfold Own
    rw [List.length_append]; exact h3
section
variable {ops : Array Oper} {rest : List Oper} {o : Oper} {act : Act} {W w0 : World} {Q : Exit → Act → World → Prop} {L : List Asn} {base : Nat}
theorem St.appdV {t : Nat} {v v' : Value} {cs cs' : List Value} {w w' : World} (h : St base w0 (Asn.own base t v cs :: L) w) (hO : Own w' base t v' cs') (hb : Below base w w') (hold : ∀ k, k < w.heap.size → v.ownBlock ≠ some k → w'.heap[k]? = w.heap[k]?)
    (hg : v'.ownBlock = v.ownBlock ∨ v'.ownBlock = some w.heap.size) : St base w0 (Asn.own base t v' cs' :: L) w' :=
  h.turn (a' := Asn.own base t v' cs') hO (fun k hk => by
    have hk' : v'.ownBlock = some k := hk
    rcases hg with hg | hg
    · exact .inl (hg.symm.trans hk')
    · rw [hg] at hk'; injection hk' with e; exact .inr (by omega)) (fun k hk => ((show Own w base t v cs from h.star.1).lt k hk).1) hb fun k hk hne => hold k hk hne
theorem St.appS (t e : TypeId) (z : Value) (bytes : Nat)
    (ht : Try.prog.underlying t = some (.slice e)) (hinfo : (Try.prog.info? e).map (fun i => (i.zero, i.size, i.bytes)) = some (some z, 1, bytes)) (hz : z.cells.size = 1) (hb : bytes ≤ 64)
    (hgd : o.guard = none) (s x : Operand) (ho : o.op = .call { callee := .builtin .append, args := #[s, x], argTypes := #[t, t] })
    (v : Value) (cs : List Value) (hs : act.eval s = v) (hS : St base w0 (Asn.own base e v cs :: L) W) (b2 e2 : Nat) (v2 : Value) (cs2 : List Value) (hx : act.eval x = v2) (h2 : Own W b2 e2 v2 cs2) (h1 : ∀ u ∈ cs2, u.oneCell' = true) (hlen : cs.length + cs2.length ≤ 1000000000)
    (h : ∀ v' w', St base w0 (Asn.own base e v' (cs ++ cs2) :: L) w' → wpList Try.prog ops Q rest (act.put o.dst v') w') : wpList Try.prog ops Q (o :: rest) act W := by
  obtain ⟨v', w', hr, h3, h4, h5, h6⟩ := run_append_sl (P := Try.prog) W t o.type e z bytes ht hinfo hz hb base v cs hS.star.1 hS.le b2 e2 v2 cs2 h2 h1 hlen
  refine wpList_plain hgd fun K hK => ?_
  unfold Oper.wp execOp
  simp only [ho, resolve, invoke, builtin, Sem.run_bind, Sem.run_pure, Result.andThen_ok, List.map_toArray, List.map_cons, List.map_nil, hs, hx, hr]
  exact hK _ _ (h v' w' (hS.appdV h3 h4 h5 h6))
end
theorem ints_one (l : List Int) : ∀ u ∈ ints l, u.oneCell' = true := fun u hu => by
  obtain ⟨x, _, rfl⟩ := List.mem_map.1 hu
  rfl

set_option maxHeartbeats 1000000 in
set_option maxRecDepth 100000 in
theorem clone_any (w : World) (base : Nat) (v : Value) (l : List Int) (h : Own w base 2 v (ints l)) (hl : l.length ≤ 1000000) :
    Calls Try.prog 76 #[v] w fun e w' => ∃ v', e = .returned v' ∧ Own w' w.heap.size 2 v' (ints l) ∧ Below w.heap.size w w' := by
  have hil := ints_length l
  have hnil := fun (W : World) (a : Option Addr) (n c : Nat) => Lib.run_eql_slice_nil (P := Try.prog) W 34 2 a n c 0 0 Try.underlying34
  obtain ⟨A, c, rfl, _, hA⟩ := h.form
  rw [hil] at h ⊢
  rcases hA with ⟨rfl, h0, rfl⟩ | ⟨g, rfl, _⟩
  · have hl0 : l = [] := by rw [← List.length_eq_zero_iff, ← hil, h0]; rfl
    subst hl0
    clear h
    go_enter Try.func76, Try.ntmps76
    go_wp2
    go_ret
    exact ⟨_, rfl, Own.nil _ _ _, Below.refl _ _⟩
  · have hS := hid ((St.start w).newOwn [] 2 (by simp))
    have h' := hid (h.alloc (.cells #[] 2))
    clear h
    go_enter Try.func76, Try.ntmps76
    go_wp2_with (first
      | ((with_reducible refine gate (N := 7) rfl ?_); refine St.appS 34 2 (.int .i64 0) 8 Try.underlying34 info_i64 rfl (by omega) rfl _ _ rfl _ _ rfl hS.out _ _ _ _ rfl h'.out (ints_one l) (by rw [hil]; simp; omega) ?_; intro v' w2 hS'; replace hS := hid hS'; clear hS'))
    go_ret
    exact ⟨_, rfl, by have h := hS.out.o0; rw [List.nil_append] at h; exact h, hS.out.bel⟩
end Go.Proofs.Ytgpjcekpmhfljaa

/- The tree of a word: one step (the program's closure). -/
namespace Go.Proofs.Ytgpjcekpmhfljaa
open Go.RowKit
set_option linter.unusedVariables false
set_option linter.unusedSimpArgs false
-- @LONG

/-- A row of a slice of slices set anew; the row's part goes into it. -/
theorem St.setMR {base gn n cap : Nat} {w0 w : World} {L : List Asn} {r : Value} {rows : List Value} {M : List (List Int)} {l : List Int} (h : St base w0 (Asn.mat base (.slice (some ⟨gn, 0, none⟩) n cap) rows M :: Asn.own base 2 r (ints l) :: L) w)
    (hn : M.length = n) (i : Nat) (hi : i < n) : St base w0 (Asn.mat base (.slice (some ⟨gn, 0, none⟩) n cap) (rows.set i r) (M.set i l) :: L) (w.setCell ⟨gn, i, none⟩ r) := by
  obtain ⟨⟨h1, h2, h3⟩, hf, hr, hf2, hL⟩ := h.star
  have hbg : base ≤ gn := (h1.lt gn rfl).1
  have hother : ∀ k, k ≠ gn → (w.setCell ⟨gn, i, none⟩ r).heap[k]? = w.heap[k]? := fun k hk => heap_setCell_other w ⟨gn, i, none⟩ k r (fun e => hk e)
  have hO : Own (w.setCell ⟨gn, i, none⟩ r) base 34 (.slice (some ⟨gn, 0, none⟩) n cap) (rows.set i r) := Own.set h1 (h2.trans hn) i r hi
  have hne : ∀ {r' : Value} {l' : List Value}, Own w base 2 r' l' → ∀ k, r'.ownBlock = some k → k ≠ gn := fun h' k hk e => (h'.ne h1 (by decide) k hk) (by rw [e]; rfl)
  have hb : Below base w (w.setCell ⟨gn, i, none⟩ r) := (Below.refl _ _).setCell hbg r
  refine ⟨h.bel.trans hb, Nat.le_trans h.le hb.size, ⟨hO, by simp [h2], fun j r' l' e1 e2 => ?_⟩, fun k hk hF => ?_, hL.keep fun k hk => hother k fun e => hf gn (.inl rfl) (.inr (e ▸ hk))⟩
  · simp only [List.getElem?_set] at e1 e2
    by_cases e : i = j
    · subst e
      rw [if_pos rfl, if_pos (by omega)] at e1
      rw [if_pos rfl, if_pos (by omega)] at e2
      injection e1 with e1; injection e2 with e2
      subst e1; subst e2
      exact Own.keep hr fun k hk => hother k (hne hr k hk)
    · rw [if_neg e] at e1 e2
      exact (h3 j r' l' e1 e2).keep fun k hk => hother k (hne (h3 j r' l' e1 e2) k hk)
  · rcases hk with hk | ⟨r', hr', hk⟩
    · exact hf k (.inl hk) (.inr hF)
    · rcases List.mem_or_eq_of_mem_set hr' with hr' | rfl
      · exact hf k (.inr ⟨r', hr', hk⟩) (.inr hF)
      · exact hf2 k hk hF
/-- The tree in memory. -/
def treeP (base bt gf cf gw cw n : Nat) (vq : Value) (rows : List Value) (t : Tr) : List Asn :=
  [Asn.blk bt #[vq, .slice (some ⟨gf, 0, none⟩) n cf, .slice (some ⟨gw, 0, none⟩) n cw] 66, Asn.own base 2 vq (nats t.q), Asn.own base 2 (.slice (some ⟨gf, 0, none⟩) n cf) (ints t.far), Asn.mat base (.slice (some ⟨gw, 0, none⟩) n cw) rows t.ways]
/-- What the second part of a step reads. -/
def tcell (bp bt gw n cw bf fr : Nat) (r : Value) (W : World) : Prop :=
  W.cell? ⟨bp, 0, none⟩ = some (.pointer (some ⟨bt, 0, none⟩)) ∧ W.cell? ⟨bt, 2, none⟩ = some (.slice (some ⟨gw, 0, none⟩) n cw) ∧ W.cell? ⟨bf, 0, none⟩ = some (.int .i64 (fr : Nat)) ∧ W.cell? ⟨gw, fr, none⟩ = some r
def qcell (bp bt : Nat) (vq : Value) (W : World) : Prop := W.cell? ⟨bp, 0, none⟩ = some (.pointer (some ⟨bt, 0, none⟩)) ∧ W.cell? ⟨bt, 0, none⟩ = some vq
set_option maxHeartbeats 4000000 in
set_option maxRecDepth 100000 in
theorem meet_any (base : Nat) (w0 : World) (L : List Asn) (w : World) (bp bt bf gf cf gw cw n : Nat) (hbt : base ≤ bt) (hn : n ≤ 81) (vq : Value) (rows : List Value) (t : Tr) (ok : TrOk n t) (fr tx : Nat) (hfr : fr ∈ t.q) (hto : tx < n) (st : Int)
    (hS : St base w0 (treeP base bt gf cf gw cw n vq rows t ++ Asn.blk bp #[.pointer (some ⟨bt, 0, none⟩)] 62 :: Asn.blk bf #[.int .i64 fr] 2 :: L) w) :
    Calls Try.prog 75 #[.int .i64 tx, .int .i64 st, .pointer (some ⟨bp, 0, none⟩), .pointer (some ⟨bf, 0, none⟩)] w fun e w' => e = .returned (.tuple #[]) ∧
      ∃ vq' rows', St base w0 (treeP base bt gf cf gw cw n vq' rows' (meetT t fr tx st) ++ Asn.blk bp #[.pointer (some ⟨bt, 0, none⟩)] 62 :: Asn.blk bf #[.int .i64 fr] 2 :: L) w' := by
  have hfn := ok.qb fr hfr
  have e1 : t.far[tx]? = some (t.far.getD tx 0) := by rw [List.getD_eq_getElem?_getD, List.getElem?_eq_getElem (by rw [ok.fl]; exact hto)]; rfl
  have e2 : t.far[fr]? = some (t.far.getD fr 0) := by rw [List.getD_eq_getElem?_getD, List.getElem?_eq_getElem (by rw [ok.fl]; exact hfn)]; rfl
  have e3 : t.ways[fr]? = some (t.ways.getD fr []) := by rw [List.getD_eq_getElem?_getD, List.getElem?_eq_getElem (by rw [ok.wl]; exact hfn)]; rfl
  have hql := ok.ql
  have hff : 0 ≤ t.far.getD fr 0 ∧ t.far.getD fr 0 < 81 := by
    rcases ok.fb fr _ e2 with h1 | h1
    · exact absurd hfr h1.2
    · have := h1.2.2; omega
  have hww := ok.wb fr _ e3
  have hm1 : meetT t fr tx st = if t.far.getD tx 0 < 0 then ⟨t.q ++ [tx], t.far.set tx (t.far.getD fr 0 + 1), t.ways.set tx (t.ways.getD fr [] ++ [st])⟩ else t := rfl
  have hfl := ok.fl
  have hwl := ok.wl
  obtain ⟨tq, tf, tw⟩ := t
  simp only at hfr e1 e2 e3 hql hff hww hm1 hfl hwl
  replace ok := hid ok
  generalize tf.getD tx 0 = ft at *
  generalize tf.getD fr 0 = ff at *
  generalize tw.getD fr [] = wf at *
  have g1 : (ints tf)[tx]? = some (.int .i64 ft) := by simp [ints, e1]
  have g2 : (ints tf)[fr]? = some (.int .i64 ff) := by simp [ints, e2]
  replace hS := hid (show St base w0 (Asn.blk bt #[vq, .slice (some ⟨gf, 0, none⟩) n cf, .slice (some ⟨gw, 0, none⟩) n cw] 66 :: Asn.own base 2 vq (nats tq) :: Asn.own base 2 (.slice (some ⟨gf, 0, none⟩) n cf) (ints tf) :: Asn.mat base (.slice (some ⟨gw, 0, none⟩) n cw) rows tw ::
    Asn.blk bp #[.pointer (some ⟨bt, 0, none⟩)] 62 :: Asn.blk bf #[.int .i64 fr] 2 :: L) w from hS)
  have q1 : w.cell? ⟨bp, 0, none⟩ = some (.pointer (some ⟨bt, 0, none⟩)) := cell_of_row _ _ 0 _ _ _ hS.out.k4
  have q2 : w.cell? ⟨bt, 1, none⟩ = some (.slice (some ⟨gf, 0, none⟩) n cf) := cell_of_row _ _ 1 _ _ _ hS.out.k0
  have q3 : w.cell? ⟨gf, tx, none⟩ = some (.int .i64 ft) := hS.out.o2.cellAt tx _ g1
  have q4 : w.cell? ⟨gf, fr, none⟩ = some (.int .i64 ff) := hS.out.o2.cellAt fr _ g2
  have q5 : w.cell? ⟨bf, 0, none⟩ = some (.int .i64 fr) := cell_of_row _ _ 0 _ _ _ hS.out.k5
  have t0 : (0 : Int) ≤ (tx : Int) := Int.natCast_nonneg _
  have t1 : (tx : Int) < (n : Int) := by omega
  have f0 : (0 : Int) ≤ (fr : Int) := Int.natCast_nonneg _
  have f1 : (fr : Int) < (n : Int) := by omega
  by_cases hneg : ft < 0
  · rw [if_pos hneg] at hm1
    rw [hm1]
    have ef : IntKind.i64.wrap (ff + 1) = ff + 1 := IntWalk.i64_in _ (by omega)
    have hcl := hid (fun W b v (hO : Own W b 2 v (ints wf)) => clone_any W b v wf hO (by omega))
    have hqn := hid (nats_length tq)
    have fo := hS.out.o2.frozenAt (by rw [ints_length]; exact hfl) tx
    replace hm1 := hid hm1; replace hfl := hid hfl; replace hwl := hid hwl; replace e1 := hid e1; replace e2 := hid e2; replace e3 := hid e3; replace g1 := hid g1; replace g2 := hid g2; replace hfr := hid hfr
    have hf2 := hid (show (ints tf).set tx (.int .i64 (ff + 1)) = ints (tf.set tx (ff + 1)) by simp [ints, List.map_set])
    have hq2 := hid (show nats tq ++ [.int .i64 (tx : Int)] = nats (tq ++ [tx]) by simp [nats])
    have hw2 := hid (show ints wf ++ [.int .i64 st] = ints (wf ++ [st]) by simp [ints])
    go_enter Try.func75, Try.ntmps75
    go_upto_region 1 with (fail)
    refine wp_region_still_tail 13 (by kernel_rfl) (by kernel_rfl) ?_
    simp only [List.take_succ_cons, List.take_zero, List.drop_succ_cons, List.drop_zero]
    repeat still_step
    try refine wpStill_nil ?_
    change wpList _ _ _ _ _ w.drew
    replace hS := hid hS.out.drew
    have q3' : w.drew.cell? ⟨gf, tx, none⟩ = some (.int .i64 ft) := q3
    have fo' : w.drew.frozen? ⟨gf, tx, none⟩ = false := fo
    clear q1 q2 q3 q4 q5 fo
    generalize w.drew = wa at *
    go_upto_region 2 with (fail)
    replace hS := hid ((hS.out.f2.setOwn (by rw [ints_length]; exact hfl.out) tx (.int .i64 (ff + 1)) hto).b2)
    rw [hf2.out] at hS
    generalize wa.setCell ⟨gf, tx, none⟩ (.int .i64 (ff + 1)) = wb at *
    clear q3' fo'
    have hg3 := hS.out.g3
    obtain ⟨r, hr0⟩ : ∃ r, rows[fr]? = some r := ⟨_, List.getElem?_eq_getElem (by rw [hg3.2.1, hwl.out]; exact hfn)⟩
    have hr2 := hid (show Own wb.drew base 2 r (ints wf) from hg3.2.2 fr r wf hr0 e3.out)
    have hT := hid (fun (W : World) (L' : List Asn) (h : St base w0 (Asn.blk bt #[vq, .slice (some ⟨gf, 0, none⟩) n cf, .slice (some ⟨gw, 0, none⟩) n cw] 66 :: Asn.own base 2 vq (nats tq) :: Asn.own base 2 (.slice (some ⟨gf, 0, none⟩) n cf) (ints (tf.set tx (ff + 1))) :: Asn.mat base (.slice (some ⟨gw, 0, none⟩) n cw) rows tw ::
      Asn.blk bp #[.pointer (some ⟨bt, 0, none⟩)] 62 :: Asn.blk bf #[.int .i64 fr] 2 :: L') W) => (show tcell bp bt gw n cw bf fr r W from ⟨cell_of_row _ _ 0 _ _ _ h.k4, cell_of_row _ _ 2 _ _ _ h.k0, cell_of_row _ _ 0 _ _ _ h.k5, h.g3.1.cellAt fr r hr0⟩))
    clear hg3 hr0
    refine wp_region_heldL (L := [(17, tcell bp bt gw n cw bf fr r)]) (by kernel_rfl) (HeldL.cons (fun _ => hT.out _ _ hS.out.drew) HeldL.nil) (fun hHeld => ?_)
    replace hS := hid hS.out.drew
    generalize wb.drew = wc at *
    refine wpAnyL_takeP (i := 0) 17 [] (v := ?_) (tcell bp bt gw n cw bf fr r) rfl (by kernel_rfl) (by kernel_rfl) (by kernel_rfl) (by rfl) (by kernel_rfl) (by simp) (fun _ _ _ h => h) (Or.inl ⟨by rfl, ?_⟩) (by assumption) ?_
    rotate_left
    · (intro W hW; (obtain ⟨h1, h2, h3, h4⟩ := hW); go_simp; (with_reducible rfl))
    intro hHeld'
    clear hHeld; have hHeld := hHeld'; clear hHeld'
    try simp only [Act.put, List.getElem_toArray, List.getElem_cons_succ, List.getElem_cons_zero, List.setIfInBounds_toArray, List.set_cons_zero, List.set_cons_succ]
    refine wpAnyL_take0 (i := 1) (v := ?_) rfl (by kernel_rfl) (by kernel_rfl) (by kernel_rfl) (by rfl) (fun _ _ _ h => h) (Or.inl ⟨by rfl, ?_⟩) (by assumption) ?_
    rotate_left
    · (intro W _; go_simp; (with_reducible rfl))
    intro hHeld'
    clear hHeld; have hHeld := hHeld'; clear hHeld'
    try simp only [Act.put, List.getElem_toArray, List.getElem_cons_succ, List.getElem_cons_zero, List.setIfInBounds_toArray, List.set_cons_zero, List.set_cons_succ]
    refine wpAnyL_take0 (i := 2) (v := ?_) rfl (by kernel_rfl) (by kernel_rfl) (by kernel_rfl) (by rfl) (fun _ _ _ h => h) (Or.inl ⟨by rfl, ?_⟩) (by assumption) ?_
    rotate_left
    · (intro W _; go_simp; (with_reducible rfl))
    intro hHeld'
    clear hHeld; have hHeld := hHeld'; clear hHeld'
    try simp only [Act.put, List.getElem_toArray, List.getElem_cons_succ, List.getElem_cons_zero, List.setIfInBounds_toArray, List.set_cons_zero, List.set_cons_succ]
    refine wpAnyL_takeP (i := 3) 17 [] (v := ?_) (tcell bp bt gw n cw bf fr r) rfl (by kernel_rfl) (by kernel_rfl) (by kernel_rfl) (by rfl) (by kernel_rfl) (by simp) (fun _ _ _ h => h) (Or.inl ⟨by rfl, ?_⟩) (by assumption) ?_
    rotate_left
    · (intro W hW; (obtain ⟨h1, h2, h3, h4⟩ := hW); go_simp; (with_reducible rfl))
    intro hHeld'
    clear hHeld; have hHeld := hHeld'; clear hHeld'
    try simp only [Act.put, List.getElem_toArray, List.getElem_cons_succ, List.getElem_cons_zero, List.setIfInBounds_toArray, List.set_cons_zero, List.set_cons_succ]
    refine wpAnyL_take0 (i := 4) (v := ?_) rfl (by kernel_rfl) (by kernel_rfl) (by kernel_rfl) (by rfl) (fun _ _ _ h => h) (Or.inl ⟨by rfl, ?_⟩) (by assumption) ?_
    rotate_left
    · (intro W _; go_simp; (with_reducible rfl))
    intro hHeld'
    clear hHeld; have hHeld := hHeld'; clear hHeld'
    try simp only [Act.put, List.getElem_toArray, List.getElem_cons_succ, List.getElem_cons_zero, List.setIfInBounds_toArray, List.set_cons_zero, List.set_cons_succ]
    refine wpAnyL_takeP (i := 5) 17 [] (v := ?_) (tcell bp bt gw n cw bf fr r) rfl (by kernel_rfl) (by kernel_rfl) (by kernel_rfl) (by rfl) (by kernel_rfl) (by simp) (fun _ _ _ h => h) (Or.inl ⟨by rfl, ?_⟩) (by assumption) ?_
    rotate_left
    · (intro W hW; (obtain ⟨h1, h2, h3, h4⟩ := hW); go_simp; (with_reducible rfl))
    intro hHeld'
    clear hHeld; have hHeld := hHeld'; clear hHeld'
    try simp only [Act.put, List.getElem_toArray, List.getElem_cons_succ, List.getElem_cons_zero, List.setIfInBounds_toArray, List.set_cons_zero, List.set_cons_succ]
    refine wpAnyL_take0 (i := 6) (v := ?_) rfl (by kernel_rfl) (by kernel_rfl) (by kernel_rfl) (by rfl) (fun _ _ _ h => h) (Or.inl ⟨by rfl, ?_⟩) (by assumption) ?_
    rotate_left
    · (intro W _; go_simp; (with_reducible rfl))
    intro hHeld'
    clear hHeld; have hHeld := hHeld'; clear hHeld'
    try simp only [Act.put, List.getElem_toArray, List.getElem_cons_succ, List.getElem_cons_zero, List.setIfInBounds_toArray, List.set_cons_zero, List.set_cons_succ]
    refine wpAnyL_take0 (i := 7) (v := ?_) rfl (by kernel_rfl) (by kernel_rfl) (by kernel_rfl) (by rfl) (fun _ _ _ h => h) (Or.inl ⟨by rfl, ?_⟩) (by assumption) ?_
    rotate_left
    · (intro W _; go_simp; (with_reducible rfl))
    intro hHeld'
    clear hHeld; have hHeld := hHeld'; clear hHeld'
    try simp only [Act.put, List.getElem_toArray, List.getElem_cons_succ, List.getElem_cons_zero, List.setIfInBounds_toArray, List.set_cons_zero, List.set_cons_succ]
    refine wpAnyL_takeP (i := 8) 17 [] (v := ?_) (tcell bp bt gw n cw bf fr r) rfl (by kernel_rfl) (by kernel_rfl) (by kernel_rfl) (by rfl) (by kernel_rfl) (by simp) (fun _ _ _ h => h) (Or.inl ⟨by rfl, ?_⟩) (by assumption) ?_
    rotate_left
    · (intro W hW; (obtain ⟨h1, h2, h3, h4⟩ := hW); go_simp; (with_reducible rfl))
    intro hHeld'
    clear hHeld; have hHeld := hHeld'; clear hHeld'
    try simp only [Act.put, List.getElem_toArray, List.getElem_cons_succ, List.getElem_cons_zero, List.setIfInBounds_toArray, List.set_cons_zero, List.set_cons_succ]
    refine wpAnyL_takeP (i := 9) 17 [] (v := ?_) (tcell bp bt gw n cw bf fr r) rfl (by kernel_rfl) (by kernel_rfl) (by kernel_rfl) (by rfl) (by kernel_rfl) (by simp) (fun _ _ _ h => h) (Or.inl ⟨by rfl, ?_⟩) (by assumption) ?_
    rotate_left
    · (intro W hW; (obtain ⟨h1, h2, h3, h4⟩ := hW); go_simp; (with_reducible rfl))
    intro hHeld'
    clear hHeld; have hHeld := hHeld'; clear hHeld'
    try simp only [Act.put, List.getElem_toArray, List.getElem_cons_succ, List.getElem_cons_zero, List.setIfInBounds_toArray, List.set_cons_zero, List.set_cons_succ]
    refine wpAnyL_take0 (i := 10) (v := ?_) rfl (by kernel_rfl) (by kernel_rfl) (by kernel_rfl) (by rfl) (fun _ _ _ h => h) (Or.inl ⟨by rfl, ?_⟩) (by assumption) ?_
    rotate_left
    · (intro W _; go_simp; (with_reducible rfl))
    intro hHeld'
    clear hHeld; have hHeld := hHeld'; clear hHeld'
    try simp only [Act.put, List.getElem_toArray, List.getElem_cons_succ, List.getElem_cons_zero, List.setIfInBounds_toArray, List.set_cons_zero, List.set_cons_succ]
    refine wpAnyL_takeP (i := 11) 17 [] (v := ?_) (tcell bp bt gw n cw bf fr r) rfl (by kernel_rfl) (by kernel_rfl) (by kernel_rfl) (by rfl) (by kernel_rfl) (by simp) (fun _ _ _ h => h) (Or.inl ⟨by rfl, ?_⟩) (by assumption) ?_
    rotate_left
    · (intro W hW; (obtain ⟨h1, h2, h3, h4⟩ := hW); go_simp; (with_reducible rfl))
    intro hHeld'
    clear hHeld; have hHeld := hHeld'; clear hHeld'
    try simp only [Act.put, List.getElem_toArray, List.getElem_cons_succ, List.getElem_cons_zero, List.setIfInBounds_toArray, List.set_cons_zero, List.set_cons_succ]
    refine wpAnyL_take0 (i := 13) (v := ?_) rfl (by kernel_rfl) (by kernel_rfl) (by kernel_rfl) (by rfl) (fun _ _ _ h => h) (Or.inl ⟨by rfl, ?_⟩) (by assumption) ?_
    rotate_left
    · (intro W _; go_simp; (with_reducible rfl))
    intro hHeld'
    clear hHeld; have hHeld := hHeld'; clear hHeld'
    try simp only [Act.put, List.getElem_toArray, List.getElem_cons_succ, List.getElem_cons_zero, List.setIfInBounds_toArray, List.set_cons_zero, List.set_cons_succ]
    refine wpAnyL_ready (rs := [12, 14]) (by kernel_rfl) (by simp) ?_
    refine AllReadyL.cons rfl (fun K hK => ?_) ?_
    · skip
      go_simp
      (with_reducible refine (hcl.out _ _ _ hr2.out).mono ?_)
      rintro e w3 ⟨v', rfl, hO, hb⟩
      replace hS := hid (hS.out.callOwn hb hO)
      clear hb hO
      go_simp
      refine hK.out _ _ (HeldL.cons (fun _ => hT.out _ _ hS.out.drop) HeldL.nil) (fun hHeld' => ?_)
      clear hK K hHeld; have hHeld := hHeld'; clear hHeld'
      try simp only [Act.put, List.getElem_toArray, List.getElem_cons_succ, List.getElem_cons_zero, List.setIfInBounds_toArray, List.set_cons_zero, List.set_cons_succ]
      refine wpAnyL_ready (rs := [14]) (by kernel_rfl) (by simp) ?_
      refine AllReadyL.cons rfl (fun K hK => ?_) AllReadyL.nil
      go_simp
      replace hS := hid ((hS.out.newBlk #[.int .i64 st] 2).f1)
      generalize w3.heap.size = bB at *
      generalize w3.alloc (.cells #[.int .i64 st] 2) = wd at *
      refine hK.out _ _ (HeldL.cons (fun _ => hT.out _ _ hS.out.drop.drop) HeldL.nil) (fun hHeld' => ?_)
      clear hK K hHeld; have hHeld := hHeld'; clear hHeld'
      try simp only [Act.put, List.getElem_toArray, List.getElem_cons_succ, List.getElem_cons_zero, List.setIfInBounds_toArray, List.set_cons_zero, List.set_cons_succ]
      refine wpAnyL_ready (rs := [15]) (by kernel_rfl) (by simp) ?_
      refine AllReadyL.cons rfl (fun K hK => ?_) AllReadyL.nil
      refine St.step1 34 2 2 (.int .i64 0) 8 Try.underlying34 info_i64 rfl (by omega) rfl _ _ rfl _ _ rfl hS.out rfl rfl _ (ints_length wf) (by omega) ?_
      intro gn cn we hS'
      replace hS := hid hS'.f1.drop
      clear hS'
      rw [hw2.out] at hS
      refine hK.out _ _ (HeldL.cons (fun _ => hT.out _ _ hS.out.drop) HeldL.nil) (fun hHeld' => ?_)
      clear hK K hHeld; have hHeld := hHeld'; clear hHeld'
      try simp only [Act.put, List.getElem_toArray, List.getElem_cons_succ, List.getElem_cons_zero, List.setIfInBounds_toArray, List.set_cons_zero, List.set_cons_succ]
      refine wpAnyL_take0 (i := 16) (v := ?_) rfl (by kernel_rfl) (by kernel_rfl) (by kernel_rfl) (by rfl) (fun _ _ _ h => h) (Or.inl ⟨by rfl, ?_⟩) (by assumption) ?_
      rotate_left
      · (intro W _; go_simp; (with_reducible rfl))
      intro hHeld'
      clear hHeld; have hHeld := hHeld'; clear hHeld'
      try simp only [Act.put, List.getElem_toArray, List.getElem_cons_succ, List.getElem_cons_zero, List.setIfInBounds_toArray, List.set_cons_zero, List.set_cons_succ]
      have c1 := hS.out.f4.g0.1.cellAt tx
      have c2 := Own.frozenAt hS.out.f4.g0.1 (by rw [hS.out.f4.g0.2.1]; exact hwl.out) tx
      have c3 : ∃ u, rows[tx]? = some u := ⟨_, List.getElem?_eq_getElem (by rw [hS.out.f4.g0.2.1, hwl.out]; exact hto)⟩
      obtain ⟨u0, hu0⟩ := c3
      replace c1 := c1 u0 hu0
      clear hu0
      refine wpAnyL_ready (rs := [17]) (by kernel_rfl) (by simp) ?_
      refine AllReadyL.cons rfl (fun K hK => ?_) AllReadyL.nil
      go_simp
      replace hS := hid ((hS.out.f4.setMR hwl.out tx hto).b3)
      clear c1 c2
      refine hK.out _ _ (HeldL.cons (fun h => absurd h (by decide +kernel)) HeldL.nil) (fun hHeld' => ?_)
      clear hK K hHeld; have hHeld := hHeld'; clear hHeld'
      try simp only [Act.put, List.getElem_toArray, List.getElem_cons_succ, List.getElem_cons_zero, List.setIfInBounds_toArray, List.set_cons_zero, List.set_cons_succ]
      refine wpAnyL_done (by kernel_rfl) ?_ _
      clear hT hr2 hcl hf2
      generalize we.setCell ⟨gw, tx, none⟩ (.slice (some ⟨gn, 0, none⟩) (wf.length + 1) cn) = wg at *
      go_upto_region 3 with (fail)
      have hq0 := hid (fun (W : World) (h1 : W.heap[bp]? = some (.cells #[.pointer (some ⟨bt, 0, none⟩)] 62 (0, 0))) (h2 : W.heap[bt]? = some (.cells #[vq, .slice (some ⟨gf, 0, none⟩) n cf, .slice (some ⟨gw, 0, none⟩) n cw] 66 (0, 0))) => (show qcell bp bt vq W from ⟨cell_of_row _ _ 0 _ _ _ h1, cell_of_row _ _ 0 _ _ _ h2⟩))
      refine wp_region_heldL (L := [(10, qcell bp bt vq)]) (by kernel_rfl) (HeldL.cons (fun _ => hq0.out _ hS.out.drew.k4 hS.out.drew.k0) HeldL.nil) (fun hHeld => ?_)
      replace hS := hid hS.out.drew
      generalize wg.drew = wh at *
      refine wpAnyL_takeP (i := 0) 10 [] (v := ?_) (qcell bp bt vq) rfl (by kernel_rfl) (by kernel_rfl) (by kernel_rfl) (by rfl) (by kernel_rfl) (by simp) (fun _ _ _ h => h) (Or.inl ⟨by rfl, ?_⟩) (by assumption) ?_
      rotate_left
      · (intro W hW; (obtain ⟨h1, h2⟩ := hW); go_simp; (with_reducible rfl))
      intro hHeld'
      clear hHeld; have hHeld := hHeld'; clear hHeld'
      try simp only [Act.put, List.getElem_toArray, List.getElem_cons_succ, List.getElem_cons_zero, List.setIfInBounds_toArray, List.set_cons_zero, List.set_cons_succ]
      refine wpAnyL_takeP (i := 1) 10 [] (v := ?_) (qcell bp bt vq) rfl (by kernel_rfl) (by kernel_rfl) (by kernel_rfl) (by rfl) (by kernel_rfl) (by simp) (fun _ _ _ h => h) (Or.inl ⟨by rfl, ?_⟩) (by assumption) ?_
      rotate_left
      · (intro W hW; (obtain ⟨h1, h2⟩ := hW); go_simp; (with_reducible rfl))
      intro hHeld'
      clear hHeld; have hHeld := hHeld'; clear hHeld'
      try simp only [Act.put, List.getElem_toArray, List.getElem_cons_succ, List.getElem_cons_zero, List.setIfInBounds_toArray, List.set_cons_zero, List.set_cons_succ]
      refine wpAnyL_take0 (i := 2) (v := ?_) rfl (by kernel_rfl) (by kernel_rfl) (by kernel_rfl) (by rfl) (fun _ _ _ h => h) (Or.inl ⟨by rfl, ?_⟩) (by assumption) ?_
      rotate_left
      · (intro W _; go_simp; (with_reducible rfl))
      intro hHeld'
      clear hHeld; have hHeld := hHeld'; clear hHeld'
      try simp only [Act.put, List.getElem_toArray, List.getElem_cons_succ, List.getElem_cons_zero, List.setIfInBounds_toArray, List.set_cons_zero, List.set_cons_succ]
      refine wpAnyL_take0 (i := 3) (v := ?_) rfl (by kernel_rfl) (by kernel_rfl) (by kernel_rfl) (by rfl) (fun _ _ _ h => h) (Or.inl ⟨by rfl, ?_⟩) (by assumption) ?_
      rotate_left
      · (intro W _; go_simp; (with_reducible rfl))
      intro hHeld'
      clear hHeld; have hHeld := hHeld'; clear hHeld'
      try simp only [Act.put, List.getElem_toArray, List.getElem_cons_succ, List.getElem_cons_zero, List.setIfInBounds_toArray, List.set_cons_zero, List.set_cons_succ]
      refine wpAnyL_takeP (i := 4) 10 [] (v := ?_) (qcell bp bt vq) rfl (by kernel_rfl) (by kernel_rfl) (by kernel_rfl) (by rfl) (by kernel_rfl) (by simp) (fun _ _ _ h => h) (Or.inl ⟨by rfl, ?_⟩) (by assumption) ?_
      rotate_left
      · (intro W hW; (obtain ⟨h1, h2⟩ := hW); go_simp; (with_reducible rfl))
      intro hHeld'
      clear hHeld; have hHeld := hHeld'; clear hHeld'
      try simp only [Act.put, List.getElem_toArray, List.getElem_cons_succ, List.getElem_cons_zero, List.setIfInBounds_toArray, List.set_cons_zero, List.set_cons_succ]
      refine wpAnyL_take0 (i := 5) (v := ?_) rfl (by kernel_rfl) (by kernel_rfl) (by kernel_rfl) (by rfl) (fun _ _ _ h => h) (Or.inl ⟨by rfl, ?_⟩) (by assumption) ?_
      rotate_left
      · (intro W _; go_simp; (with_reducible rfl))
      intro hHeld'
      clear hHeld; have hHeld := hHeld'; clear hHeld'
      try simp only [Act.put, List.getElem_toArray, List.getElem_cons_succ, List.getElem_cons_zero, List.setIfInBounds_toArray, List.set_cons_zero, List.set_cons_succ]
      refine wpAnyL_ready (rs := [6]) (by kernel_rfl) (by simp) ?_
      refine AllReadyL.cons rfl (fun K hK => ?_) AllReadyL.nil
      go_simp
      replace hS := hid ((hS.out.newBlk #[.int .i64 (tx : Int)] 2).f2)
      generalize wh.heap.size = bC at *
      generalize wh.alloc (.cells #[.int .i64 (tx : Int)] 2) = wi at *
      refine hK.out _ _ (HeldL.cons (fun _ => hq0.out _ hS.out.k5 hS.out.k2) HeldL.nil) (fun hHeld' => ?_)
      clear hK K hHeld; have hHeld := hHeld'; clear hHeld'
      try simp only [Act.put, List.getElem_toArray, List.getElem_cons_succ, List.getElem_cons_zero, List.setIfInBounds_toArray, List.set_cons_zero, List.set_cons_succ]
      refine wpAnyL_ready (rs := [7]) (by kernel_rfl) (by simp) ?_
      refine AllReadyL.cons rfl (fun K hK => ?_) AllReadyL.nil
      refine St.step1 34 2 2 (.int .i64 0) 8 Try.underlying34 info_i64 rfl (by omega) rfl _ _ rfl _ _ rfl hS.out rfl rfl _ hqn.out (by omega) ?_
      intro gq cq wj hS'
      replace hS := hid (hS'.f1.drop.f1)
      clear hS'
      rw [hq2.out] at hS
      refine hK.out _ _ (HeldL.cons (fun _ => hq0.out _ hS.out.k4 hS.out.k0) HeldL.nil) (fun hHeld' => ?_)
      clear hK K hHeld; have hHeld := hHeld'; clear hHeld'
      try simp only [Act.put, List.getElem_toArray, List.getElem_cons_succ, List.getElem_cons_zero, List.setIfInBounds_toArray, List.set_cons_zero, List.set_cons_succ]
      refine wpAnyL_take0 (i := 8) (v := ?_) rfl (by kernel_rfl) (by kernel_rfl) (by kernel_rfl) (by rfl) (fun _ _ _ h => h) (Or.inl ⟨by rfl, ?_⟩) (by assumption) ?_
      rotate_left
      · (intro W _; go_simp; (with_reducible rfl))
      intro hHeld'
      clear hHeld; have hHeld := hHeld'; clear hHeld'
      try simp only [Act.put, List.getElem_toArray, List.getElem_cons_succ, List.getElem_cons_zero, List.setIfInBounds_toArray, List.set_cons_zero, List.set_cons_succ]
      refine wpAnyL_take0 (i := 9) (v := ?_) rfl (by kernel_rfl) (by kernel_rfl) (by kernel_rfl) (by rfl) (fun _ _ _ h => h) (Or.inl ⟨by rfl, ?_⟩) (by assumption) ?_
      rotate_left
      · (intro W _; go_simp; (with_reducible rfl))
      intro hHeld'
      clear hHeld; have hHeld := hHeld'; clear hHeld'
      try simp only [Act.put, List.getElem_toArray, List.getElem_cons_succ, List.getElem_cons_zero, List.setIfInBounds_toArray, List.set_cons_zero, List.set_cons_succ]
      have c1 := cell_of_row _ _ 0 _ _ _ hS.out.k0
      have c2 := frozen_of_row _ _ 0 _ _ hS.out.k0
      refine wpAnyL_ready (rs := [10]) (by kernel_rfl) (by simp) ?_
      refine AllReadyL.cons rfl (fun K hK => ?_) AllReadyL.nil
      go_simp
      replace hS := hid (hS.out.setBlk hbt 0 (.slice (some ⟨gq, 0, none⟩) (tq.length + 1) cq))
      clear c1 c2
      refine hK.out _ _ (HeldL.cons (fun h => absurd h (by decide +kernel)) HeldL.nil) (fun hHeld' => ?_)
      clear hK K hHeld; have hHeld := hHeld'; clear hHeld'
      try simp only [Act.put, List.getElem_toArray, List.getElem_cons_succ, List.getElem_cons_zero, List.setIfInBounds_toArray, List.set_cons_zero, List.set_cons_succ]
      refine wpAnyL_done (by kernel_rfl) ?_ _
      go_end0
      exact ⟨rfl, _, _, hS.out⟩
    · skip
      refine AllReadyL.cons rfl (fun K hK => ?_) AllReadyL.nil
      go_simp
      replace hS := hid (hS.out.newBlk #[.int .i64 st] 2)
      replace hr2 := hid (hr2.out.alloc (.cells #[.int .i64 st] 2))
      generalize wc.heap.size = bB at *
      generalize wc.alloc (.cells #[.int .i64 st] 2) = wd at *
      refine hK.out _ _ (HeldL.cons (fun _ => hT.out _ _ hS.out.drop) HeldL.nil) (fun hHeld' => ?_)
      clear hK K hHeld; have hHeld := hHeld'; clear hHeld'
      try simp only [Act.put, List.getElem_toArray, List.getElem_cons_succ, List.getElem_cons_zero, List.setIfInBounds_toArray, List.set_cons_zero, List.set_cons_succ]
      refine wpAnyL_ready (rs := [12]) (by kernel_rfl) (by simp) ?_
      refine AllReadyL.cons rfl (fun K hK => ?_) AllReadyL.nil
      go_simp
      (with_reducible refine (hcl.out _ _ _ hr2.out).mono ?_)
      rintro e w3 ⟨v', rfl, hO, hb⟩
      replace hS := hid (hS.out.callOwn hb hO)
      clear hb hO
      go_simp
      generalize w3 = wd at *
      refine hK.out _ _ (HeldL.cons (fun _ => hT.out _ _ hS.out.drop.drop) HeldL.nil) (fun hHeld' => ?_)
      clear hK K hHeld; have hHeld := hHeld'; clear hHeld'
      try simp only [Act.put, List.getElem_toArray, List.getElem_cons_succ, List.getElem_cons_zero, List.setIfInBounds_toArray, List.set_cons_zero, List.set_cons_succ]
      refine wpAnyL_ready (rs := [15]) (by kernel_rfl) (by simp) ?_
      refine AllReadyL.cons rfl (fun K hK => ?_) AllReadyL.nil
      refine St.step1 34 2 2 (.int .i64 0) 8 Try.underlying34 info_i64 rfl (by omega) rfl _ _ rfl _ _ rfl hS.out rfl rfl _ (ints_length wf) (by omega) ?_
      intro gn cn we hS'
      replace hS := hid hS'.f1.drop
      clear hS'
      rw [hw2.out] at hS
      refine hK.out _ _ (HeldL.cons (fun _ => hT.out _ _ hS.out.drop) HeldL.nil) (fun hHeld' => ?_)
      clear hK K hHeld; have hHeld := hHeld'; clear hHeld'
      try simp only [Act.put, List.getElem_toArray, List.getElem_cons_succ, List.getElem_cons_zero, List.setIfInBounds_toArray, List.set_cons_zero, List.set_cons_succ]
      refine wpAnyL_take0 (i := 16) (v := ?_) rfl (by kernel_rfl) (by kernel_rfl) (by kernel_rfl) (by rfl) (fun _ _ _ h => h) (Or.inl ⟨by rfl, ?_⟩) (by assumption) ?_
      rotate_left
      · (intro W _; go_simp; (with_reducible rfl))
      intro hHeld'
      clear hHeld; have hHeld := hHeld'; clear hHeld'
      try simp only [Act.put, List.getElem_toArray, List.getElem_cons_succ, List.getElem_cons_zero, List.setIfInBounds_toArray, List.set_cons_zero, List.set_cons_succ]
      have c1 := hS.out.f4.g0.1.cellAt tx
      have c2 := Own.frozenAt hS.out.f4.g0.1 (by rw [hS.out.f4.g0.2.1]; exact hwl.out) tx
      have c3 : ∃ u, rows[tx]? = some u := ⟨_, List.getElem?_eq_getElem (by rw [hS.out.f4.g0.2.1, hwl.out]; exact hto)⟩
      obtain ⟨u0, hu0⟩ := c3
      replace c1 := c1 u0 hu0
      clear hu0
      refine wpAnyL_ready (rs := [17]) (by kernel_rfl) (by simp) ?_
      refine AllReadyL.cons rfl (fun K hK => ?_) AllReadyL.nil
      go_simp
      replace hS := hid ((hS.out.f4.setMR hwl.out tx hto).b3)
      clear c1 c2
      refine hK.out _ _ (HeldL.cons (fun h => absurd h (by decide +kernel)) HeldL.nil) (fun hHeld' => ?_)
      clear hK K hHeld; have hHeld := hHeld'; clear hHeld'
      try simp only [Act.put, List.getElem_toArray, List.getElem_cons_succ, List.getElem_cons_zero, List.setIfInBounds_toArray, List.set_cons_zero, List.set_cons_succ]
      refine wpAnyL_done (by kernel_rfl) ?_ _
      clear hT hr2 hcl hf2
      generalize we.setCell ⟨gw, tx, none⟩ (.slice (some ⟨gn, 0, none⟩) (wf.length + 1) cn) = wg at *
      go_upto_region 3 with (fail)
      have hq0 := hid (fun (W : World) (h1 : W.heap[bp]? = some (.cells #[.pointer (some ⟨bt, 0, none⟩)] 62 (0, 0))) (h2 : W.heap[bt]? = some (.cells #[vq, .slice (some ⟨gf, 0, none⟩) n cf, .slice (some ⟨gw, 0, none⟩) n cw] 66 (0, 0))) => (show qcell bp bt vq W from ⟨cell_of_row _ _ 0 _ _ _ h1, cell_of_row _ _ 0 _ _ _ h2⟩))
      refine wp_region_heldL (L := [(10, qcell bp bt vq)]) (by kernel_rfl) (HeldL.cons (fun _ => hq0.out _ hS.out.drew.k4 hS.out.drew.k0) HeldL.nil) (fun hHeld => ?_)
      replace hS := hid hS.out.drew
      generalize wg.drew = wh at *
      refine wpAnyL_takeP (i := 0) 10 [] (v := ?_) (qcell bp bt vq) rfl (by kernel_rfl) (by kernel_rfl) (by kernel_rfl) (by rfl) (by kernel_rfl) (by simp) (fun _ _ _ h => h) (Or.inl ⟨by rfl, ?_⟩) (by assumption) ?_
      rotate_left
      · (intro W hW; (obtain ⟨h1, h2⟩ := hW); go_simp; (with_reducible rfl))
      intro hHeld'
      clear hHeld; have hHeld := hHeld'; clear hHeld'
      try simp only [Act.put, List.getElem_toArray, List.getElem_cons_succ, List.getElem_cons_zero, List.setIfInBounds_toArray, List.set_cons_zero, List.set_cons_succ]
      refine wpAnyL_takeP (i := 1) 10 [] (v := ?_) (qcell bp bt vq) rfl (by kernel_rfl) (by kernel_rfl) (by kernel_rfl) (by rfl) (by kernel_rfl) (by simp) (fun _ _ _ h => h) (Or.inl ⟨by rfl, ?_⟩) (by assumption) ?_
      rotate_left
      · (intro W hW; (obtain ⟨h1, h2⟩ := hW); go_simp; (with_reducible rfl))
      intro hHeld'
      clear hHeld; have hHeld := hHeld'; clear hHeld'
      try simp only [Act.put, List.getElem_toArray, List.getElem_cons_succ, List.getElem_cons_zero, List.setIfInBounds_toArray, List.set_cons_zero, List.set_cons_succ]
      refine wpAnyL_take0 (i := 2) (v := ?_) rfl (by kernel_rfl) (by kernel_rfl) (by kernel_rfl) (by rfl) (fun _ _ _ h => h) (Or.inl ⟨by rfl, ?_⟩) (by assumption) ?_
      rotate_left
      · (intro W _; go_simp; (with_reducible rfl))
      intro hHeld'
      clear hHeld; have hHeld := hHeld'; clear hHeld'
      try simp only [Act.put, List.getElem_toArray, List.getElem_cons_succ, List.getElem_cons_zero, List.setIfInBounds_toArray, List.set_cons_zero, List.set_cons_succ]
      refine wpAnyL_take0 (i := 3) (v := ?_) rfl (by kernel_rfl) (by kernel_rfl) (by kernel_rfl) (by rfl) (fun _ _ _ h => h) (Or.inl ⟨by rfl, ?_⟩) (by assumption) ?_
      rotate_left
      · (intro W _; go_simp; (with_reducible rfl))
      intro hHeld'
      clear hHeld; have hHeld := hHeld'; clear hHeld'
      try simp only [Act.put, List.getElem_toArray, List.getElem_cons_succ, List.getElem_cons_zero, List.setIfInBounds_toArray, List.set_cons_zero, List.set_cons_succ]
      refine wpAnyL_takeP (i := 4) 10 [] (v := ?_) (qcell bp bt vq) rfl (by kernel_rfl) (by kernel_rfl) (by kernel_rfl) (by rfl) (by kernel_rfl) (by simp) (fun _ _ _ h => h) (Or.inl ⟨by rfl, ?_⟩) (by assumption) ?_
      rotate_left
      · (intro W hW; (obtain ⟨h1, h2⟩ := hW); go_simp; (with_reducible rfl))
      intro hHeld'
      clear hHeld; have hHeld := hHeld'; clear hHeld'
      try simp only [Act.put, List.getElem_toArray, List.getElem_cons_succ, List.getElem_cons_zero, List.setIfInBounds_toArray, List.set_cons_zero, List.set_cons_succ]
      refine wpAnyL_take0 (i := 5) (v := ?_) rfl (by kernel_rfl) (by kernel_rfl) (by kernel_rfl) (by rfl) (fun _ _ _ h => h) (Or.inl ⟨by rfl, ?_⟩) (by assumption) ?_
      rotate_left
      · (intro W _; go_simp; (with_reducible rfl))
      intro hHeld'
      clear hHeld; have hHeld := hHeld'; clear hHeld'
      try simp only [Act.put, List.getElem_toArray, List.getElem_cons_succ, List.getElem_cons_zero, List.setIfInBounds_toArray, List.set_cons_zero, List.set_cons_succ]
      refine wpAnyL_ready (rs := [6]) (by kernel_rfl) (by simp) ?_
      refine AllReadyL.cons rfl (fun K hK => ?_) AllReadyL.nil
      go_simp
      replace hS := hid ((hS.out.newBlk #[.int .i64 (tx : Int)] 2).f2)
      generalize wh.heap.size = bC at *
      generalize wh.alloc (.cells #[.int .i64 (tx : Int)] 2) = wi at *
      refine hK.out _ _ (HeldL.cons (fun _ => hq0.out _ hS.out.k5 hS.out.k2) HeldL.nil) (fun hHeld' => ?_)
      clear hK K hHeld; have hHeld := hHeld'; clear hHeld'
      try simp only [Act.put, List.getElem_toArray, List.getElem_cons_succ, List.getElem_cons_zero, List.setIfInBounds_toArray, List.set_cons_zero, List.set_cons_succ]
      refine wpAnyL_ready (rs := [7]) (by kernel_rfl) (by simp) ?_
      refine AllReadyL.cons rfl (fun K hK => ?_) AllReadyL.nil
      refine St.step1 34 2 2 (.int .i64 0) 8 Try.underlying34 info_i64 rfl (by omega) rfl _ _ rfl _ _ rfl hS.out rfl rfl _ hqn.out (by omega) ?_
      intro gq cq wj hS'
      replace hS := hid (hS'.f1.drop.f1)
      clear hS'
      rw [hq2.out] at hS
      refine hK.out _ _ (HeldL.cons (fun _ => hq0.out _ hS.out.k4 hS.out.k0) HeldL.nil) (fun hHeld' => ?_)
      clear hK K hHeld; have hHeld := hHeld'; clear hHeld'
      try simp only [Act.put, List.getElem_toArray, List.getElem_cons_succ, List.getElem_cons_zero, List.setIfInBounds_toArray, List.set_cons_zero, List.set_cons_succ]
      refine wpAnyL_take0 (i := 8) (v := ?_) rfl (by kernel_rfl) (by kernel_rfl) (by kernel_rfl) (by rfl) (fun _ _ _ h => h) (Or.inl ⟨by rfl, ?_⟩) (by assumption) ?_
      rotate_left
      · (intro W _; go_simp; (with_reducible rfl))
      intro hHeld'
      clear hHeld; have hHeld := hHeld'; clear hHeld'
      try simp only [Act.put, List.getElem_toArray, List.getElem_cons_succ, List.getElem_cons_zero, List.setIfInBounds_toArray, List.set_cons_zero, List.set_cons_succ]
      refine wpAnyL_take0 (i := 9) (v := ?_) rfl (by kernel_rfl) (by kernel_rfl) (by kernel_rfl) (by rfl) (fun _ _ _ h => h) (Or.inl ⟨by rfl, ?_⟩) (by assumption) ?_
      rotate_left
      · (intro W _; go_simp; (with_reducible rfl))
      intro hHeld'
      clear hHeld; have hHeld := hHeld'; clear hHeld'
      try simp only [Act.put, List.getElem_toArray, List.getElem_cons_succ, List.getElem_cons_zero, List.setIfInBounds_toArray, List.set_cons_zero, List.set_cons_succ]
      have c1 := cell_of_row _ _ 0 _ _ _ hS.out.k0
      have c2 := frozen_of_row _ _ 0 _ _ hS.out.k0
      refine wpAnyL_ready (rs := [10]) (by kernel_rfl) (by simp) ?_
      refine AllReadyL.cons rfl (fun K hK => ?_) AllReadyL.nil
      go_simp
      replace hS := hid (hS.out.setBlk hbt 0 (.slice (some ⟨gq, 0, none⟩) (tq.length + 1) cq))
      clear c1 c2
      refine hK.out _ _ (HeldL.cons (fun h => absurd h (by decide +kernel)) HeldL.nil) (fun hHeld' => ?_)
      clear hK K hHeld; have hHeld := hHeld'; clear hHeld'
      try simp only [Act.put, List.getElem_toArray, List.getElem_cons_succ, List.getElem_cons_zero, List.setIfInBounds_toArray, List.set_cons_zero, List.set_cons_succ]
      refine wpAnyL_done (by kernel_rfl) ?_ _
      go_end0
      exact ⟨rfl, _, _, hS.out⟩
  · rw [if_neg hneg] at hm1
    rw [hm1]
    go_enter Try.func75, Try.ntmps75
    go_wp2
    go_end0
    exact ⟨rfl, _, _, hS.out⟩
end Go.Proofs.Ytgpjcekpmhfljaa
