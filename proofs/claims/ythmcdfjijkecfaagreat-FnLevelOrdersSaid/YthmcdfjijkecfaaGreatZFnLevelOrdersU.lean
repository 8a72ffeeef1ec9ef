/- What the proof of FnLevelOrders leans on, part 21 of 21. -/
import Derived.Test.YthmcdfjijkecfaaGreatZFnLevelOrdersT
import Derived.Shelf.SortM.Plain
import Derived.Shelf.SortM.SortNone
import Derived.Sort.OwnSortedInts
import Derived.Deep.CutBlock
/- slices.Sort over []int64. -/
namespace Go.Proofs.YthmcdfjijkecfaaGreat
open Go.RowKit
set_option linter.unusedVariables false
set_option linter.unusedSimpArgs false

def srt (l : List Int) : List Int := l.mergeSort fun x y => decide (x ≤ y)
theorem srt_perm (l : List Int) : (srt l).Perm l := List.mergeSort_perm _ _
theorem srt_length (l : List Int) : (srt l).length = l.length := (srt_perm l).length_eq
theorem srt_sorted (l : List Int) : (srt l).Pairwise (· ≤ ·) := by
  have h := List.pairwise_mergeSort (le := fun x y : Int => decide (x ≤ y)) (fun a b c h1 h2 => by simp at *; omega) (fun a b => by simp; omega) l
  exact h.imp fun h => by simpa using h
theorem srt_eq {l l' : List Int} (hp : l'.Perm l) (hs : l'.Pairwise (· ≤ ·)) : l' = srt l :=
  List.Perm.eq_of_pairwise (le := (· ≤ ·)) (fun a b _ _ h1 h2 => Int.le_antisymm h1 h2) hs (srt_sorted l) (hp.trans (srt_perm l).symm)
/-- Where a number goes in. -/
def insA (x : Int) : List Int → Nat
  | [] => 0
  | y :: l => if y ≤ x then insA x l + 1 else 0
theorem insA_le (x : Int) : ∀ l, insA x l ≤ l.length
  | [] => Nat.le_refl _
  | y :: l => by
    have := insA_le x l
    unfold insA; split <;> simp <;> omega
theorem insA_lt {x : Int} : ∀ {l : List Int} {j : Nat}, j < insA x l → ∃ y, l[j]? = some y ∧ y ≤ x
  | [], j, h => absurd h (Nat.not_lt_zero _)
  | y :: l, j, h => by
    unfold insA at h
    split at h
    · rename_i hy
      cases j with
      | zero => exact ⟨y, rfl, hy⟩
      | succ j => exact insA_lt (l := l) (j := j) (by omega)
    · exact absurd h (Nat.not_lt_zero _)
theorem insA_at {x : Int} : ∀ {l : List Int}, insA x l < l.length → ∃ y, l[insA x l]? = some y ∧ ¬ y ≤ x
  | [], h => absurd h (Nat.not_lt_zero _)
  | y :: l, h => by
    by_cases hy : y ≤ x
    · have e : insA x (y :: l) = insA x l + 1 := by rw [insA, if_pos hy]
      rw [e] at h ⊢
      exact insA_at (l := l) (by simpa using h)
    · have e : insA x (y :: l) = 0 := by rw [insA, if_neg hy]
      rw [e]
      exact ⟨y, rfl, hy⟩
def insX (x : Int) (l : List Int) : List Int := l.take (insA x l) ++ x :: l.drop (insA x l)
theorem insX_perm (x : Int) (l : List Int) : (insX x l).Perm (x :: l) := by
  have h : (l.take (insA x l) ++ x :: l.drop (insA x l)).Perm (x :: (l.take (insA x l) ++ l.drop (insA x l))) := List.perm_middle
  rw [List.take_append_drop] at h
  exact h
theorem insX_sorted {x : Int} {l : List Int} (h : l.Pairwise (· ≤ ·)) : (insX x l).Pairwise (· ≤ ·) := by
  have hl := h
  rw [← List.take_append_drop (insA x l) l, List.pairwise_append] at hl
  obtain ⟨h1, h2, h3⟩ := hl
  have ht : ∀ y ∈ l.take (insA x l), y ≤ x := fun y hy => by
    obtain ⟨j, hj, rfl⟩ := List.getElem_of_mem hy
    have hj' : j < insA x l := by rw [List.length_take] at hj; omega
    obtain ⟨z, hz, hzx⟩ := insA_lt hj'
    rw [List.getElem_take]
    have := List.getElem?_eq_some_iff.1 hz
    obtain ⟨_, e⟩ := this
    rw [e]; exact hzx
  have hd : ∀ y ∈ l.drop (insA x l), x ≤ y := fun y hy => by
    by_cases hlt : insA x l < l.length
    · obtain ⟨z, hz, hzx⟩ := insA_at hlt
      have e : l.drop (insA x l) = z :: l.drop (insA x l + 1) := by
        obtain ⟨_, e⟩ := List.getElem?_eq_some_iff.1 hz
        rw [← e]; exact List.drop_eq_getElem_cons hlt
      rw [e] at hy h2
      rcases List.mem_cons.1 hy with rfl | hy
      · omega
      · have := (List.pairwise_cons.1 h2).1 y hy; omega
    · rw [List.drop_eq_nil_of_le (by omega)] at hy; cases hy
  unfold insX
  rw [List.pairwise_append]
  refine ⟨h1, List.pairwise_cons.2 ⟨hd, h2⟩, fun a ha b hb => ?_⟩
  rcases List.mem_cons.1 hb with rfl | hb
  · exact ht a ha
  · exact h3 a ha b hb
theorem insX_length (x : Int) (l : List Int) : (insX x l).length = l.length + 1 := by rw [(insX_perm x l).length_eq]; rfl
/-- The first k numbers of a list, put in one after the other. -/
def insL (l : List Int) : Nat → List Int
  | 0 => []
  | k + 1 => match l[k]? with
    | some x => insX x (insL l k)
    | none => insL l k
theorem insL_step {l : List Int} {k : Nat} {x : Int} (h : l[k]? = some x) : insL l (k + 1) = insX x (insL l k) := by rw [insL, h]
theorem insL_ok (l : List Int) : ∀ k, k ≤ l.length → (insL l k).Perm (l.take k) ∧ (insL l k).Pairwise (· ≤ ·)
  | 0, _ => ⟨by simp [insL], List.Pairwise.nil⟩
  | k + 1, hk => by
    obtain ⟨h1, h2⟩ := insL_ok l k (by omega)
    have hx : l[k]? = some l[k] := List.getElem?_eq_getElem (by omega)
    rw [insL_step hx]
    refine ⟨(insX_perm _ _).trans ?_, insX_sorted h2⟩
    rw [List.take_add_one, hx]
    exact ((h1.cons _).trans (List.perm_append_singleton _ _).symm)
theorem insL_len (l : List Int) (k : Nat) (hk : k ≤ l.length) : (insL l k).length = k := by rw [(insL_ok l k hk).1.length_eq, List.length_take]; omega
theorem insL_srt (l : List Int) : insL l l.length = srt l := by
  obtain ⟨h1, h2⟩ := insL_ok l l.length (Nat.le_refl _)
  rw [List.take_length] at h1
  exact srt_eq h1 h2
section
open Go.Shelf
def srtL_ren : Go.Shelf.Ren := ⟨fun | 5 => 197 | 8 => 236 | 7 => 235 | 19 => 260 | 20 => 261 | 10 => 251 | 11 => 252 | 12 => 253 | 13 => 254 | 14 => 255 | 15 => 256 | 16 => 257 | 17 => 258 | 18 => 259 | 30 => 269 | 31 => 270 | 32 => 271 | 33 => 272 | 34 => 273 | 35 => 274 | 40 => 275 | n => n, fun | 23 => 32 | 25 => 2 | 3 => 3 | 32 => 143 | 22 => 32 | 0 => 0 | 44 => 249 | 46 => 51 | 4 => 4 | 36 => 242 | 35 => 241 | 41 => 246 | 5 => 5 | 9 => 9 | 53 => 258 | 57 => 262 | 63 => 264 | 64 => 265 | n => n, fun | n => n⟩
theorem srtL : Go.Proofs.SlLaysM.n5 Tryz.prog srtL_ren := {
  mixed := by kernel_rfl
  f5 := ⟨Tryz.f197.name, by decide, Tryz.func197.trans (congrArg some (by kernel_rfl))⟩
  f7 := ⟨Tryz.f235.name, by decide, Tryz.func235.trans (congrArg some (by kernel_rfl))⟩
  f8 := Tryz.func236.trans (congrArg some (by kernel_rfl))
  f10 := ⟨Tryz.f251.name, by decide, Tryz.func251.trans (congrArg some (by kernel_rfl))⟩
  f11 := ⟨Tryz.f252.name, by decide, Tryz.func252.trans (congrArg some (by kernel_rfl))⟩
  f12 := ⟨Tryz.f253.name, by decide, Tryz.func253.trans (congrArg some (by kernel_rfl))⟩
  f13 := ⟨Tryz.f254.name, by decide, Tryz.func254.trans (congrArg some (by kernel_rfl))⟩
  f14 := ⟨Tryz.f255.name, by decide, Tryz.func255.trans (congrArg some (by kernel_rfl))⟩
  f15 := ⟨Tryz.f256.name, by decide, Tryz.func256.trans (congrArg some (by kernel_rfl))⟩
  f16 := ⟨Tryz.f257.name, by decide, Tryz.func257.trans (congrArg some (by kernel_rfl))⟩
  f17 := ⟨Tryz.f258.name, by decide, Tryz.func258.trans (congrArg some (by kernel_rfl))⟩
  f18 := ⟨Tryz.f259.name, by decide, Tryz.func259.trans (congrArg some (by kernel_rfl))⟩
  f19 := Tryz.func260.trans (congrArg some (by kernel_rfl))
  f20 := Tryz.func261.trans (congrArg some (by kernel_rfl))
  f30 := ⟨Tryz.f269.name, by decide, Tryz.func269.trans (congrArg some (by kernel_rfl))⟩
  f31 := Tryz.func270.trans (congrArg some (by kernel_rfl))
  f32 := Tryz.func271.trans (congrArg some (by kernel_rfl))
  f33 := ⟨Tryz.f272.name, by decide, Tryz.func272.trans (congrArg some (by kernel_rfl))⟩
  f34 := ⟨Tryz.f273.name, by decide, Tryz.func273.trans (congrArg some (by kernel_rfl))⟩
  f35 := ⟨Tryz.f274.name, by decide, Tryz.func274.trans (congrArg some (by kernel_rfl))⟩
  f40 := ⟨Tryz.f275.name, by decide, Tryz.func275.trans (congrArg some (by kernel_rfl))⟩
  t0 := Tryz.underlying0
  a0 := Tryz.isAgg0
  z0 := Tryz.sizeOf0
  v0 := Tryz.zeroValue0
  t3 := Tryz.underlying3
  a3 := Tryz.isAgg3
  z3 := Tryz.sizeOf3
  v3 := Tryz.zeroValue3
  t4 := Tryz.underlying4
  a4 := Tryz.isAgg4
  z4 := Tryz.sizeOf4
  v4 := Tryz.zeroValue4
  t5 := Tryz.underlying5
  a5 := Tryz.isAgg5
  z5 := Tryz.sizeOf5
  v5 := Tryz.zeroValue5
  t9 := Tryz.underlying9
  a9 := Tryz.isAgg9
  z9 := Tryz.sizeOf9
  v9 := Tryz.zeroValue9
  t22 := Tryz.underlying32
  a22 := Tryz.isAgg32
  z22 := Tryz.sizeOf32
  v22 := Tryz.zeroValue32
  t23 := Tryz.underlying32
  a23 := Tryz.isAgg32
  z23 := Tryz.sizeOf32
  v23 := Tryz.zeroValue32
  t25 := Tryz.underlying2
  a25 := Tryz.isAgg2
  z25 := Tryz.sizeOf2
  v25 := Tryz.zeroValue2
  t32 := Tryz.underlying143
  a32 := Tryz.isAgg143
  z32 := Tryz.sizeOf143
  v32 := Tryz.zeroValue143
  t35 := Tryz.underlying241
  a35 := Tryz.isAgg241
  z35 := Tryz.sizeOf241
  v35 := Tryz.zeroValue241
  t36 := Tryz.underlying242
  a36 := Tryz.isAgg242
  z36 := Tryz.sizeOf242
  v36 := Tryz.zeroValue242
  t41 := Tryz.underlying246
  a41 := Tryz.isAgg246
  z41 := Tryz.sizeOf246
  v41 := Tryz.zeroValue246
  t44 := Tryz.underlying249
  a44 := Tryz.isAgg249
  z44 := Tryz.sizeOf249
  v44 := Tryz.zeroValue249
  t46 := Tryz.underlying51
  a46 := Tryz.isAgg51
  z46 := Tryz.sizeOf51
  v46 := Tryz.zeroValue51
  t53 := Tryz.underlying258
  a53 := Tryz.isAgg258
  z53 := Tryz.sizeOf258
  v53 := Tryz.zeroValue258
  t57 := Tryz.underlying262
  a57 := Tryz.isAgg262
  z57 := Tryz.sizeOf262
  v57 := Tryz.zeroValue262
  t63 := Tryz.underlying264
  a63 := Tryz.isAgg264
  z63 := Tryz.sizeOf264
  v63 := Tryz.zeroValue264
  t64 := Tryz.underlying265
  a64 := Tryz.isAgg265
  z64 := Tryz.sizeOf265
  v64 := Tryz.zeroValue265 }
end
theorem slSort_st {base : Nat} {w0 : World} {L : List Asn} {W : World} {v : Value} {l : List Int} (h : St base w0 (Asn.own base 2 v (ints l) :: L) W) (hl : l.length < 1000000) :
    Calls Tryz.prog 197 #[v] W fun e w' => e = .returned (.tuple #[]) ∧ St base w0 (Asn.own base 2 v (ints (srt l)) :: L) w' := by
  have hO : W.ownsRow base 2 1 v (ints l).length (ints l) := h.o0
  have hil := ints_length l
  rcases hO.2 with ⟨rfl, hn⟩ | ⟨g, cap, cur, rfl, hg, hb, h1, h2, h3, h4⟩
  · have e : l = [] := by cases l with
      | nil => rfl
      | cons a t => simp [ints] at hn
    subst e
    have hc := AnyM.slices_Sort_int_none srtL none 0 W
    change Calls Tryz.prog 197 _ _ _ at hc
    refine hc.mono ?_
    rintro e w' ⟨rfl, rfl⟩
    exact ⟨rfl, by rw [show srt [] = [] by simp [srt]]; exact h⟩
  · rw [hil] at h1 h4 h ⊢
    rw [Nat.mul_one] at h4
    have hc := AnyM.slices_Sort_int srtL g 0 cap l W (holds_of_blockI hb h4) (Array.getElem?_eq_some_iff.1 hb).1 (by omega)
    change Calls Tryz.prog 197 _ _ _ at hc
    refine hc.mono ?_
    rintro e w' ⟨rfl, n, os, rfl⟩
    have hs := ownsRow_sortedI (n := n) (os := os) (ts := srt l) (srt_length l) hg hb h1 h2 h3
    have hgr := grownBy_sortedI (w := W) (g := g) (n := n) (os := os) (srt l).toArray
    refine ⟨rfl, h.turn (a' := Asn.own base 2 (.slice (some ⟨g, 0, none⟩) l.length cap) (ints (srt l))) ?_ (fun k hk => .inl ?_) (fun k hk => ?_) ?_ (fun k hk hne => ?_)⟩
    · show Own _ _ _ _ _
      unfold Own
      rw [ints_length, srt_length]
      exact hs
    · have e : g = k := by simpa [Asn.own, Value.ownBlock] using hk
      show Value.ownBlock _ = some k
      rw [← e]; rfl
    · have e : g = k := by
        have := hk
        simpa [Asn.own, Value.ownBlock] using this
      omega
    · exact ⟨hgr.os, hgr.tape, hgr.output, hgr.size, fun k hk => hgr.block k (by have := (Array.getElem?_eq_some_iff.1 hb).1; omega) (fun e => by injection e with e; omega)⟩
    · exact hgr.block k hk fun e => hne (by injection e with e; subst e; rfl)
end Go.Proofs.YthmcdfjijkecfaaGreat

/- Cycles and orders of permutations: the program. -/
namespace Go.Proofs.YthmcdfjijkecfaaGreat
open Go.RowKit
set_option linter.unusedVariables false
set_option linter.unusedSimpArgs false
-- @LONG

/-- The cycles' lengths, ascending. -/
def cysI (p : List Nat) : List Int := srt ((cyc p).map Int.ofNat)
set_option maxHeartbeats 4000000 in
set_option maxRecDepth 100000 in
theorem cycles_any (w : World) (b0 : Nat) (v : Value) (p : List Nat) (h : Own w b0 2 v (nats p)) (hn : p.length ≤ 1000) (hlt : ∀ x, x < p.length → p.getD x 0 < p.length) :
    Calls Tryz.prog 102 #[v] w fun e w' => ∃ v', e = .returned v' ∧ Own w' w.heap.size 2 v' (ints (cysI p)) ∧ Below w.heap.size w w' := by
  have hil := nats_length p
  obtain ⟨A, cp, rfl, _, hA⟩ := h.form
  rw [hil] at h ⊢
  have hpg := hid (fun (x : Nat) (hx : x < p.length) => (show (nats p)[x]? = some (.int .i64 ((p.getD x 0 : Nat) : Int)) from by simp [nats, List.getD_eq_getElem?_getD, List.getElem?_eq_getElem hx]))
  have hplt := hid (fun (x : Nat) (hx : x < p.length) => hlt x hx)
  have hA2 := hid (fun (hx : 0 < p.length) => (show ∃ gp, A = some ⟨gp, 0, none⟩ from by
    rcases hA with ⟨_, h1, _⟩ | ⟨g, h1, _⟩
    · have : p.length = 0 := by rw [← hil, h1]; rfl
      omega
    · exact ⟨g, h1⟩))
  have hmk := fun W : World => run_make_row' (P := Tryz.prog) 53 4 (.bool false) 1 Tryz.underlying53 info_bool rfl .i64 .i64 p.length (by omega) (by omega) W
  have hmc := hid (toList_madeCells_one (.bool false) p.length)
  generalize madeCells #[.bool false] p.length = mc at *
  have hmcs := hid (show mc.size = p.length by rw [← Array.length_toList, hmc.out, List.length_replicate])
  have hS := (St.arg w h).newArr mc p.length hmcs.out 4 (by omega)
  rw [hmc.out] at hS
  have hrep : List.replicate p.length (Value.bool false) = bls (cyst p 0).1 := by simp [bls, cyst]
  rw [hrep] at hS
  replace hS := hid hS
  have hcl := hid (cyst_len p)
  have hco := hid (cyst_out p)
  have hcs := hid (fun k => (show cyst p (k + 1) = ((crun p (cyst p k).1 k).1, if 0 < (crun p (cyst p k).1 k).2 then (cyst p k).2 ++ [(crun p (cyst p k).1 k).2] else (cyst p k).2) from rfl))
  have hcb := hid (fun k => (show (crun p (cyst p k).1 k).2 ≤ p.length from by have h := crun_le p (cyst p k).1 k; rw [cyst_len] at h; exact h))
  have hseen := hid (fun s a (h : s[a]? = some true) => crun_seen (p := p) h)
  have hnew := hid (fun s a (h : s[a]? = some false) => crun_new (p := p) h)
  have hresult := hid (show (cyst p p.length).2 = cyc p from rfl)
  clear hA hil hlt hrep hmc h
  generalize hN : p.length = N at *
  replace hN := hid hN
  have hS2 := hS.out.nilOwn 2
  replace hS := hid hS2.f1
  clear hS2
  have hs0 := hid (show nats (cyst p 0).2 = [] from rfl)
  have hni := hid (nats_ints (cyc p))
  have hcyl := hid (show (cyc p).length ≤ N from by rw [← hresult.out]; exact hco.out N)
  have hsrt := hid (fun W (vo : Value) (L : List Asn) (hS : St w.heap.size w (Asn.own w.heap.size 2 vo (ints ((cyc p).map Int.ofNat)) :: L) W) => slSort_st hS (by rw [List.length_map]; have := hcyl.out; omega))
  have hci := hid (show srt ((cyc p).map Int.ofNat) = cysI p from rfl)
  go_enter Tryz.func102, Tryz.ntmps102
  go_wp2
  go_loopw [4, 13] (fun o i wr => ∃ (k : Nat) (vo : Value), k ≤ N ∧ i = .int .i64 k ∧ vo = o ∧ St w.heap.size w [Asn.own w.heap.size 4 (.slice (some ⟨w.heap.size, 0, none⟩) N N) (bls (cyst p k).1), Asn.own w.heap.size 2 vo (nats (cyst p k).2), Asn.own 0 2 (.slice A N cp) (nats p)] wr) (fun _ i _ => N - (intOf i).toNat)
  case atStart => exact ⟨0, _, Nat.zero_le _, rfl, rfl, by rw [hs0.out]; exact hS.out⟩
  case round =>
    obtain ⟨k, vo, hk, rfl, rfl, rS⟩ := hrel
    clear hS
    replace rS := hid rS
    by_cases hlk : k < N
    · have dk : decide ((k : Int) < (N : Int)) = true := decide_eq_true (by omega)
      obtain ⟨gp, rfl⟩ := hA2.out (by omega)
      clear hsrt
      go_wp2
      go_loopw [6, 7] (fun c a wr => ∃ (x C : Nat) (s : List Bool), c = .int .i64 C ∧ a = .int .i64 x ∧ x < N ∧ s.length = N ∧ Hid ((crun p s x).1 = (crun p (cyst p k).1 k).1 ∧ C + (crun p s x).2 = (crun p (cyst p k).1 k).2) ∧ St w.heap.size w [Asn.own w.heap.size 4 (.slice (some ⟨w.heap.size, 0, none⟩) N N) (bls s), Asn.own w.heap.size 2 vo (nats (cyst p k).2), Asn.own 0 2 (.slice (some ⟨gp, 0, none⟩) N cp) (nats p)] wr) (fun c _ _ => (crun p (cyst p k).1 k).2 - (intOf c).toNat)
      case atStart => exact ⟨k, 0, (cyst p k).1, rfl, rfl, hlk, hcl.out k, hid ⟨rfl, Nat.zero_add _⟩, rS.out⟩
      case round =>
        obtain ⟨x, C, s, rfl, rfl, hx, hsl, hr, rS⟩ := hrel
        have x0 : (0 : Int) ≤ (x : Int) := Int.natCast_nonneg _
        have x1 : (x : Int) < (N : Int) := by omega
        have hblen := hid (show (bls s).length = N by rw [bls_length]; exact hsl)
        by_cases hb : s[x]? = some true
        · have cs := rS.o0.cellAt x _ (bls_get hb)
          have hr2 := hr.out
          rw [hseen.out s x hb] at hr2
          obtain ⟨e1, e2⟩ := hr2
          dsimp only at e1 e2
          rw [Nat.add_zero] at e2
          replace e1 := hid e1; replace e2 := hid e2
          clear hb hr
          rw [e1.out] at rS
          replace rS := hid rS
          by_cases hz : 0 < (crun p (cyst p k).1 k).2
          · have hk1 := hid (hcs.out k)
            rw [if_pos hz] at hk1
            have hcb2 := hcb.out k
            have hol := hid (hco.out k)
            have hol2 := hid (nats_length (cyst p k).2)
            have hol3 := hol.out
            generalize hcr : crun p (cyst p k).1 k = R at *
            replace hcr := hid hcr
            have dz : decide (0 < (C : Int)) = true := decide_eq_true (by have := e2.out; omega)
            have dn : decide (0 < C) = true := decide_eq_true (by have := e2.out; omega)
            generalize hq : (cyst p k) = Q at *
            replace hq := hid hq
            go_wp2_with (first
              | ((with_reducible refine gate (N := 36) rfl ?_); refine St.app 32 2 (.int .i64 0) 8 Tryz.underlying32 info_i64 rfl (by omega) rfl _ _ rfl _ _ rfl rS.out.f1 _ rfl rfl Q.2.length hol2.out (by omega) ?_; intro gn cn w5 rS'; replace rS := hid rS'.f1; clear rS'))
            go_roundw
            case rel => exact ⟨k + 1, _, by omega, by go_num, rfl, by rw [hk1.out]; dsimp only; rw [nats_snoc, ← e2.out]; exact rS.out⟩
            case measure => simp [intOf]; omega
          · have hk1 := hid (hcs.out k)
            rw [if_neg hz] at hk1
            generalize hcr : crun p (cyst p k).1 k = R at *
            replace hcr := hid hcr
            have dz : decide (0 < (C : Int)) = false := decide_eq_false (by have := e2.out; omega)
            have dn : decide (0 < C) = false := decide_eq_false (by have := e2.out; omega)
            generalize hq : (cyst p k) = Q at *
            replace hq := hid hq
            go_wp2
            go_roundw
            case rel => exact ⟨k + 1, _, by omega, by go_num, rfl, by rw [hk1.out]; exact rS.out⟩
            case measure => simp [intOf]; omega
        · have hb2 := get_bool (by omega) hb
          have cs := rS.o0.cellAt x _ (bls_get hb2)
          have fs := Own.frozenAt rS.o0 hblen.out x
          have hr2 := hr.out
          rw [hnew.out s x hb2] at hr2
          have hbnd := hcb.out k
          have hpx := hplt.out x hx
          have hcp := hid (hpg.out x hx)
          have hset := hid (bls_set s x true)
          have hsl2 := hid (show (s.set x true).length = N by rw [List.length_set]; exact hsl)
          generalize hS1 : (crun p (cyst p k).1 k).1 = S1 at *
          generalize hC1 : (crun p (cyst p k).1 k).2 = C1 at *
          replace hS1 := hid hS1; replace hC1 := hid hC1
          generalize p.getD x 0 = px at *
          generalize s.set x true = s2 at *
          obtain ⟨e1, e2⟩ := hr2
          dsimp only at e1 e2
          generalize hcr : crun p s2 px = R at *
          replace hcr := hid hcr; replace e1 := hid e1
          clear hb hb2 hr
          replace rS := hid rS
          have mk : True := trivial
          go_wp2_with (first
            | ((with_reducible refine gate (N := 25) rfl ?_); clear mk; replace rS := hid (rS.out.setOwn hblen.out x (.bool true) hx); rw [hset.out] at rS; (have ck := rS.out.o2.cellAt x _ hcp.out); generalize wr.setCell _ _ = wx at *))
          go_roundw
          case rel => exact ⟨px, C + 1, s2, by go_num, rfl, hpx, hsl2.out, hid ⟨by rw [hcr.out]; exact e1.out, by rw [hcr.out]; omega⟩, rS.out⟩
          case measure => simp [intOf]; omega
    · obtain rfl : k = N := by omega
      have dk : decide ((k : Int) < (k : Int)) = false := decide_eq_false (by omega)
      replace rS := hid rS.out.f1
      rw [hresult.out, hni.out] at rS
      go_wp2_with (first
        | (go_at_call 197; (with_reducible refine (hsrt.out _ _ _ rS.out).mono ?_); rintro e w2 ⟨rfl, rS'⟩; replace rS := hid rS'; clear rS' hsrt))
      go_ret
      exact ⟨_, rfl, by rw [← hci.out]; exact rS.out.o0, rS.out.bel⟩
theorem cysI_nat (p : List Nat) : ∃ q : List Nat, cysI p = q.map Int.ofNat ∧ q.Perm (cyc p) := by
  have hp : (cysI p).Perm ((cyc p).map Int.ofNat) := List.mergeSort_perm _ _
  refine ⟨(cysI p).map Int.toNat, ?_, ?_⟩
  · rw [List.map_map]
    have : ∀ x ∈ cysI p, (Int.ofNat ∘ Int.toNat) x = x := fun x hx => by
      obtain ⟨c, _, rfl⟩ := List.mem_map.1 (hp.mem_iff.1 hx)
      rfl
    rw [List.map_congr_left this, List.map_id']
  · have h := hp.map Int.toNat
    rw [List.map_map] at h
    have e : (Int.toNat ∘ Int.ofNat) = (id : Nat → Nat) := funext fun x => rfl
    rw [e, List.map_id] at h
    exact h
theorem ordL_take {q : List Nat} {k c : Nat} (h : q[k]? = some c) : ordL (q.take (k + 1)) = Nat.lcm (ordL (q.take k)) c := by
  unfold ordL
  rw [List.take_add_one, h]
  simp
set_option maxHeartbeats 4000000 in
set_option maxRecDepth 100000 in
theorem order_any (w : World) (b0 : Nat) (v : Value) (p : List Nat) (h : Own w b0 2 v (nats p)) (hn : p.length ≤ 1000) (hlt : ∀ x, x < p.length → p.getD x 0 < p.length) (K : Nat) (hK0 : 0 < K) (hK : K < 1000000000) (hdv : ∀ c ∈ cyc p, c ∣ K) :
    Calls Tryz.prog 100 #[v] w fun e w' => e = .returned (.int .i64 (ordL (cyc p) : Nat)) ∧ Below w.heap.size w w' := by
  have hcy := hid (cycles_any w b0 v p h hn hlt)
  obtain ⟨q, hq, hqp⟩ := cysI_nat p
  rw [hq, ← nats_ints] at hcy
  have hord := hid (show ordL (cyc p) = ordL (q.take q.length) from by rw [List.take_length]; exact ordL_congr fun c => hqp.mem_iff.symm)
  rw [hord.out]
  have hqb := hid (fun k c (hc : q[k]? = some c) => (show 0 < c from by
    have hm := hqp.mem_iff.1 (List.mem_of_getElem? hc)
    exact (cyst_pos p p.length c hm).1))
  have hqd := hid (fun k => (show ordL (q.take k) ∣ K from ordL_dvd fun c hc => hdv c (hqp.mem_iff.1 (List.mem_of_mem_take hc))))
  have hpos := hid (fun k => Nat.pos_of_dvd_of_pos (hqd.out k) hK0)
  have hle := hid (fun k => Nat.le_of_dvd hK0 (hqd.out k))
  have hst := hid (fun k c (hc : q[k]? = some c) => ordL_take hc)
  have hl := hid (nats_length q)
  have hql : q.length ≤ 1000 := by rw [hqp.length_eq]; have := cyst_out p p.length; unfold cyc; omega
  have hmu := hid (fun k c (hc : q[k]? = some c) W => (by
    have h := multiple_any (ordL (q.take k)) c (hpos.out k) (hqb.out k c hc) (by rw [← hst.out k c hc]; have := hle.out (k + 1); omega) W
    rw [← hst.out k c hc] at h; exact h : Calls Tryz.prog 196 #[.int .i64 (ordL (q.take k) : Nat), .int .i64 (c : Nat)] W fun e w' => e = .returned (.int .i64 (ordL (q.take (k + 1)) : Nat)) ∧ Below W.heap.size W w'))
  have h0 := hid (show ordL (q.take 0) = 1 from rfl)
  have hng := hid (fun (k c : Nat) (hc : q[k]? = some c) => (show (nats q)[k]? = some (.int .i64 (c : Nat)) by simp [nats, hc]))
  obtain ⟨F, hF⟩ : ∃ F : Nat → Nat, F = fun k => ordL (q.take k) := ⟨_, rfl⟩
  have hFe := hid (fun k => (show ordL (q.take k) = F k by rw [hF]))
  simp only [hFe.out] at hmu h0 hle ⊢
  clear hF hFe hst hord hqd hpos hqb h
  generalize hN : q.length = N at *
  replace hN := hid hN
  go_enter Tryz.func100, Tryz.ntmps100
  go_wp2_with (first
    | (go_at_call 102; (with_reducible refine (hcy.out).mono ?_); rintro e w1 ⟨v1, rfl, hO, hb⟩; obtain ⟨A, cp, rfl, _, hA⟩ := hO.form; rw [hl.out]; rw [hl.out] at hO; replace hO := hid hO; replace hA := hid hA; have hB := hid hb; clear hcy hb))
  go_loopw [3, 9] (fun o i wr => ∃ k : Nat, k ≤ N ∧ i = .int .i64 k ∧ o = .int .i64 (F k : Nat) ∧ Hid (Below w1.heap.size w1 wr)) (fun _ i _ => N - (intOf i).toNat)
  case atStart => exact ⟨0, Nat.zero_le _, rfl, by rw [h0.out]; rfl, Below.refl _ _⟩
  case round =>
    obtain ⟨k, hk, rfl, rfl, rB⟩ := hrel
    by_cases hlt : k < N
    · have dk : decide ((k : Int) < (N : Int)) = true := decide_eq_true (by omega)
      obtain ⟨c, hc⟩ : ∃ c, q[k]? = some c := ⟨_, List.getElem?_eq_getElem (by rw [hN.out]; exact hlt)⟩
      obtain ⟨g, rfl⟩ : ∃ g, A = some ⟨g, 0, none⟩ := by
        rcases hA.out with ⟨_, h1, _⟩ | ⟨g, h1, _⟩
        · have : N = 0 := by rw [← hl.out, h1]; rfl
          omega
        · exact ⟨g, h1⟩
      have ck := (hO.out.below rB.out).cellAt k _ (hng.out k c hc)
      have hmk := hid (hmu.out k c hc)
      generalize hfk1 : F (k + 1) = fk1 at *
      replace hfk1 := hid hfk1
      generalize F k = fk at *
      clear hc
      go_wp2_with (first
        | (go_at_call 196; (with_reducible refine (hmk.out _).mono ?_); rintro e w2 ⟨rfl, hb⟩; replace rB := hid (rB.out.trans (hb.mono rB.out.size)); clear hb))
      go_roundw
      case rel => exact ⟨k + 1, by omega, by go_num, by rw [hfk1.out], rB⟩
      case measure => simp [intOf]; omega
    · obtain rfl : k = N := by omega
      have dk : decide ((k : Int) < (k : Int)) = false := decide_eq_false (by omega)
      go_wp2
      go_ret
      exact ⟨rfl, hB.out.trans (rB.out.mono hB.out.size)⟩
end Go.Proofs.YthmcdfjijkecfaaGreat

/- OrderOnLevel: what the program and the reference answer. -/
namespace Go.Proofs.YthmcdfjijkecfaaGreat
open Go.RowKit
set_option linter.unusedVariables false
set_option linter.unusedSimpArgs false
-- @LONG

theorem aut_imgW {m : Mach} {l s : Nat} (gd : Good m l s) {g : List Int} (hg : ∀ k ∈ g, isNum s k) (n : Nat) : Aut l (imgW m l s g) n where
  len := fun u _ _ => imgW_length u g
  lt := fun u hu _ => imgW_lt gd u g hg hu
  pre := fun u x _ _ _ => ⟨_, imgW_snoc u x g⟩
  inj := fun u v hu hv _ _ e => imgW_inj gd u v g hg hu hv e
theorem permW_K {m : Mach} {l s n : Nat} (gd : Good m l s) {g : List Int} (hg : ∀ k ∈ g, isNum s k) (hn : n ≤ 5) : 0 < bk l ^ n ∧ bk l ^ n < 1000000000 ∧ (∀ c ∈ cyc (permW m l s g n), c ∣ bk l ^ n) ∧ (∀ x, x < (permW m l s g n).length → (permW m l s g n).getD x 0 < (permW m l s g n).length) := by
  have l2 := gd.l2; have l3 := gd.l3
  have hd : l = 2 ∨ l = 3 := by omega
  have hp := pmF_pm (n := n) (by omega) (aut_imgW gd hg n)
  refine ⟨?_, ?_, fun c hc => cyc_dvd hp (fun x hx => pmF_back hd (aut_imgW gd hg n) (by rw [pmF_length] at hx; exact hx)) hc, hp.lt⟩
  · have : n = 0 ∨ n = 1 ∨ n = 2 ∨ n = 3 ∨ n = 4 ∨ n = 5 := by omega
    rcases hd with rfl | rfl <;> rcases this with rfl | rfl | rfl | rfl | rfl | rfl <;> decide
  · have : n = 0 ∨ n = 1 ∨ n = 2 ∨ n = 3 ∨ n = 4 ∨ n = 5 := by omega
    rcases hd with rfl | rfl <;> rcases this with rfl | rfl | rfl | rfl | rfl | rfl <;> decide
theorem cyst_sub (p : List Nat) (k : Nat) (hk : k ≤ p.length) {c : Nat} (hc : c ∈ (cyst p k).2) : c ∈ cyc p := by
  have h : ∀ j, c ∈ (cyst p (k + j)).2 := by
    intro j
    induction j with
    | zero => exact hc
    | succ j ih =>
      show c ∈ (cyst p (k + j + 1)).2
      rw [cyst]; dsimp only
      split
      · exact List.mem_append.2 (.inl ih)
      · exact ih
  have := h (p.length - k)
  rw [show k + (p.length - k) = p.length by omega] at this
  exact this
theorem cyst_lcm (p : List Nat) (k : Nat) (hz : 0 < (crun p (cyst p k).1 k).2) : ordL (cyst p (k + 1)).2 = Nat.lcm (ordL (cyst p k).2) (crun p (cyst p k).1 k).2 := by
  rw [cyst]; dsimp only
  rw [if_pos hz]
  simp [ordL]
theorem cyst_lcm0 (p : List Nat) (k : Nat) (hz : (crun p (cyst p k).1 k).2 = 0) : ordL (cyst p (k + 1)).2 = ordL (cyst p k).2 := by
  rw [cyst]; dsimp only
  rw [if_neg (by omega)]
open Classical in
/-- What OrderOnLevel answers. -/
noncomputable def orlAns (m : Mach) (g : List Int) (n : Int) : Int × Int := if (polAns m g n).2 = 0 then (((ordL (cyc (polAns m g n).1) : Nat) : Int), 0) else (0, (polAns m g n).2)
set_option maxHeartbeats 4000000 in
set_option maxRecDepth 100000 in
theorem implOrl_any (w : World) (m : Mach) (hkm : m.Ok) (b0 : Nat) (v : Value) (g : List Int) (hg : Own w b0 2 v (ints g)) (hl : g.length < 2000000) (n : Int) :
    Calls Tryz.prog 36 #[.agg (mcells m), v, .int .i64 n] w fun e w' => e = .returned (.tuple #[.int .i64 (orlAns m g n).1, .int .i64 (orlAns m g n).2]) ∧ Below w.heap.size w w' := by
  have hS := hid ((St.arg w hg).newMB m 27)
  have hpo := hid (fun W (hO : Own W 0 2 v (ints g)) => implPol_any W m hkm 0 v g hO hl n)
  rcases polAns_cases m g n with ⟨h, hp⟩ | ⟨h, hp⟩ | ⟨l, s, n, gd, hgw, rfl, h5, hp⟩
  · have hA : orlAns m g n = (0, 1) := by unfold orlAns; rw [h, if_neg (by decide)]
    rw [hA]
    rw [hp] at hpo
    replace hkm := hid hkm; replace hg := hid hg; clear h hp hA
    go_enter Tryz.func36, Tryz.ntmps36
    go_wp2_with (first
      | ((with_reducible refine gate (N := 11) rfl ?_); refine load_mach rfl _ rfl w.heap.size rfl m hS.out.m0 ?_)
      | (go_at_call 123; (with_reducible refine (hpo.out _ hS.out.o1).mono ?_); rintro e w1 ⟨v1, rfl, hO, hb⟩; replace hS := hid (hS.out.call hb); clear hb hO hpo))
    go_ret2
    exact ⟨rfl, hS.out.bel⟩
  · have hA : orlAns m g n = (0, 2) := by unfold orlAns; rw [h, if_neg (by decide)]
    rw [hA]
    rw [hp] at hpo
    replace hkm := hid hkm; replace hg := hid hg; clear h hp hA
    go_enter Tryz.func36, Tryz.ntmps36
    go_wp2_with (first
      | ((with_reducible refine gate (N := 11) rfl ?_); refine load_mach rfl _ rfl w.heap.size rfl m hS.out.m0 ?_)
      | (go_at_call 123; (with_reducible refine (hpo.out _ hS.out.o1).mono ?_); rintro e w1 ⟨v1, rfl, hO, hb⟩; replace hS := hid (hS.out.call hb); clear hb hO hpo))
    go_ret2
    exact ⟨rfl, hS.out.bel⟩
  · have hA : orlAns m g n = (((ordL (cyc (permW m l s g n)) : Nat) : Int), 0) := by unfold orlAns; rw [hp, if_pos rfl]
    rw [hA]
    rw [hp] at hpo
    have hgn : ∀ k ∈ g, isNum s k := by have h := hgw.2.2; rw [gd.S] at h; exact h
    obtain ⟨hK0, hK, hdv, hlt⟩ := permW_K (n := n) gd hgn h5
    replace hgn := hid hgn
    have hM := pw_five gd.l2 gd.l3 h5
    have hor := hid (fun W b v (hO : Own W b 2 v (nats (permW m l s g n))) => order_any W b v (permW m l s g n) hO (by rw [permW_length]; omega) hlt _ hK0 hK hdv)
    replace hkm := hid hkm; replace hg := hid hg; replace gd := hid gd; replace hgw := hid hgw; clear hp hA hK0 hK hdv hlt
    generalize ordL (cyc (permW m l s g n)) = R at *
    generalize permW m l s g n = p at *
    go_enter Tryz.func36, Tryz.ntmps36
    go_wp2_with (first
      | ((with_reducible refine gate (N := 11) rfl ?_); refine load_mach rfl _ rfl w.heap.size rfl m hS.out.m0 ?_)
      | (go_at_call 123; (with_reducible refine (hpo.out _ hS.out.o1).mono ?_); rintro e w1 ⟨v1, rfl, hO, hb⟩; replace hS := hid (hS.out.callOwn hb hO); clear hb hO hpo)
      | (go_at_call 100; (with_reducible refine (hor.out _ _ _ hS.out.o0).mono ?_); rintro e w3 ⟨rfl, hb⟩; replace hS := hid (hS.out.call hb); clear hb))
    go_ret2
    exact ⟨rfl, hS.out.bel⟩
set_option maxHeartbeats 8000000 in
set_option maxRecDepth 100000 in
theorem specOrl_any (w0 : World) (m : Mach) (hkm : m.Ok) (b0 : Nat) (v : Value) (g : List Int) (hg : Own w0 b0 2 v (ints g)) (hl : g.length < 2000000) (n : Int) :
    Calls Tryz.prog 37 #[.agg (mcells m), v, .int .i64 n] w0 fun e w' => e = .returned (.tuple #[.int .i64 (orlAns m g n).1, .int .i64 (orlAns m g n).2]) ∧ Below w0.heap.size w0 w' := by
  have hS := hid ((St.arg w0 hg).newMB m 27)
  have hpo := hid (fun W (hO : Own W 0 2 v (ints g)) => l04Code_any W m hkm 0 v g hO hl n)
  rcases polAns_cases m g n with ⟨h, hp⟩ | ⟨h, hp⟩ | ⟨l, s, n, gd, hgw, rfl, h5, hp⟩
  · have hA : orlAns m g n = (0, 1) := by unfold orlAns; rw [h, if_neg (by decide)]
    rw [hA]
    rw [hp] at hpo
    replace hkm := hid hkm; replace hg := hid hg; clear h hp hA
    go_enter Tryz.func37, Tryz.ntmps37
    go_wp2_with (first
      | ((with_reducible refine gate (N := 15) rfl ?_); refine load_mach rfl _ rfl w0.heap.size rfl m hS.out.m0 ?_)
      | (go_at_call 124; (with_reducible refine (hpo.out _ hS.out.o1).mono ?_); rintro e w1 ⟨rfl, hb⟩; replace hS := hid (hS.out.call hb); clear hpo; clear hb))
    go_ret2
    exact ⟨rfl, hS.out.bel⟩
  · have hA : orlAns m g n = (0, 2) := by unfold orlAns; rw [h, if_neg (by decide)]
    rw [hA]
    rw [hp] at hpo
    replace hkm := hid hkm; replace hg := hid hg; clear h hp hA
    go_enter Tryz.func37, Tryz.ntmps37
    go_wp2_with (first
      | ((with_reducible refine gate (N := 15) rfl ?_); refine load_mach rfl _ rfl w0.heap.size rfl m hS.out.m0 ?_)
      | (go_at_call 124; (with_reducible refine (hpo.out _ hS.out.o1).mono ?_); rintro e w1 ⟨rfl, hb⟩; replace hS := hid (hS.out.call hb); clear hpo; clear hb))
    go_ret2
    exact ⟨rfl, hS.out.bel⟩
  · have hA : orlAns m g n = (((ordL (cyc (permW m l s g n)) : Nat) : Int), 0) := by unfold orlAns; rw [hp, if_pos rfl]
    rw [hA]
    rw [hp] at hpo
    have hgn : ∀ k ∈ g, isNum s k := by have h := hgw.2.2; rw [gd.S] at h; exact h
    obtain ⟨hK0, hK, hdv, hlt⟩ := permW_K (n := n) gd hgn h5
    replace hgn := hid hgn
    have hM := pw_five gd.l2 gd.l3 h5
    have hll := hid (fun W (hO : Own W 0 2 v (ints g)) => l02Level_any W m hkm l s gd 0 v g hO hgn.out (by have := hgw.2.1; omega) n (by omega) (by omega))
    have hpl : (permW m l s g n).length ≤ 243 := by rw [permW_length]; exact hM
    replace hkm := hid hkm; replace hg := hid hg; replace gd := hid gd; replace hgw := hid hgw; clear hp hA
    generalize permW m l s g n = p at *
    have hqd := hid (fun k (hk : k ≤ p.length) => (show ordL (cyst p k).2 ∣ bk l ^ n from ordL_dvd fun c hc => hdv c (cyst_sub p k hk hc)))
    generalize bk l ^ n = K at *
    have hle := hid (fun k (hk : k ≤ p.length) => (show ordL (cyst p k).2 ≤ K from Nat.le_of_dvd hK0 (hqd.out k hk)))
    have hst := hid (fun k (hz : 0 < (crun p (cyst p k).1 k).2) => (show ordL (cyst p (k + 1)).2 = Nat.lcm (ordL (cyst p k).2) (crun p (cyst p k).1 k).2 from cyst_lcm p k hz))
    have hst0 := hid (fun k (hz : (crun p (cyst p k).1 k).2 = 0) => (show ordL (cyst p (k + 1)).2 = ordL (cyst p k).2 from cyst_lcm0 p k hz))
    have hlst := hid (fun k c => lcm_step (ordL (cyst p k).2) c)
    have hgp0 := hid (fun k (hk : k ≤ p.length) c => Nat.gcd_pos_of_pos_left c (Nat.pos_of_dvd_of_pos (hqd.out k hk) hK0))
    have hdl := hid (fun k c => Nat.div_le_self (ordL (cyst p k).2) (Nat.gcd (ordL (cyst p k).2) c))
    have hdi := hid (fun k (hk : k ≤ p.length) (c : Nat) (hc : c ≤ 243) W => l06Divisor_any (ordL (cyst p k).2) c (by have := hle.out k hk; omega) (by omega) W)
    have h0 := hid (show ordL (cyst p 0).2 = 1 from rfl)
    have hord := hid (show ordL (cyst p p.length).2 = ordL (cyc p) from rfl)
    rw [← hord.out]
    obtain ⟨F, hF⟩ : ∃ F : Nat → Nat, F = fun k => ordL (cyst p k).2 := ⟨_, rfl⟩
    have hFe := hid (fun k => (show ordL (cyst p k).2 = F k by rw [hF]))
    simp only [hFe.out] at hdi h0 hle hlst hgp0 hdl hst hst0 ⊢
    clear hF hFe hord hqd
    go_enter Tryz.func37, Tryz.ntmps37
    go_upto_region 5 with (first
      | ((with_reducible refine gate (N := 15) rfl ?_); refine load_mach rfl _ rfl w0.heap.size rfl m hS.out.m0 ?_)
      | ((with_reducible refine gate (N := 22) rfl ?_); refine load_mach rfl _ rfl w0.heap.size rfl m hS.out.m0 ?_)
      | (go_at_call 124; (with_reducible refine (hpo.out _ hS.out.o1).mono ?_); rintro e w1 ⟨rfl, hb⟩; replace hS := hid (hS.out.call hb); clear hb)
      | (go_at_call 125; (with_reducible refine (hll.out _ hS.out.o1).mono ?_); rintro e w ⟨vq, rfl, h, hb⟩; have hB := hid (hS.out.call hb).bel; clear hb hS))
    clear hpo hll hg hkm hdv gd hgw
    have hil := nats_length p
    obtain ⟨A, cp, rfl, _, hA⟩ := h.form
    rw [hil] at h ⊢
    have hpg := hid (fun (x : Nat) (hx : x < p.length) => (show (nats p)[x]? = some (.int .i64 ((p.getD x 0 : Nat) : Int)) from by simp [nats, List.getD_eq_getElem?_getD, List.getElem?_eq_getElem hx]))
    have hplt := hid (fun (x : Nat) (hx : x < p.length) => hlt x hx)
    have hA2 := hid (fun (hx : 0 < p.length) => (show ∃ gp, A = some ⟨gp, 0, none⟩ from by
      rcases hA with ⟨_, h1, _⟩ | ⟨g, h1, _⟩
      · have : p.length = 0 := by rw [← hil, h1]; rfl
        omega
      · exact ⟨g, h1⟩))
    have hmk := fun W : World => run_make_row' (P := Tryz.prog) 53 4 (.bool false) 1 Tryz.underlying53 info_bool rfl .i64 .i64 p.length (by omega) (by omega) W
    have hmc := hid (toList_madeCells_one (.bool false) p.length)
    generalize madeCells #[.bool false] p.length = mc at *
    have hmcs := hid (show mc.size = p.length by rw [← Array.length_toList, hmc.out, List.length_replicate])
    have hS := (St.arg w h).newArr mc p.length hmcs.out 4 (by omega)
    rw [hmc.out] at hS
    have hrep : List.replicate p.length (Value.bool false) = bls (cyst p 0).1 := by simp [bls, cyst]
    rw [hrep] at hS
    replace hS := hid hS
    have hcl := hid (cyst_len p)
    have hco := hid (cyst_out p)
    have hcs := hid (fun k => (show cyst p (k + 1) = ((crun p (cyst p k).1 k).1, if 0 < (crun p (cyst p k).1 k).2 then (cyst p k).2 ++ [(crun p (cyst p k).1 k).2] else (cyst p k).2) from rfl))
    have hcb := hid (fun k => (show (crun p (cyst p k).1 k).2 ≤ p.length from by have h := crun_le p (cyst p k).1 k; rw [cyst_len] at h; exact h))
    have hseen := hid (fun s a (h : s[a]? = some true) => crun_seen (p := p) h)
    have hnew := hid (fun s a (h : s[a]? = some false) => crun_new (p := p) h)
    have hresult := hid (show (cyst p p.length).2 = cyc p from rfl)
    clear hA hil hlt hrep hmc h
    generalize hN : p.length = N at *
    replace hN := hid hN
    have hS2 := hS.out.nilOwn 2
    replace hS := hid hS2.f1
    clear hS2
    go_wp2
    go_loopw [10, 12] (fun o i wr => ∃ k : Nat, k ≤ N ∧ i = .int .i64 k ∧ o = .int .i64 (F k : Nat) ∧ St w.heap.size w [Asn.own w.heap.size 4 (.slice (some ⟨w.heap.size, 0, none⟩) N N) (bls (cyst p k).1), Asn.own w.heap.size 2 (.slice none 0 0) [], Asn.own 0 2 (.slice A N cp) (nats p)] wr) (fun _ i _ => N - (intOf i).toNat)
    case atStart => exact ⟨0, Nat.zero_le _, rfl, by rw [h0.out]; rfl, hS.out⟩
    case round =>
      obtain ⟨k, hk, rfl, rfl, rS⟩ := hrel
      clear hS
      replace rS := hid rS
      by_cases hlk : k < N
      · have dk : decide ((k : Int) < (N : Int)) = true := decide_eq_true (by omega)
        obtain ⟨gp, rfl⟩ := hA2.out (by omega)
        go_wp2
        go_loopw [13, 14] (fun c a wr => ∃ (x C : Nat) (s : List Bool), c = .int .i64 C ∧ a = .int .i64 x ∧ x < N ∧ s.length = N ∧ Hid ((crun p s x).1 = (crun p (cyst p k).1 k).1 ∧ C + (crun p s x).2 = (crun p (cyst p k).1 k).2) ∧ St w.heap.size w [Asn.own w.heap.size 4 (.slice (some ⟨w.heap.size, 0, none⟩) N N) (bls s), Asn.own w.heap.size 2 (.slice none 0 0) [], Asn.own 0 2 (.slice (some ⟨gp, 0, none⟩) N cp) (nats p)] wr) (fun c _ _ => (crun p (cyst p k).1 k).2 - (intOf c).toNat)
        case atStart => exact ⟨k, 0, (cyst p k).1, rfl, rfl, hlk, hcl.out k, hid ⟨rfl, Nat.zero_add _⟩, rS.out⟩
        case round =>
          obtain ⟨x, C, s, rfl, rfl, hx, hsl, hr, rS⟩ := hrel
          have x0 : (0 : Int) ≤ (x : Int) := Int.natCast_nonneg _
          have x1 : (x : Int) < (N : Int) := by omega
          have hblen := hid (show (bls s).length = N by rw [bls_length]; exact hsl)
          by_cases hb : s[x]? = some true
          · have cs := rS.o0.cellAt x _ (bls_get hb)
            have hr2 := hr.out
            rw [hseen.out s x hb] at hr2
            obtain ⟨e1, e2⟩ := hr2
            dsimp only at e1 e2
            rw [Nat.add_zero] at e2
            replace e1 := hid e1; replace e2 := hid e2
            clear hb hr
            rw [e1.out] at rS
            replace rS := hid rS
            have rT := rS
            by_cases hz : 0 < (crun p (cyst p k).1 k).2
            · have hk1 := hid (hcs.out k)
              rw [if_pos hz] at hk1
              have hcb2 := hcb.out k
              have hdk := hid (hdi.out k (by omega) C)
              have hgpk := hgp0.out k (by omega) C
              have hs1 := hst.out k
              rw [← e2.out] at hz hs1 hcb2
              replace hs1 := hs1 hz
              have hs2 := hlst.out k C
              have hs3 := hdl.out k C
              have hfl := hle.out k (by omega)
              have hfl1 := hle.out (k + 1) (by omega)
              rw [← hs1] at hs2
              have hdkk := hid (hdk.out (by omega))
              generalize hcr : crun p (cyst p k).1 k = R at *
              replace hcr := hid hcr
              have dz : decide (0 < (C : Int)) = true := decide_eq_true (by omega)
              have dn : decide (0 < C) = true := decide_eq_true (by omega)
              generalize hq : (cyst p k) = Q at *
              replace hq := hid hq
              generalize hfk1 : F (k + 1) = fk1 at *
              replace hfk1 := hid hfk1
              generalize F k = fk at *
              clear hdk
              generalize Nat.gcd fk C = G at *
              have dz1 : ¬ (G : Int) = 0 := by omega
              have dz2 : ((G : Int) == 0) = false := by simp; omega
              have m1 : Int.tdiv (fk : Int) (G : Int) = ((fk / G : Nat) : Int) := by rw [Int.tdiv_eq_ediv_of_nonneg (by omega)]; omega
              have m2 : (fk : Int) / (G : Int) = ((fk / G : Nat) : Int) := by omega
              generalize fk / G = qq at *
              have e3 : (qq : Int) * (C : Int) = (fk1 : Int) := by rw [← hs2]; simp
              have ew : IntKind.i64.wrap (qq : Int) = qq := IntWalk.i64_in _ (by omega)
              have ew2 : IntKind.i64.wrap (fk1 : Int) = fk1 := IntWalk.i64_in _ (by omega)
              have ew3 : wrap64 (fk1 : Int) = fk1 := w64 (by omega) (by omega)
              clear hs1 hs2
              go_wp2_with (first
                | (go_at_call 126; (with_reducible refine (hdkk.out _).mono ?_); rintro e w5 ⟨rfl, d, rfl⟩; replace rT := hid (rT.out.drewN d)))
              go_roundw
              case rel => exact ⟨k + 1, by omega, by go_num, by rw [hfk1.out], by rw [hk1.out]; exact rT.out⟩
              case measure => simp [intOf]; omega
            · have hk1 := hid (hcs.out k)
              rw [if_neg hz] at hk1
              have hs1 := hid (hst0.out k (by omega))
              generalize hcr : crun p (cyst p k).1 k = R at *
              replace hcr := hid hcr
              have dz : decide (0 < (C : Int)) = false := decide_eq_false (by have := e2.out; omega)
              have dn : decide (0 < C) = false := decide_eq_false (by have := e2.out; omega)
              generalize hq : (cyst p k) = Q at *
              replace hq := hid hq
              go_wp2
              go_roundw
              case rel => exact ⟨k + 1, by omega, by go_num, by rw [hs1.out], by rw [hk1.out]; exact rT.out⟩
              case measure => simp [intOf]; omega
          · have hb2 := get_bool (by omega) hb
            have cs := rS.o0.cellAt x _ (bls_get hb2)
            have fs := Own.frozenAt rS.o0 hblen.out x
            have hr2 := hr.out
            rw [hnew.out s x hb2] at hr2
            have hbnd := hcb.out k
            have hpx := hplt.out x hx
            have hcp := hid (hpg.out x hx)
            have hset := hid (bls_set s x true)
            have hsl2 := hid (show (s.set x true).length = N by rw [List.length_set]; exact hsl)
            generalize hS1 : (crun p (cyst p k).1 k).1 = S1 at *
            generalize hC1 : (crun p (cyst p k).1 k).2 = C1 at *
            replace hS1 := hid hS1; replace hC1 := hid hC1
            generalize p.getD x 0 = px at *
            generalize s.set x true = s2 at *
            obtain ⟨e1, e2⟩ := hr2
            dsimp only at e1 e2
            generalize hcr : crun p s2 px = R at *
            replace hcr := hid hcr; replace e1 := hid e1
            clear hb hb2 hr
            replace rS := hid rS
            have mk : True := trivial
            go_wp2_with (first
              | ((with_reducible refine gate (N := 44) rfl ?_); clear mk; replace rS := hid (rS.out.setOwn hblen.out x (.bool true) hx); rw [hset.out] at rS; (have ck := rS.out.o2.cellAt x _ hcp.out); generalize wr.setCell _ _ = wx at *))
            go_roundw
            case rel => exact ⟨px, C + 1, s2, by go_num, rfl, hpx, hsl2.out, hid ⟨by rw [hcr.out]; exact e1.out, by rw [hcr.out]; omega⟩, rS.out⟩
            case measure => simp [intOf]; omega
      · obtain rfl : k = N := by omega
        have dk : decide ((k : Int) < (k : Int)) = false := decide_eq_false (by omega)
        go_wp2
        go_ret2
        exact ⟨by rw [hN.out]; rfl, hB.out.trans (rS.out.bel.mono hB.out.size)⟩
end Go.Proofs.YthmcdfjijkecfaaGreat

/- Orders on levels and periods: the plain laws. -/
namespace Go.Proofs.YthmcdfjijkecfaaGreat
open Go.RowKit
set_option linter.unusedVariables false
set_option linter.unusedSimpArgs false

/-- The order leads each number back. -/
theorem ord_back {p : List Nat} (h : IsPm p) {x : Nat} (hx : x < p.length) : itp p (ordL (cyc p)) x = x := by
  obtain ⟨c, hc, hy⟩ := cyc_all h hx
  obtain ⟨j, hj⟩ := (show c ∣ ordL (cyc p) from ordL_mem hc)
  rw [hj, Nat.mul_comm]
  exact itp_mul hy.back j
section
variable {d n : Nat} {F : List Nat → List Nat}
/-- What leads all numbers of a level back is a multiple of the order. -/
theorem ord_dvd (hd : 0 < d) (h : Aut d F n) {K : Nat} (hK : ∀ u : List Nat, u.length = n → (∀ x ∈ u, x < d) → itF F K u = u) : ordL (cyc (pmF d F n)) ∣ K :=
  ordL_dvd fun c hc => cyc_dvd (pmF_pm hd h) (fun x hx => by
    rw [pmF_length] at hx
    rw [pmF_it hd h hx, hK _ (wrd_length d n x) (wrd_lt d hd n x), num_wrd d hd n x hx]) hc
theorem ord_word (hd : 0 < d) (h : Aut d F n) {u : List Nat} (hl : u.length = n) (hu : ∀ x ∈ u, x < d) : itF F (ordL (cyc (pmF d F n))) u = u := by
  have hk := num_lt d n u hl hu
  have h1 := ord_back (pmF_pm hd h) (x := num d u) (by rw [pmF_length]; exact hk)
  rw [pmF_it hd h hk, wrd_num d hd n u hl hu] at h1
  have h2 := (h.it (ordL (cyc (pmF d F n)))).len u hu (by omega)
  have h3 := (h.it (ordL (cyc (pmF d F n)))).lt u hu (by omega)
  rw [← wrd_num d hd n _ (h2.trans hl) h3, h1, wrd_num d hd n u hl hu]
/-- The order on a level divides that on the next. -/
theorem ord_next (hd : 0 < d) (h : Aut d F (n + 1)) (h' : Aut d F n) : ordL (cyc (pmF d F n)) ∣ ordL (cyc (pmF d F (n + 1))) := by
  refine ord_dvd hd h' fun u hl hu => ?_
  have hm : ∀ x ∈ u ++ [0], x < d := fun x hx => (List.mem_append.1 hx).elim (hu x) fun hx => by rw [List.mem_singleton.1 hx]; exact hd
  have h1 := ord_word hd h (u := u ++ [0]) (by simp [hl]) hm
  obtain ⟨y, hy⟩ := (h.it (ordL (cyc (pmF d F (n + 1))))).pre u 0 hu hd (by omega)
  rw [h1] at hy
  have := (h.it (ordL (cyc (pmF d F (n + 1))))).len u hu (by omega)
  exact (List.append_inj hy this.symm).1.symm
theorem ord_pos (hd : d = 2 ∨ d = 3) (h : Aut d F n) : 0 < ordL (cyc (pmF d F n)) := by
  have h1 := ord_dvd (K := bk d ^ n) (by omega) h fun u hl hu => aut_back hd h n u hl (Nat.le_refl n) hu
  refine Nat.pos_of_dvd_of_pos h1 (Nat.pow_pos ?_)
  rcases hd with rfl | rfl <;> decide
end
section
variable {m : Mach} {l s : Nat} {g : List Int} {u : List Nat}
theorem itW_itF : ∀ k, itW m l s g u k = itF (imgW m l s g) k u
  | 0 => rfl
  | k + 1 => by rw [itW, itW_itF k]; rfl
theorem per_dvd (gd : Good m l s) (hg : ∀ k ∈ g, isNum s k) (hu : ∀ x ∈ u, x < l) {K : Nat} (hK : itW m l s g u K = u) : per m l s g u ∣ K := by
  have hb := (per_back gd hg hu).1
  have hp := per_pos (m := m) (l := l) (s := s) (g := g) (u := u)
  have hm : ∀ j, itF (imgW m l s g) (j * per m l s g u) u = u := by
    intro j
    induction j with
    | zero => rw [Nat.zero_mul]; rfl
    | succ j ih => rw [Nat.succ_mul, Nat.add_comm, itF_add, ih, ← itW_itF]; exact hb
  have h1 : itF (imgW m l s g) (K % per m l s g u + (K / per m l s g u) * per m l s g u) u = u := by
    rw [show K % per m l s g u + (K / per m l s g u) * per m l s g u = K by have := Nat.div_add_mod K (per m l s g u); rw [Nat.mul_comm] at this; omega, ← itW_itF]
    exact hK
  rw [itF_add, hm] at h1
  rcases Nat.eq_zero_or_pos (K % per m l s g u) with h0 | h0
  · exact Nat.dvd_of_mod_eq_zero h0
  · exact absurd (by rw [itW_itF]; exact h1) (per_min h0 (Nat.mod_lt _ hp))
theorem per_one (h : imgW m l s g u = u) (hl : 0 < pw l u.length) : per m l s g u = 1 := by
  apply Classical.byContradiction
  intro hn
  have := per_pos (m := m) (l := l) (s := s) (g := g) (u := u)
  exact per_min (Nat.le_refl 1) (by omega) h
end
theorem lets_length (ws : ByteArray) : (lets ws).length = ws.size := by unfold lets; rw [List.length_map, Array.length_toList]; rfl
theorem fixS_mem (P : Nat → Nat) (l n : Nat) {r : ByteArray} : ∀ {M : Nat}, r ∈ fixS P l n M → ∃ j, j < M ∧ P j = j ∧ r = wstr (wrd l n j)
  | 0, h => by cases h
  | M + 1, h => by
    rw [fixS] at h
    split at h
    · rename_i hP
      rcases List.mem_append.1 h with h | h
      · obtain ⟨j, h1, h2⟩ := fixS_mem P l n h
        exact ⟨j, by omega, h2⟩
      · exact ⟨M, by omega, hP, List.mem_singleton.1 h⟩
    · obtain ⟨j, h1, h2⟩ := fixS_mem P l n h
      exact ⟨j, by omega, h2⟩
theorem lets_of_wstr {u : List Nat} (hu : ∀ x ∈ u, x < 200) : lets (wstr u) = u := by
  apply List.ext_getElem (by rw [lets_length, wstr_size])
  intro i h1 h2
  have hb := wstr_byte u i (by rw [wstr_size]; exact h2) hu
  have h1' : i < ((wstr u).data.toList.map fun b : UInt8 => b.toNat - 48).length := h1
  show ((wstr u).data.toList.map fun b : UInt8 => b.toNat - 48)[i]'h1' = u[i]
  rw [List.getElem_map, Array.getElem_toList]
  have e : ((wstr u).data[i]'(by rw [lets_length] at h1; exact h1)).toNat = 48 + u.getD i 0 := by
    have : (wstr u)[i]'(by rw [wstr_size]; exact h2) = (wstr u).data[i]'(by rw [lets_length] at h1; exact h1) := rfl
    rw [← this]; first | exact hb | (have := hb; omega)
  rw [e, List.getD_eq_getElem?_getD, List.getElem?_eq_getElem h2]
  simp
theorem IsWd_wstr {l : Nat} {u : List Nat} (hu : ∀ x ∈ u, x < l) (hl : l ≤ 3) (hn : u.length ≤ 40) : IsWd l (wstr u) := by
  refine ⟨by rw [wstr_size]; exact hn, fun k hk => ?_⟩
  have hb := wstr_byte u k hk (fun x hx => by have := hu x hx; omega)
  have hx := hu _ (getD_mem u k (by rw [wstr_size] at hk; exact hk))
  have : ((wstr u)[k]'hk).toNat = 48 + u.getD k 0 := by first | exact hb | (have := hb; omega)
  omega
/-- What the period of a word has to do with the order on its level. -/
theorem perAns_ord {m : Mach} {g : List Int} {ws : ByteArray} (h : (perAns m g ws).2 = 0) : ws.size ≤ 5 ∧ ∃ p K : Nat, 0 < p ∧ p ≤ 243 ∧ K < 1000000000 ∧ (perAns m g ws).1 = p ∧ orlAns m g (ws.size : Nat) = (((K : Nat) : Int), 0) ∧ p ∣ K := by
  by_cases hgw : IsGw m g
  · obtain ⟨l, s, gd⟩ := hgw.1.good
    by_cases hw : IsWd l ws
    · by_cases h5 : ws.size ≤ 5
      · have hn : ∀ k ∈ g, isNum s k := by have h := hgw.2.2; rw [gd.S] at h; exact h
        have hul : (lets ws).length = ws.size := lets_length ws
        have hu : ∀ x ∈ lets ws, x < l := (lets_wstr ws hw).2.1
        have l2 := gd.l2; have l3 := gd.l3
        have haut := aut_imgW gd hn ws.size
        have hpb := per_back gd hn hu
        have hK := ord_word (by omega) haut hul hu
        refine ⟨h5, per m l s g (lets ws), ordL (cyc (permW m l s g ws.size)), per_pos, ?_, ?_, by rw [perAns_0 gd hgw hw h5], ?_, ?_⟩
        · have := hpb.2; rw [hul] at this; exact Nat.le_trans this (pw_five l2 l3 h5)
        · obtain ⟨h1, h2, h3, _⟩ := permW_K gd hn h5
          exact Nat.lt_of_le_of_lt (Nat.le_of_dvd h1 (ordL_dvd h3)) h2
        · unfold orlAns; rw [polAns_0 gd hgw h5, if_pos rfl]
        · exact per_dvd gd hn hu (by rw [itW_itF]; exact hK)
      · rw [perAns_2 gd hgw hw h5] at h; cases h
    · rw [perAns_w gd hw] at h; cases h
  · rw [perAns_1 hgw] at h; cases h
/-- The orders on levels. -/
theorem orlAns_ord {m : Mach} {g : List Int} {n : Int} (h : (orlAns m g n).2 = 0) : 0 ≤ n ∧ n ≤ 5 ∧ ∃ K : Nat, 0 < K ∧ K < 1000000000 ∧ (orlAns m g n).1 = K ∧ (n < 5 → ∃ K' : Nat, K' < 1000000000 ∧ orlAns m g (n + 1) = (((K' : Nat) : Int), 0) ∧ K ∣ K') ∧ (∀ r ∈ (folAns m g n).1, r.size ≤ 5 ∧ perAns m g r = (1, 0)) := by
  have hp : (polAns m g n).2 = 0 := by
    unfold orlAns at h
    by_cases hp : (polAns m g n).2 = 0
    · exact hp
    · rw [if_neg hp] at h; exact h
  rcases polAns_cases m g n with ⟨h1, _⟩ | ⟨h1, _⟩ | ⟨l, s, n, gd, hgw, rfl, h5, hp2⟩
  · rw [h1] at hp; cases hp
  · rw [h1] at hp; cases hp
  · have hn : ∀ k ∈ g, isNum s k := by have h := hgw.2.2; rw [gd.S] at h; exact h
    have l2 := gd.l2; have l3 := gd.l3
    have hlt : ∀ n, n ≤ 5 → ordL (cyc (permW m l s g n)) < 1000000000 := fun n h5 => by
      obtain ⟨h1, h2, h3, _⟩ := permW_K gd hn h5
      exact Nat.lt_of_le_of_lt (Nat.le_of_dvd h1 (ordL_dvd h3)) h2
    refine ⟨by omega, by omega, ordL (cyc (permW m l s g n)), ord_pos (by omega) (aut_imgW gd hn n), hlt n h5, by unfold orlAns; rw [polAns_0 gd hgw h5, if_pos rfl], fun h4 => ?_, fun r hr => ?_⟩
    · refine ⟨ordL (cyc (permW m l s g (n + 1))), hlt (n + 1) (by omega), ?_, ord_next (by omega) (aut_imgW gd hn (n + 1)) (aut_imgW gd hn n)⟩
      have := polAns_0 (n := n + 1) gd hgw (by omega)
      rw [Int.natCast_add, Int.natCast_one] at this
      unfold orlAns; rw [this, if_pos rfl]
    · rw [folAns_0 gd hp] at hr
      obtain ⟨j, hj, hjj, rfl⟩ := fixS_mem _ _ _ hr
      have hwl := wrd_length l n j
      have hwm := wrd_lt l (by omega) n j
      have hsz : (wstr (wrd l n j)).size = n := by rw [wstr_size, hwl]
      have hiw : IsWd l (wstr (wrd l n j)) := IsWd_wstr hwm (by omega) (by omega)
      have hle : lets (wstr (wrd l n j)) = wrd l n j := lets_of_wstr (fun x hx => by have := hwm x hx; omega)
      refine ⟨by omega, ?_⟩
      rw [perAns_0 gd hgw hiw (by omega), hle]
      have himg : imgW m l s g (wrd l n j) = wrd l n j := by
        have h1 := imgW_lt gd (wrd l n j) g hn hwm
        have h2 : (imgW m l s g (wrd l n j)).length = n := by rw [imgW_length, hwl]
        have h3 : num l (imgW m l s g (wrd l n j)) = j := hjj
        rw [← wrd_num l (by omega) n _ h2 h1, h3]
      rw [per_one himg (pw_pos l (by omega) _)]
      rfl
theorem folAns_bad {m : Mach} {g : List Int} {n : Int} (h : (orlAns m g n).2 ≠ 0) : (orlAns m g n).1 = 0 ∧ (folAns m g n).1 = [] := by
  have hp : (polAns m g n).2 ≠ 0 := fun hp => h (by unfold orlAns; rw [if_pos hp])
  refine ⟨by unfold orlAns; rw [if_neg hp], ?_⟩
  rw [folAns_n rfl hp]
end Go.Proofs.YthmcdfjijkecfaaGreat

/- FnLevelOrders: the walk. -/
namespace Go.Proofs.YthmcdfjijkecfaaGreat
open Go.RowKit
set_option linter.unusedVariables false
set_option linter.unusedSimpArgs false
-- @LONG

set_option maxHeartbeats 20000000 in
set_option maxRecDepth 100000 in
theorem orders_law (w : World) (v : Value) (l : List Nat) (hv : ArgB w v l) :
    Calls Tryz.prog 5 #[v] w fun e w' => e = .returned (.bool true) ∧ Below w.heap.size w w' := by
  have hbg := hid (big_any w v l hv)
  by_cases hl : l.length ≤ 4096
  · have dl : decide (4096 < l.length) = false := decide_eq_false (by omega)
    rw [dl] at hbg
    have hdr := hid (fun W (hW : Below w.heap.size w W) => drOrl_any W v l (hv.below hW) hl)
    have hdr2 := hid (fun W (hW : Below w.heap.size w W) => drPer_any W v l (hv.below hW) hl)
    have hio := hid implOrl_any
    have hso := hid specOrl_any
    have hif := hid implFol_any
    have hsf := hid specFol_any
    have hip := hid implPer_any
    have hsp := hid specPer_any
    have htx := hid texts9_any
    have hs0 := hid (St.start w)
    have hz := zeroM_run
    have hz2 := hid (fun L W (h : St w.heap.size w L W) => h.newMB zeroM 27)
    have hcy := hid (fun (x : Int) => (show (x != x) = false by simp))
    replace hv := hid hv
    obtain ⟨A, c, rfl, _⟩ := hv.out
    go_enter Tryz.func5, Tryz.ntmps5
    go_upto_region 6 with (first
      | (go_at_call 8; (with_reducible refine (hbg.out).mono ?_); rintro e w1 ⟨rfl, rfl⟩)
      | (go_at_call 35; (with_reducible refine (hdr.out _ (Below.refl _ _)).mono ?_); rintro e w1 ⟨m, u, g, n, rfl, hF, hO, hb⟩; have hle := hid hb.size; replace hS := hid (hz2.out _ _ (hs0.out.callOwn hb hO)); clear hb hO)
      | ((with_reducible refine gateOp (op := .store 27 (.tmp 3) (.tmp 33)) rfl ?_); refine store_mach rfl _ _ rfl w1.heap.size rfl m rfl 27 _ hS.out.m0 ?_; intro w2 p3 ho hsz hbl; replace hS := hid (hS.out.setM hle.out p3 ho hbl); clear p3 ho hsz hbl)
      | ((with_reducible refine gate (N := 37) rfl ?_); refine load_mach rfl _ rfl w1.heap.size rfl m hS.out.m0 ?_)
      | (go_at_call 36; (with_reducible refine (hio.out _ m hF.out.1.ok _ _ g hS.out.o1 (by have := hF.out.2.1; omega) n).mono ?_); rintro e w3 ⟨rfl, hb⟩; replace hS := hid (hS.out.call hb); clear hb)
      | ((with_reducible refine gate (N := 44) rfl ?_); refine load_mach rfl _ rfl w1.heap.size rfl m hS.out.m0 ?_)
      | (go_at_call 37; (with_reducible refine (hso.out _ m hF.out.1.ok _ _ g hS.out.o1 (by have := hF.out.2.1; omega) n).mono ?_); rintro e w4 ⟨rfl, hb⟩; replace hS := hid (hS.out.call hb); clear hb))
    have hL1 := hid (fun h => orlAns_ord (m := m) (g := g) (n := n) h)
    have hL2 := hid (fun h => folAns_bad (m := m) (g := g) (n := n) h)
    have q1 := hcy.out (orlAns m g n).1
    have q2 := hcy.out (orlAns m g n).2
    generalize (orlAns m g n).1 = kv at *
    generalize (orlAns m g n).2 = kc at *
    generalize w1.heap.size = b3 at *
    go_upto_region 10 with (first
      | ((with_reducible refine gate (N := 59) rfl ?_); refine load_mach rfl _ rfl b3 rfl m hS.out.m0 ?_)
      | (go_at_call 38; (with_reducible refine (hif.out _ m hF.out.1.ok _ _ g hS.out.o1 (by have := hF.out.2.1; omega) n).mono ?_); rintro e w5 ⟨v1, rfl, hO, hb⟩; replace hS := hid (hS.out.callOwn hb hO); clear hb hO)
      | ((with_reducible refine gate (N := 66) rfl ?_); refine load_mach rfl _ rfl b3 rfl m hS.out.m1 ?_)
      | (go_at_call 39; (with_reducible refine (hsf.out _ m hF.out.1.ok _ _ g hS.out.o2 (by have := hF.out.2.1; omega) n).mono ?_); rintro e w6 ⟨v2, rfl, hO, hb⟩; replace hS := hid (hS.out.callOwn hb hO); clear hb hO))
    have q3 := hcy.out (folAns m g n).2
    have hMl := hid (folAns_len m g n)
    generalize (folAns m g n).1 = M at *
    generalize (folAns m g n).2 = fc at *
    clear q1 q2
    go_upto_region 15 with (first
      | (go_at_call 40; (with_reducible refine (htx.out _ _ _ _ _ M hS.out.o1 hS.out.o0 (by have := hMl.out; omega)).mono ?_); rintro e w7 ⟨rfl, hb⟩; replace hS := hid (hS.out.call hb); clear hb)
      | (go_at_call 41; (with_reducible refine (hdr2.out _ hS.out.bel).mono ?_); rintro e w8 ⟨m2, u2, g2, ws, rfl, hF2, hO, hb⟩; have hle2 := hid (hS.out.call hb).le; replace hS := hid (hz2.out _ _ (hS.out.callOwn hb hO)); clear hb hO)
      | ((with_reducible refine gateOp (op := .store 27 (.tmp 14) (.tmp 84)) rfl ?_); refine store_mach rfl _ _ rfl w8.heap.size rfl m2 rfl 27 _ hS.out.m0 ?_; intro w9 p3 ho hsz hbl; replace hS := hid (hS.out.setM hle2.out p3 ho hbl); clear p3 ho hsz hbl)
      | ((with_reducible refine gate (N := 88) rfl ?_); refine load_mach rfl _ rfl w8.heap.size rfl m2 hS.out.m0 ?_)
      | (go_at_call 42; (with_reducible refine (hip.out _ m2 hF2.out.1.ok _ _ g2 hS.out.o1 (by have := hF2.out.2.1; omega) ws (by have := hF2.out.2.2; omega)).mono ?_); rintro e w10 ⟨rfl, hb⟩; replace hS := hid (hS.out.call hb); clear hb)
      | ((with_reducible refine gate (N := 95) rfl ?_); refine load_mach rfl _ rfl w8.heap.size rfl m2 hS.out.m0 ?_)
      | (go_at_call 43; (with_reducible refine (hsp.out _ m2 hF2.out.1.ok _ _ g2 hS.out.o1 (by have := hF2.out.2.1; omega) ws (by have := hF2.out.2.2; omega)).mono ?_); rintro e w11 ⟨rfl, hb⟩; replace hS := hid (hS.out.call hb); clear hb))
    have hP := hid (fun h => perAns_ord (m := m2) (g := g2) (ws := ws) h)
    have q4 := hcy.out (perAns m2 g2 ws).1
    have q5 := hcy.out (perAns m2 g2 ws).2
    generalize (perAns m2 g2 ws).1 = pv at *
    generalize (perAns m2 g2 ws).2 = pc at *
    generalize w8.heap.size = b14 at *
    clear q3
    obtain ⟨A1, c1, rfl, _, hA1⟩ := hS.out.o3.form
    rw [strs_length] at hS ⊢
    have hA2 := hid (fun (h : 0 < M.length) => (show ∃ ga, A1 = some ⟨ga, 0, none⟩ from by
      rcases hA1 with ⟨_, h1, _⟩ | ⟨ga, h1, _⟩
      · have := congrArg List.length h1; rw [strs_length, List.length_nil] at this; omega
      · exact ⟨ga, h1⟩))
    clear hA1
    go_upto_if 110 with (fail)
    clear q4 q5
    go_cut [21, 22] from 111 (fun _ _ wr => St w.heap.size w [Asn.own w.heap.size 9 (.slice A1 M.length c1) (strs M), Asn.mb 27 b3 m, Asn.own w.heap.size 2 u (ints g)] wr)
    case first =>
      as_aux_lemma =>
        by_cases h0 : pc = 0
        · subst h0
          obtain ⟨h5, p, K, hp0, hp, hK, rfl, ho, hdv⟩ := hP.out rfl
          have hio2 := hid (fun W (hO : Own W w.heap.size 2 u2 (ints g2)) => (by have h := hio.out W m2 hF2.out.1.ok _ u2 g2 hO (by have := hF2.out.2.1; omega) (ws.size : Nat); rw [ho] at h; exact h : Calls Tryz.prog 36 #[.agg (mcells m2), u2, .int .i64 (ws.size : Nat)] W fun e w' => e = .returned (.tuple #[.int .i64 (K : Int), .int .i64 0]) ∧ Below W.heap.size W w'))
          have dz : ¬ (p : Int) = 0 := by omega
          have m1 : Int.tmod (K : Int) (p : Int) = 0 := by rw [Int.tmod_eq_emod_of_nonneg (by omega)]; have := Nat.mod_eq_zero_of_dvd hdv; omega
          clear ho hP
          go_wp2_with (first
            | ((with_reducible refine gate (N := 112) rfl ?_); refine load_mach rfl _ rfl b14 rfl m2 hS.out.m0 ?_)
            | (go_at_call 36; (with_reducible refine (hio2.out _ hS.out.o1).mono ?_); rintro e w12 ⟨rfl, hb⟩; replace hS := hid (hS.out.call hb); clear hb))
          go_meet
          exact hS.out.drop.drop.drop
        · have d0 : ((pc : Int) == 0) = false := by simpa using h0
          clear hP
          go_wp2
          go_meet
          exact hS.out.drop.drop.drop
    case rest =>
      as_aux_lemma =>
        replace hS := hid hcut
        clear hcut hP hF2
        by_cases h0 : kc = 0
        · subst h0
          obtain ⟨n0, n5, K, hK0, hK, rfl, hnx, hfx⟩ := hL1.out rfl
          replace hnx := hid hnx; replace hfx := hid hfx
          have hip1 := hid (fun W (hO : Own W w.heap.size 2 u (ints g)) r (hr : r ∈ M) => (by have h := hip.out W m hF.out.1.ok _ u g hO (by have := hF.out.2.1; omega) r (by have := (hfx.out r hr).1; omega); rw [(hfx.out r hr).2] at h; exact h : Calls Tryz.prog 42 #[.agg (mcells m), u, .string r] W fun e w' => e = .returned (.tuple #[.int .i64 1, .int .i64 0]) ∧ Below W.heap.size W w'))
          have hsg := hid (fun k r (hr : M[k]? = some r) => (show (strs M)[k]? = some (Value.string r) from by rw [strs, List.getElem?_map, hr]; rfl))
          have hMl2 := hMl.out
          clear hL1 hL2
          go_wp2
          go_loopw [23] (fun i wr => ∃ k : Nat, k ≤ M.length ∧ i = .int .i64 k ∧ St w.heap.size w [Asn.own w.heap.size 9 (.slice A1 M.length c1) (strs M), Asn.mb 27 b3 m, Asn.own w.heap.size 2 u (ints g)] wr) (fun i _ => M.length - (intOf i).toNat)
          case atStart => exact ⟨0, Nat.zero_le _, rfl, hS.out⟩
          case round =>
            obtain ⟨k, hk, rfl, rS⟩ := hrel
            clear hS
            by_cases hlt : k < M.length
            · have dk : decide ((k : Int) < (M.length : Int)) = true := decide_eq_true (by omega)
              have k0 : (0 : Int) ≤ (k : Int) := Int.natCast_nonneg _
              have k1 : (k : Int) < (M.length : Int) := by omega
              obtain ⟨ga, rfl⟩ := hA2.out (by omega)
              obtain ⟨r, hr⟩ : ∃ r, M[k]? = some r := ⟨_, List.getElem?_eq_getElem hlt⟩
              have hcell := hid (hsg.out k r hr)
              replace hr := hid (List.mem_of_getElem? hr)
              replace rS := hid rS
              go_upto_region 26 with (fail)
              refine wp_region_heldL (L := [(6, (fun w' : World => MB w' 27 b3 m ∧ w'.cell? ⟨ga, k, none⟩ = some (.string r)))]) (by kernel_rfl) (HeldL.cons (fun _ => ⟨rS.out.drew.m1, rS.out.drew.o0.cellAt k _ hcell.out⟩) HeldL.nil) (fun hHeld => ?_)
              replace rS := hid rS.out.drew
              generalize wr.drew = wd at *
              refine wpAnyL_takeP (i := 0) 6 [] (v := (.agg (mcells m))) (fun w' : World => MB w' 27 b3 m ∧ w'.cell? ⟨ga, k, none⟩ = some (.string r)) rfl (by kernel_rfl) (by kernel_rfl) (by kernel_rfl) (by rfl) (by kernel_rfl) (by simp) (fun _ _ _ h => h) (Or.inl ⟨by rfl, ?_⟩) (by assumption) ?_
              · (intro W hW; exact exec_load _ rfl rfl (load_run hW.1))
              intro hHeld'
              clear hHeld; have hHeld := hHeld'; clear hHeld'
              try simp only [Act.put, List.getElem_toArray, List.getElem_cons_succ, List.getElem_cons_zero, List.setIfInBounds_toArray, List.set_cons_zero, List.set_cons_succ]
              refine wpAnyL_take0 (i := 1) (v := ?_) rfl (by kernel_rfl) (by kernel_rfl) (by kernel_rfl) (by rfl) (fun _ _ _ h => h) (Or.inl ⟨by rfl, ?_⟩) (by assumption) ?_
              rotate_left
              · (intro W _; go_simp; (with_reducible rfl))
              intro hHeld'
              clear hHeld; have hHeld := hHeld'; clear hHeld'
              try simp only [Act.put, List.getElem_toArray, List.getElem_cons_succ, List.getElem_cons_zero, List.setIfInBounds_toArray, List.set_cons_zero, List.set_cons_succ]
              refine wpAnyL_take0 (i := 2) (v := ?_) rfl (by kernel_rfl) (by kernel_rfl) (by kernel_rfl) (by rfl) (fun _ _ _ h => h) (Or.inl ⟨by rfl, ?_⟩) (by assumption) ?_
              rotate_left
              · (intro W _; go_simp; (with_reducible rfl))
              intro hHeld'
              clear hHeld; have hHeld := hHeld'; clear hHeld'
              try simp only [Act.put, List.getElem_toArray, List.getElem_cons_succ, List.getElem_cons_zero, List.setIfInBounds_toArray, List.set_cons_zero, List.set_cons_succ]
              refine wpAnyL_take0 (i := 3) (v := ?_) rfl (by kernel_rfl) (by kernel_rfl) (by kernel_rfl) (by rfl) (fun _ _ _ h => h) (Or.inl ⟨by rfl, ?_⟩) (by assumption) ?_
              rotate_left
              · (intro W _; go_simp; (with_reducible rfl))
              intro hHeld'
              clear hHeld; have hHeld := hHeld'; clear hHeld'
              try simp only [Act.put, List.getElem_toArray, List.getElem_cons_succ, List.getElem_cons_zero, List.setIfInBounds_toArray, List.set_cons_zero, List.set_cons_succ]
              refine wpAnyL_take0 (i := 4) (v := ?_) rfl (by kernel_rfl) (by kernel_rfl) (by kernel_rfl) (by rfl) (fun _ _ _ h => h) (Or.inl ⟨by rfl, ?_⟩) (by assumption) ?_
              rotate_left
              · (intro W _; go_simp; (with_reducible rfl))
              intro hHeld'
              clear hHeld; have hHeld := hHeld'; clear hHeld'
              try simp only [Act.put, List.getElem_toArray, List.getElem_cons_succ, List.getElem_cons_zero, List.setIfInBounds_toArray, List.set_cons_zero, List.set_cons_succ]
              refine wpAnyL_takeP (i := 5) 6 [] (v := (.string r)) (fun w' : World => MB w' 27 b3 m ∧ w'.cell? ⟨ga, k, none⟩ = some (.string r)) rfl (by kernel_rfl) (by kernel_rfl) (by kernel_rfl) (by rfl) (by kernel_rfl) (by simp) (fun _ _ _ h => h) (Or.inl ⟨by rfl, ?_⟩) (by assumption) ?_
              · (intro W hW; (replace hW := hW.2); go_simp)
              intro hHeld'
              clear hHeld; have hHeld := hHeld'; clear hHeld'
              try simp only [Act.put, List.getElem_toArray, List.getElem_cons_succ, List.getElem_cons_zero, List.setIfInBounds_toArray, List.set_cons_zero, List.set_cons_succ]
              refine wpAnyL_ready (rs := [6]) (by kernel_rfl) (by simp) ?_
              refine AllReadyL.cons rfl (fun K hK => ?_) AllReadyL.nil
              go_simp
              (with_reducible refine (hip1.out _ rS.out.o2 r hr.out).mono ?_)
              rintro e w6 ⟨rfl, hb⟩
              replace rS := hid (rS.out.call hb)
              clear hb
              go_simp
              refine hK.out _ _ (HeldL.cons (fun h => absurd h (by decide +kernel)) HeldL.nil) (fun hHeld' => ?_)
              clear hK K hHeld; have hHeld := hHeld'; clear hHeld'
              try simp only [Act.put, List.getElem_toArray, List.getElem_cons_succ, List.getElem_cons_zero, List.setIfInBounds_toArray, List.set_cons_zero, List.set_cons_succ]
              refine wpAnyL_take0 (i := 7) (v := ?_) rfl (by kernel_rfl) (by kernel_rfl) (by kernel_rfl) (by rfl) (fun _ _ _ h => h) (Or.inl ⟨by rfl, ?_⟩) (by assumption) ?_
              rotate_left
              · (intro W _; go_simp; (with_reducible rfl))
              intro hHeld'
              clear hHeld; have hHeld := hHeld'; clear hHeld'
              try simp only [Act.put, List.getElem_toArray, List.getElem_cons_succ, List.getElem_cons_zero, List.setIfInBounds_toArray, List.set_cons_zero, List.set_cons_succ]
              refine wpAnyL_take0 (i := 8) (v := ?_) rfl (by kernel_rfl) (by kernel_rfl) (by kernel_rfl) (by rfl) (fun _ _ _ h => h) (Or.inl ⟨by rfl, ?_⟩) (by assumption) ?_
              rotate_left
              · (intro W _; go_simp; (with_reducible rfl))
              intro hHeld'
              clear hHeld; have hHeld := hHeld'; clear hHeld'
              try simp only [Act.put, List.getElem_toArray, List.getElem_cons_succ, List.getElem_cons_zero, List.setIfInBounds_toArray, List.set_cons_zero, List.set_cons_succ]
              refine wpAnyL_take0 (i := 9) (v := ?_) rfl (by kernel_rfl) (by kernel_rfl) (by kernel_rfl) (by rfl) (fun _ _ _ h => h) (Or.inl ⟨by rfl, ?_⟩) (by assumption) ?_
              rotate_left
              · (intro W _; go_simp; (with_reducible rfl))
              intro hHeld'
              clear hHeld; have hHeld := hHeld'; clear hHeld'
              try simp only [Act.put, List.getElem_toArray, List.getElem_cons_succ, List.getElem_cons_zero, List.setIfInBounds_toArray, List.set_cons_zero, List.set_cons_succ]
              refine wpAnyL_take0 (i := 10) (v := ?_) rfl (by kernel_rfl) (by kernel_rfl) (by kernel_rfl) (by rfl) (fun _ _ _ h => h) (Or.inl ⟨by rfl, ?_⟩) (by assumption) ?_
              rotate_left
              · (intro W _; go_simp; (with_reducible rfl))
              intro hHeld'
              clear hHeld; have hHeld := hHeld'; clear hHeld'
              try simp only [Act.put, List.getElem_toArray, List.getElem_cons_succ, List.getElem_cons_zero, List.setIfInBounds_toArray, List.set_cons_zero, List.set_cons_succ]
              refine wpAnyL_take0 (i := 11) (v := ?_) rfl (by kernel_rfl) (by kernel_rfl) (by kernel_rfl) (by rfl) (fun _ _ _ h => h) (Or.inl ⟨by rfl, ?_⟩) (by assumption) ?_
              rotate_left
              · (intro W _; go_simp; (with_reducible rfl))
              intro hHeld'
              clear hHeld; have hHeld := hHeld'; clear hHeld'
              try simp only [Act.put, List.getElem_toArray, List.getElem_cons_succ, List.getElem_cons_zero, List.setIfInBounds_toArray, List.set_cons_zero, List.set_cons_succ]
              refine wpAnyL_done (by kernel_rfl) ?_ _
              go_wp2
              go_roundw
              case rel => exact ⟨k + 1, by omega, by go_num, rS.out⟩
              case measure => simp [intOf]; omega
            · obtain rfl : k = M.length := by omega
              have dk : decide ((M.length : Int) < (M.length : Int)) = false := decide_eq_false (by omega)
              have dK : decide (0 < (K : Int)) = true := decide_eq_true (by omega)
              replace rS := hid rS
              by_cases hn5 : n < 5
              · have dn : decide (n < 5) = true := decide_eq_true hn5
                obtain ⟨K', hK', ho, hdv⟩ := hnx.out hn5
                have hio2 := hid (fun W (hO : Own W w.heap.size 2 u (ints g)) => (by have h := hio.out W m hF.out.1.ok _ u g hO (by have := hF.out.2.1; omega) (n + 1); rw [ho] at h; exact h : Calls Tryz.prog 36 #[.agg (mcells m), u, .int .i64 (n + 1)] W fun e w' => e = .returned (.tuple #[.int .i64 (K' : Int), .int .i64 0]) ∧ Below W.heap.size W w'))
                have dz : ¬ (K : Int) = 0 := by omega
                have m1 : Int.tmod (K' : Int) (K : Int) = 0 := by rw [Int.tmod_eq_emod_of_nonneg (by omega)]; have := Nat.mod_eq_zero_of_dvd hdv; omega
                clear ho
                go_wp2_with (first
                  | ((with_reducible refine gate (N := 161) rfl ?_); refine load_mach rfl _ rfl b3 rfl m rS.out.m1 ?_)
                  | (go_at_call 36; (with_reducible refine (hio2.out _ rS.out.o2).mono ?_); rintro e w12 ⟨rfl, hb⟩; replace rS := hid (rS.out.call hb); clear hb))
                go_ret
                exact ⟨rfl, rS.out.bel⟩
              · have dn : decide (n < 5) = false := decide_eq_false hn5
                go_wp2
                go_ret
                exact ⟨rfl, rS.out.bel⟩
        · have d0 : ((kc : Int) == 0) = false := by simpa using h0
          obtain ⟨rfl, rfl⟩ := hL2.out h0
          have d1 : ((kc : Int) != 0) = true := by simpa using h0
          clear hL1 hL2
          go_wp2
          go_ret
          exact ⟨rfl, hS.out.bel⟩
  · have dl : decide (4096 < l.length) = true := decide_eq_true (by omega)
    rw [dl] at hbg
    go_enter Tryz.func5, Tryz.ntmps5
    go_wp2_with (
      (go_at_call 8; (with_reducible refine (hbg.out).mono ?_); rintro e w1 ⟨rfl, rfl⟩))
    go_ret
    exact ⟨rfl, Below.refl _ _⟩
end Go.Proofs.YthmcdfjijkecfaaGreat
