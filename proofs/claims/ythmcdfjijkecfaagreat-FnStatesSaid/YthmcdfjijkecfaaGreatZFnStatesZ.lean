/- What the proof of FnStates leans on, part 26 of 29. -/
import Derived.Test.YthmcdfjijkecfaaGreatZFnStatesY
import Derived.Shelf.SortM.Plain
import Derived.Shelf.SortM.SortNone
import Derived.Sort.OwnSortedInts
/- slices.Sort over []int64. -/
namespace Go.Proofs.YthmcdfjijkecfaaGreat
open Go.RowKit
set_option linter.unusedVariables false
set_option linter.unusedSimpArgs false

def srt (l : List Int) : List Int := l.mergeSort fun x y => decide (x ≤ y)
theorem srt_perm (l : List Int) : (srt l).Perm l := List.mergeSort_perm _ _
theorem srt_length (l : List Int) : (srt l).length = l.length := (srt_perm l).length_eq
theorem srt_sorted (l : List Int) : (srt l).Pairwise (· ≤ ·) := by
  have h := List.pairwise_mergeSort (le := fun x y : Int => decide (x ≤ y)) (fun a b c h1 h2 => by simp at *; omega) (fun a b => by simp; omega) l
  exact h.imp fun h => by simpa using h
theorem srt_eq {l l' : List Int} (hp : l'.Perm l) (hs : l'.Pairwise (· ≤ ·)) : l' = srt l :=
  List.Perm.eq_of_pairwise (le := (· ≤ ·)) (fun a b _ _ h1 h2 => Int.le_antisymm h1 h2) hs (srt_sorted l) (hp.trans (srt_perm l).symm)
/-- Where a number goes in. -/
def insA (x : Int) : List Int → Nat
  | [] => 0
  | y :: l => if y ≤ x then insA x l + 1 else 0
theorem insA_le (x : Int) : ∀ l, insA x l ≤ l.length
  | [] => Nat.le_refl _
  | y :: l => by
    have := insA_le x l
    unfold insA; split <;> simp <;> omega
theorem insA_lt {x : Int} : ∀ {l : List Int} {j : Nat}, j < insA x l → ∃ y, l[j]? = some y ∧ y ≤ x
  | [], j, h => absurd h (Nat.not_lt_zero _)
  | y :: l, j, h => by
    unfold insA at h
    split at h
    · rename_i hy
      cases j with
      | zero => exact ⟨y, rfl, hy⟩
      | succ j => exact insA_lt (l := l) (j := j) (by omega)
    · exact absurd h (Nat.not_lt_zero _)
theorem insA_at {x : Int} : ∀ {l : List Int}, insA x l < l.length → ∃ y, l[insA x l]? = some y ∧ ¬ y ≤ x
  | [], h => absurd h (Nat.not_lt_zero _)
  | y :: l, h => by
    by_cases hy : y ≤ x
    · have e : insA x (y :: l) = insA x l + 1 := by rw [insA, if_pos hy]
      rw [e] at h ⊢
      exact insA_at (l := l) (by simpa using h)
    · have e : insA x (y :: l) = 0 := by rw [insA, if_neg hy]
      rw [e]
      exact ⟨y, rfl, hy⟩
def insX (x : Int) (l : List Int) : List Int := l.take (insA x l) ++ x :: l.drop (insA x l)
theorem insX_perm (x : Int) (l : List Int) : (insX x l).Perm (x :: l) := by
  have h : (l.take (insA x l) ++ x :: l.drop (insA x l)).Perm (x :: (l.take (insA x l) ++ l.drop (insA x l))) := List.perm_middle
  rw [List.take_append_drop] at h
  exact h
theorem insX_sorted {x : Int} {l : List Int} (h : l.Pairwise (· ≤ ·)) : (insX x l).Pairwise (· ≤ ·) := by
  have hl := h
  rw [← List.take_append_drop (insA x l) l, List.pairwise_append] at hl
  obtain ⟨h1, h2, h3⟩ := hl
  have ht : ∀ y ∈ l.take (insA x l), y ≤ x := fun y hy => by
    obtain ⟨j, hj, rfl⟩ := List.getElem_of_mem hy
    have hj' : j < insA x l := by rw [List.length_take] at hj; omega
    obtain ⟨z, hz, hzx⟩ := insA_lt hj'
    rw [List.getElem_take]
    have := List.getElem?_eq_some_iff.1 hz
    obtain ⟨_, e⟩ := this
    rw [e]; exact hzx
  have hd : ∀ y ∈ l.drop (insA x l), x ≤ y := fun y hy => by
    by_cases hlt : insA x l < l.length
    · obtain ⟨z, hz, hzx⟩ := insA_at hlt
      have e : l.drop (insA x l) = z :: l.drop (insA x l + 1) := by
        obtain ⟨_, e⟩ := List.getElem?_eq_some_iff.1 hz
        rw [← e]; exact List.drop_eq_getElem_cons hlt
      rw [e] at hy h2
      rcases List.mem_cons.1 hy with rfl | hy
      · omega
      · have := (List.pairwise_cons.1 h2).1 y hy; omega
    · rw [List.drop_eq_nil_of_le (by omega)] at hy; cases hy
  unfold insX
  rw [List.pairwise_append]
  refine ⟨h1, List.pairwise_cons.2 ⟨hd, h2⟩, fun a ha b hb => ?_⟩
  rcases List.mem_cons.1 hb with rfl | hb
  · exact ht a ha
  · exact h3 a ha b hb
theorem insX_length (x : Int) (l : List Int) : (insX x l).length = l.length + 1 := by rw [(insX_perm x l).length_eq]; rfl
/-- The first k numbers of a list, put in one after the other. -/
def insL (l : List Int) : Nat → List Int
  | 0 => []
  | k + 1 => match l[k]? with
    | some x => insX x (insL l k)
    | none => insL l k
theorem insL_step {l : List Int} {k : Nat} {x : Int} (h : l[k]? = some x) : insL l (k + 1) = insX x (insL l k) := by rw [insL, h]
theorem insL_ok (l : List Int) : ∀ k, k ≤ l.length → (insL l k).Perm (l.take k) ∧ (insL l k).Pairwise (· ≤ ·)
  | 0, _ => ⟨by simp [insL], List.Pairwise.nil⟩
  | k + 1, hk => by
    obtain ⟨h1, h2⟩ := insL_ok l k (by omega)
    have hx : l[k]? = some l[k] := List.getElem?_eq_getElem (by omega)
    rw [insL_step hx]
    refine ⟨(insX_perm _ _).trans ?_, insX_sorted h2⟩
    rw [List.take_add_one, hx]
    exact ((h1.cons _).trans (List.perm_append_singleton _ _).symm)
theorem insL_len (l : List Int) (k : Nat) (hk : k ≤ l.length) : (insL l k).length = k := by rw [(insL_ok l k hk).1.length_eq, List.length_take]; omega
theorem insL_srt (l : List Int) : insL l l.length = srt l := by
  obtain ⟨h1, h2⟩ := insL_ok l l.length (Nat.le_refl _)
  rw [List.take_length] at h1
  exact srt_eq h1 h2
section
open Go.Shelf
def srtL_ren : Go.Shelf.Ren := ⟨fun | 5 => 197 | 8 => 236 | 7 => 235 | 19 => 260 | 20 => 261 | 10 => 251 | 11 => 252 | 12 => 253 | 13 => 254 | 14 => 255 | 15 => 256 | 16 => 257 | 17 => 258 | 18 => 259 | 30 => 269 | 31 => 270 | 32 => 271 | 33 => 272 | 34 => 273 | 35 => 274 | 40 => 275 | n => n, fun | 23 => 32 | 25 => 2 | 3 => 3 | 32 => 143 | 22 => 32 | 0 => 0 | 44 => 249 | 46 => 51 | 4 => 4 | 36 => 242 | 35 => 241 | 41 => 246 | 5 => 5 | 9 => 9 | 53 => 258 | 57 => 262 | 63 => 264 | 64 => 265 | n => n, fun | n => n⟩
theorem srtL : Go.Proofs.SlLaysM.n5 Tryz.prog srtL_ren := {
  mixed := by kernel_rfl
  f5 := ⟨Tryz.f197.name, by decide, Tryz.func197.trans (congrArg some (by kernel_rfl))⟩
  f7 := ⟨Tryz.f235.name, by decide, Tryz.func235.trans (congrArg some (by kernel_rfl))⟩
  f8 := Tryz.func236.trans (congrArg some (by kernel_rfl))
  f10 := ⟨Tryz.f251.name, by decide, Tryz.func251.trans (congrArg some (by kernel_rfl))⟩
  f11 := ⟨Tryz.f252.name, by decide, Tryz.func252.trans (congrArg some (by kernel_rfl))⟩
  f12 := ⟨Tryz.f253.name, by decide, Tryz.func253.trans (congrArg some (by kernel_rfl))⟩
  f13 := ⟨Tryz.f254.name, by decide, Tryz.func254.trans (congrArg some (by kernel_rfl))⟩
  f14 := ⟨Tryz.f255.name, by decide, Tryz.func255.trans (congrArg some (by kernel_rfl))⟩
  f15 := ⟨Tryz.f256.name, by decide, Tryz.func256.trans (congrArg some (by kernel_rfl))⟩
  f16 := ⟨Tryz.f257.name, by decide, Tryz.func257.trans (congrArg some (by kernel_rfl))⟩
  f17 := ⟨Tryz.f258.name, by decide, Tryz.func258.trans (congrArg some (by kernel_rfl))⟩
  f18 := ⟨Tryz.f259.name, by decide, Tryz.func259.trans (congrArg some (by kernel_rfl))⟩
  f19 := Tryz.func260.trans (congrArg some (by kernel_rfl))
  f20 := Tryz.func261.trans (congrArg some (by kernel_rfl))
  f30 := ⟨Tryz.f269.name, by decide, Tryz.func269.trans (congrArg some (by kernel_rfl))⟩
  f31 := Tryz.func270.trans (congrArg some (by kernel_rfl))
  f32 := Tryz.func271.trans (congrArg some (by kernel_rfl))
  f33 := ⟨Tryz.f272.name, by decide, Tryz.func272.trans (congrArg some (by kernel_rfl))⟩
  f34 := ⟨Tryz.f273.name, by decide, Tryz.func273.trans (congrArg some (by kernel_rfl))⟩
  f35 := ⟨Tryz.f274.name, by decide, Tryz.func274.trans (congrArg some (by kernel_rfl))⟩
  f40 := ⟨Tryz.f275.name, by decide, Tryz.func275.trans (congrArg some (by kernel_rfl))⟩
  t0 := Tryz.underlying0
  a0 := Tryz.isAgg0
  z0 := Tryz.sizeOf0
  v0 := Tryz.zeroValue0
  t3 := Tryz.underlying3
  a3 := Tryz.isAgg3
  z3 := Tryz.sizeOf3
  v3 := Tryz.zeroValue3
  t4 := Tryz.underlying4
  a4 := Tryz.isAgg4
  z4 := Tryz.sizeOf4
  v4 := Tryz.zeroValue4
  t5 := Tryz.underlying5
  a5 := Tryz.isAgg5
  z5 := Tryz.sizeOf5
  v5 := Tryz.zeroValue5
  t9 := Tryz.underlying9
  a9 := Tryz.isAgg9
  z9 := Tryz.sizeOf9
  v9 := Tryz.zeroValue9
  t22 := Tryz.underlying32
  a22 := Tryz.isAgg32
  z22 := Tryz.sizeOf32
  v22 := Tryz.zeroValue32
  t23 := Tryz.underlying32
  a23 := Tryz.isAgg32
  z23 := Tryz.sizeOf32
  v23 := Tryz.zeroValue32
  t25 := Tryz.underlying2
  a25 := Tryz.isAgg2
  z25 := Tryz.sizeOf2
  v25 := Tryz.zeroValue2
  t32 := Tryz.underlying143
  a32 := Tryz.isAgg143
  z32 := Tryz.sizeOf143
  v32 := Tryz.zeroValue143
  t35 := Tryz.underlying241
  a35 := Tryz.isAgg241
  z35 := Tryz.sizeOf241
  v35 := Tryz.zeroValue241
  t36 := Tryz.underlying242
  a36 := Tryz.isAgg242
  z36 := Tryz.sizeOf242
  v36 := Tryz.zeroValue242
  t41 := Tryz.underlying246
  a41 := Tryz.isAgg246
  z41 := Tryz.sizeOf246
  v41 := Tryz.zeroValue246
  t44 := Tryz.underlying249
  a44 := Tryz.isAgg249
  z44 := Tryz.sizeOf249
  v44 := Tryz.zeroValue249
  t46 := Tryz.underlying51
  a46 := Tryz.isAgg51
  z46 := Tryz.sizeOf51
  v46 := Tryz.zeroValue51
  t53 := Tryz.underlying258
  a53 := Tryz.isAgg258
  z53 := Tryz.sizeOf258
  v53 := Tryz.zeroValue258
  t57 := Tryz.underlying262
  a57 := Tryz.isAgg262
  z57 := Tryz.sizeOf262
  v57 := Tryz.zeroValue262
  t63 := Tryz.underlying264
  a63 := Tryz.isAgg264
  z63 := Tryz.sizeOf264
  v63 := Tryz.zeroValue264
  t64 := Tryz.underlying265
  a64 := Tryz.isAgg265
  z64 := Tryz.sizeOf265
  v64 := Tryz.zeroValue265 }
end
theorem slSort_st {base : Nat} {w0 : World} {L : List Asn} {W : World} {v : Value} {l : List Int} (h : St base w0 (Asn.own base 2 v (ints l) :: L) W) (hl : l.length < 1000000) :
    Calls Tryz.prog 197 #[v] W fun e w' => e = .returned (.tuple #[]) ∧ St base w0 (Asn.own base 2 v (ints (srt l)) :: L) w' := by
  have hO : W.ownsRow base 2 1 v (ints l).length (ints l) := h.o0
  have hil := ints_length l
  rcases hO.2 with ⟨rfl, hn⟩ | ⟨g, cap, cur, rfl, hg, hb, h1, h2, h3, h4⟩
  · have e : l = [] := by cases l with
      | nil => rfl
      | cons a t => simp [ints] at hn
    subst e
    have hc := AnyM.slices_Sort_int_none srtL none 0 W
    change Calls Tryz.prog 197 _ _ _ at hc
    refine hc.mono ?_
    rintro e w' ⟨rfl, rfl⟩
    exact ⟨rfl, by rw [show srt [] = [] by simp [srt]]; exact h⟩
  · rw [hil] at h1 h4 h ⊢
    rw [Nat.mul_one] at h4
    have hc := AnyM.slices_Sort_int srtL g 0 cap l W (holds_of_blockI hb h4) (Array.getElem?_eq_some_iff.1 hb).1 (by omega)
    change Calls Tryz.prog 197 _ _ _ at hc
    refine hc.mono ?_
    rintro e w' ⟨rfl, n, os, rfl⟩
    have hs := ownsRow_sortedI (n := n) (os := os) (ts := srt l) (srt_length l) hg hb h1 h2 h3
    have hgr := grownBy_sortedI (w := W) (g := g) (n := n) (os := os) (srt l).toArray
    refine ⟨rfl, h.turn (a' := Asn.own base 2 (.slice (some ⟨g, 0, none⟩) l.length cap) (ints (srt l))) ?_ (fun k hk => .inl ?_) (fun k hk => ?_) ?_ (fun k hk hne => ?_)⟩
    · show Own _ _ _ _ _
      unfold Own
      rw [ints_length, srt_length]
      exact hs
    · have e : g = k := by simpa [Asn.own, Value.ownBlock] using hk
      show Value.ownBlock _ = some k
      rw [← e]; rfl
    · have e : g = k := by
        have := hk
        simpa [Asn.own, Value.ownBlock] using this
      omega
    · exact ⟨hgr.os, hgr.tape, hgr.output, hgr.size, fun k hk => hgr.block k (by have := (Array.getElem?_eq_some_iff.1 hb).1; omega) (fun e => by injection e with e; omega)⟩
    · exact hgr.block k hk fun e => hne (by injection e with e; subst e; rfl)
end Go.Proofs.YthmcdfjijkecfaaGreat

/- Cycles and orders of permutations: the program. -/
namespace Go.Proofs.YthmcdfjijkecfaaGreat
open Go.RowKit
set_option linter.unusedVariables false
set_option linter.unusedSimpArgs false
-- @LONG

/-- The cycles' lengths, ascending. -/
def cysI (p : List Nat) : List Int := srt ((cyc p).map Int.ofNat)
set_option maxHeartbeats 4000000 in
set_option maxRecDepth 100000 in
theorem cycles_any (w : World) (b0 : Nat) (v : Value) (p : List Nat) (h : Own w b0 2 v (nats p)) (hn : p.length ≤ 1000) (hlt : ∀ x, x < p.length → p.getD x 0 < p.length) :
    Calls Tryz.prog 102 #[v] w fun e w' => ∃ v', e = .returned v' ∧ Own w' w.heap.size 2 v' (ints (cysI p)) ∧ Below w.heap.size w w' := by
  have hil := nats_length p
  obtain ⟨A, cp, rfl, _, hA⟩ := h.form
  rw [hil] at h ⊢
  have hpg := hid (fun (x : Nat) (hx : x < p.length) => (show (nats p)[x]? = some (.int .i64 ((p.getD x 0 : Nat) : Int)) from by simp [nats, List.getD_eq_getElem?_getD, List.getElem?_eq_getElem hx]))
  have hplt := hid (fun (x : Nat) (hx : x < p.length) => hlt x hx)
  have hA2 := hid (fun (hx : 0 < p.length) => (show ∃ gp, A = some ⟨gp, 0, none⟩ from by
    rcases hA with ⟨_, h1, _⟩ | ⟨g, h1, _⟩
    · have : p.length = 0 := by rw [← hil, h1]; rfl
      omega
    · exact ⟨g, h1⟩))
  have hmk := fun W : World => run_make_row' (P := Tryz.prog) 53 4 (.bool false) 1 Tryz.underlying53 info_bool rfl .i64 .i64 p.length (by omega) (by omega) W
  have hmc := hid (toList_madeCells_one (.bool false) p.length)
  generalize madeCells #[.bool false] p.length = mc at *
  have hmcs := hid (show mc.size = p.length by rw [← Array.length_toList, hmc.out, List.length_replicate])
  have hS := (St.arg w h).newArr mc p.length hmcs.out 4 (by omega)
  rw [hmc.out] at hS
  have hrep : List.replicate p.length (Value.bool false) = bls (cyst p 0).1 := by simp [bls, cyst]
  rw [hrep] at hS
  replace hS := hid hS
  have hcl := hid (cyst_len p)
  have hco := hid (cyst_out p)
  have hcs := hid (fun k => (show cyst p (k + 1) = ((crun p (cyst p k).1 k).1, if 0 < (crun p (cyst p k).1 k).2 then (cyst p k).2 ++ [(crun p (cyst p k).1 k).2] else (cyst p k).2) from rfl))
  have hcb := hid (fun k => (show (crun p (cyst p k).1 k).2 ≤ p.length from by have h := crun_le p (cyst p k).1 k; rw [cyst_len] at h; exact h))
  have hseen := hid (fun s a (h : s[a]? = some true) => crun_seen (p := p) h)
  have hnew := hid (fun s a (h : s[a]? = some false) => crun_new (p := p) h)
  have hresult := hid (show (cyst p p.length).2 = cyc p from rfl)
  clear hA hil hlt hrep hmc h
  generalize hN : p.length = N at *
  replace hN := hid hN
  have hS2 := hS.out.nilOwn 2
  replace hS := hid hS2.f1
  clear hS2
  have hs0 := hid (show nats (cyst p 0).2 = [] from rfl)
  have hni := hid (nats_ints (cyc p))
  have hcyl := hid (show (cyc p).length ≤ N from by rw [← hresult.out]; exact hco.out N)
  have hsrt := hid (fun W (vo : Value) (L : List Asn) (hS : St w.heap.size w (Asn.own w.heap.size 2 vo (ints ((cyc p).map Int.ofNat)) :: L) W) => slSort_st hS (by rw [List.length_map]; have := hcyl.out; omega))
  have hci := hid (show srt ((cyc p).map Int.ofNat) = cysI p from rfl)
  go_enter Tryz.func102, Tryz.ntmps102
  go_wp2
  go_loopw [4, 13] (fun o i wr => ∃ (k : Nat) (vo : Value), k ≤ N ∧ i = .int .i64 k ∧ vo = o ∧ St w.heap.size w [Asn.own w.heap.size 4 (.slice (some ⟨w.heap.size, 0, none⟩) N N) (bls (cyst p k).1), Asn.own w.heap.size 2 vo (nats (cyst p k).2), Asn.own 0 2 (.slice A N cp) (nats p)] wr) (fun _ i _ => N - (intOf i).toNat)
  case atStart => exact ⟨0, _, Nat.zero_le _, rfl, rfl, by rw [hs0.out]; exact hS.out⟩
  case round =>
    obtain ⟨k, vo, hk, rfl, rfl, rS⟩ := hrel
    clear hS
    replace rS := hid rS
    by_cases hlk : k < N
    · have dk : decide ((k : Int) < (N : Int)) = true := decide_eq_true (by omega)
      obtain ⟨gp, rfl⟩ := hA2.out (by omega)
      clear hsrt
      go_wp2
      go_loopw [6, 7] (fun c a wr => ∃ (x C : Nat) (s : List Bool), c = .int .i64 C ∧ a = .int .i64 x ∧ x < N ∧ s.length = N ∧ Hid ((crun p s x).1 = (crun p (cyst p k).1 k).1 ∧ C + (crun p s x).2 = (crun p (cyst p k).1 k).2) ∧ St w.heap.size w [Asn.own w.heap.size 4 (.slice (some ⟨w.heap.size, 0, none⟩) N N) (bls s), Asn.own w.heap.size 2 vo (nats (cyst p k).2), Asn.own 0 2 (.slice (some ⟨gp, 0, none⟩) N cp) (nats p)] wr) (fun c _ _ => (crun p (cyst p k).1 k).2 - (intOf c).toNat)
      case atStart => exact ⟨k, 0, (cyst p k).1, rfl, rfl, hlk, hcl.out k, hid ⟨rfl, Nat.zero_add _⟩, rS.out⟩
      case round =>
        obtain ⟨x, C, s, rfl, rfl, hx, hsl, hr, rS⟩ := hrel
        have x0 : (0 : Int) ≤ (x : Int) := Int.natCast_nonneg _
        have x1 : (x : Int) < (N : Int) := by omega
        have hblen := hid (show (bls s).length = N by rw [bls_length]; exact hsl)
        by_cases hb : s[x]? = some true
        · have cs := rS.o0.cellAt x _ (bls_get hb)
          have hr2 := hr.out
          rw [hseen.out s x hb] at hr2
          obtain ⟨e1, e2⟩ := hr2
          dsimp only at e1 e2
          rw [Nat.add_zero] at e2
          replace e1 := hid e1; replace e2 := hid e2
          clear hb hr
          rw [e1.out] at rS
          replace rS := hid rS
          by_cases hz : 0 < (crun p (cyst p k).1 k).2
          · have hk1 := hid (hcs.out k)
            rw [if_pos hz] at hk1
            have hcb2 := hcb.out k
            have hol := hid (hco.out k)
            have hol2 := hid (nats_length (cyst p k).2)
            have hol3 := hol.out
            generalize hcr : crun p (cyst p k).1 k = R at *
            replace hcr := hid hcr
            have dz : decide (0 < (C : Int)) = true := decide_eq_true (by have := e2.out; omega)
            have dn : decide (0 < C) = true := decide_eq_true (by have := e2.out; omega)
            generalize hq : (cyst p k) = Q at *
            replace hq := hid hq
            go_wp2_with (first
              | ((with_reducible refine gate (N := 36) rfl ?_); refine St.app 32 2 (.int .i64 0) 8 Tryz.underlying32 info_i64 rfl (by omega) rfl _ _ rfl _ _ rfl rS.out.f1 _ rfl rfl Q.2.length hol2.out (by omega) ?_; intro gn cn w5 rS'; replace rS := hid rS'.f1; clear rS'))
            go_roundw
            case rel => exact ⟨k + 1, _, by omega, by go_num, rfl, by rw [hk1.out]; dsimp only; rw [nats_snoc, ← e2.out]; exact rS.out⟩
            case measure => simp [intOf]; omega
          · have hk1 := hid (hcs.out k)
            rw [if_neg hz] at hk1
            generalize hcr : crun p (cyst p k).1 k = R at *
            replace hcr := hid hcr
            have dz : decide (0 < (C : Int)) = false := decide_eq_false (by have := e2.out; omega)
            have dn : decide (0 < C) = false := decide_eq_false (by have := e2.out; omega)
            generalize hq : (cyst p k) = Q at *
            replace hq := hid hq
            go_wp2
            go_roundw
            case rel => exact ⟨k + 1, _, by omega, by go_num, rfl, by rw [hk1.out]; exact rS.out⟩
            case measure => simp [intOf]; omega
        · have hb2 := get_bool (by omega) hb
          have cs := rS.o0.cellAt x _ (bls_get hb2)
          have fs := Own.frozenAt rS.o0 hblen.out x
          have hr2 := hr.out
          rw [hnew.out s x hb2] at hr2
          have hbnd := hcb.out k
          have hpx := hplt.out x hx
          have hcp := hid (hpg.out x hx)
          have hset := hid (bls_set s x true)
          have hsl2 := hid (show (s.set x true).length = N by rw [List.length_set]; exact hsl)
          generalize hS1 : (crun p (cyst p k).1 k).1 = S1 at *
          generalize hC1 : (crun p (cyst p k).1 k).2 = C1 at *
          replace hS1 := hid hS1; replace hC1 := hid hC1
          generalize p.getD x 0 = px at *
          generalize s.set x true = s2 at *
          obtain ⟨e1, e2⟩ := hr2
          dsimp only at e1 e2
          generalize hcr : crun p s2 px = R at *
          replace hcr := hid hcr; replace e1 := hid e1
          clear hb hb2 hr
          replace rS := hid rS
          have mk : True := trivial
          go_wp2_with (first
            | ((with_reducible refine gate (N := 25) rfl ?_); clear mk; replace rS := hid (rS.out.setOwn hblen.out x (.bool true) hx); rw [hset.out] at rS; (have ck := rS.out.o2.cellAt x _ hcp.out); generalize wr.setCell _ _ = wx at *))
          go_roundw
          case rel => exact ⟨px, C + 1, s2, by go_num, rfl, hpx, hsl2.out, hid ⟨by rw [hcr.out]; exact e1.out, by rw [hcr.out]; omega⟩, rS.out⟩
          case measure => simp [intOf]; omega
    · obtain rfl : k = N := by omega
      have dk : decide ((k : Int) < (k : Int)) = false := decide_eq_false (by omega)
      replace rS := hid rS.out.f1
      rw [hresult.out, hni.out] at rS
      go_wp2_with (first
        | (go_at_call 197; (with_reducible refine (hsrt.out _ _ _ rS.out).mono ?_); rintro e w2 ⟨rfl, rS'⟩; replace rS := hid rS'; clear rS' hsrt))
      go_ret
      exact ⟨_, rfl, by rw [← hci.out]; exact rS.out.o0, rS.out.bel⟩
theorem cysI_nat (p : List Nat) : ∃ q : List Nat, cysI p = q.map Int.ofNat ∧ q.Perm (cyc p) := by
  have hp : (cysI p).Perm ((cyc p).map Int.ofNat) := List.mergeSort_perm _ _
  refine ⟨(cysI p).map Int.toNat, ?_, ?_⟩
  · rw [List.map_map]
    have : ∀ x ∈ cysI p, (Int.ofNat ∘ Int.toNat) x = x := fun x hx => by
      obtain ⟨c, _, rfl⟩ := List.mem_map.1 (hp.mem_iff.1 hx)
      rfl
    rw [List.map_congr_left this, List.map_id']
  · have h := hp.map Int.toNat
    rw [List.map_map] at h
    have e : (Int.toNat ∘ Int.ofNat) = (id : Nat → Nat) := funext fun x => rfl
    rw [e, List.map_id] at h
    exact h
theorem ordL_take {q : List Nat} {k c : Nat} (h : q[k]? = some c) : ordL (q.take (k + 1)) = Nat.lcm (ordL (q.take k)) c := by
  unfold ordL
  rw [List.take_add_one, h]
  simp
set_option maxHeartbeats 4000000 in
set_option maxRecDepth 100000 in
theorem order_any (w : World) (b0 : Nat) (v : Value) (p : List Nat) (h : Own w b0 2 v (nats p)) (hn : p.length ≤ 1000) (hlt : ∀ x, x < p.length → p.getD x 0 < p.length) (K : Nat) (hK0 : 0 < K) (hK : K < 1000000000) (hdv : ∀ c ∈ cyc p, c ∣ K) :
    Calls Tryz.prog 100 #[v] w fun e w' => e = .returned (.int .i64 (ordL (cyc p) : Nat)) ∧ Below w.heap.size w w' := by
  have hcy := hid (cycles_any w b0 v p h hn hlt)
  obtain ⟨q, hq, hqp⟩ := cysI_nat p
  rw [hq, ← nats_ints] at hcy
  have hord := hid (show ordL (cyc p) = ordL (q.take q.length) from by rw [List.take_length]; exact ordL_congr fun c => hqp.mem_iff.symm)
  rw [hord.out]
  have hqb := hid (fun k c (hc : q[k]? = some c) => (show 0 < c from by
    have hm := hqp.mem_iff.1 (List.mem_of_getElem? hc)
    exact (cyst_pos p p.length c hm).1))
  have hqd := hid (fun k => (show ordL (q.take k) ∣ K from ordL_dvd fun c hc => hdv c (hqp.mem_iff.1 (List.mem_of_mem_take hc))))
  have hpos := hid (fun k => Nat.pos_of_dvd_of_pos (hqd.out k) hK0)
  have hle := hid (fun k => Nat.le_of_dvd hK0 (hqd.out k))
  have hst := hid (fun k c (hc : q[k]? = some c) => ordL_take hc)
  have hl := hid (nats_length q)
  have hql : q.length ≤ 1000 := by rw [hqp.length_eq]; have := cyst_out p p.length; unfold cyc; omega
  have hmu := hid (fun k c (hc : q[k]? = some c) W => (by
    have h := multiple_any (ordL (q.take k)) c (hpos.out k) (hqb.out k c hc) (by rw [← hst.out k c hc]; have := hle.out (k + 1); omega) W
    rw [← hst.out k c hc] at h; exact h : Calls Tryz.prog 196 #[.int .i64 (ordL (q.take k) : Nat), .int .i64 (c : Nat)] W fun e w' => e = .returned (.int .i64 (ordL (q.take (k + 1)) : Nat)) ∧ Below W.heap.size W w'))
  have h0 := hid (show ordL (q.take 0) = 1 from rfl)
  have hng := hid (fun (k c : Nat) (hc : q[k]? = some c) => (show (nats q)[k]? = some (.int .i64 (c : Nat)) by simp [nats, hc]))
  obtain ⟨F, hF⟩ : ∃ F : Nat → Nat, F = fun k => ordL (q.take k) := ⟨_, rfl⟩
  have hFe := hid (fun k => (show ordL (q.take k) = F k by rw [hF]))
  simp only [hFe.out] at hmu h0 hle ⊢
  clear hF hFe hst hord hqd hpos hqb h
  generalize hN : q.length = N at *
  replace hN := hid hN
  go_enter Tryz.func100, Tryz.ntmps100
  go_wp2_with (first
    | (go_at_call 102; (with_reducible refine (hcy.out).mono ?_); rintro e w1 ⟨v1, rfl, hO, hb⟩; obtain ⟨A, cp, rfl, _, hA⟩ := hO.form; rw [hl.out]; rw [hl.out] at hO; replace hO := hid hO; replace hA := hid hA; have hB := hid hb; clear hcy hb))
  go_loopw [3, 9] (fun o i wr => ∃ k : Nat, k ≤ N ∧ i = .int .i64 k ∧ o = .int .i64 (F k : Nat) ∧ Hid (Below w1.heap.size w1 wr)) (fun _ i _ => N - (intOf i).toNat)
  case atStart => exact ⟨0, Nat.zero_le _, rfl, by rw [h0.out]; rfl, Below.refl _ _⟩
  case round =>
    obtain ⟨k, hk, rfl, rfl, rB⟩ := hrel
    by_cases hlt : k < N
    · have dk : decide ((k : Int) < (N : Int)) = true := decide_eq_true (by omega)
      obtain ⟨c, hc⟩ : ∃ c, q[k]? = some c := ⟨_, List.getElem?_eq_getElem (by rw [hN.out]; exact hlt)⟩
      obtain ⟨g, rfl⟩ : ∃ g, A = some ⟨g, 0, none⟩ := by
        rcases hA.out with ⟨_, h1, _⟩ | ⟨g, h1, _⟩
        · have : N = 0 := by rw [← hl.out, h1]; rfl
          omega
        · exact ⟨g, h1⟩
      have ck := (hO.out.below rB.out).cellAt k _ (hng.out k c hc)
      have hmk := hid (hmu.out k c hc)
      generalize hfk1 : F (k + 1) = fk1 at *
      replace hfk1 := hid hfk1
      generalize F k = fk at *
      clear hc
      go_wp2_with (first
        | (go_at_call 196; (with_reducible refine (hmk.out _).mono ?_); rintro e w2 ⟨rfl, hb⟩; replace rB := hid (rB.out.trans (hb.mono rB.out.size)); clear hb))
      go_roundw
      case rel => exact ⟨k + 1, by omega, by go_num, by rw [hfk1.out], rB⟩
      case measure => simp [intOf]; omega
    · obtain rfl : k = N := by omega
      have dk : decide ((k : Int) < (k : Int)) = false := decide_eq_false (by omega)
      go_wp2
      go_ret
      exact ⟨rfl, hB.out.trans (rB.out.mono hB.out.size)⟩
end Go.Proofs.YthmcdfjijkecfaaGreat

/- OrderOfPortrait: what the program answers. -/
namespace Go.Proofs.YthmcdfjijkecfaaGreat
open Go.RowKit
set_option linter.unusedVariables false
set_option linter.unusedSimpArgs false
-- @LONG

/-- The permutation of a level that a portrait makes. -/
def prtP (d : Nat) (g : List Int) (n : Nat) : List Nat := pmF d (actP d g) n
theorem prt_K {d n : Nat} {g : List Int} (hd : d = 2 ∨ d = 3) (hn : n ≤ 4) (hg : IsP d n g) : 0 < bk d ^ n ∧ bk d ^ n < 1000000000 ∧ ∀ c ∈ cyc (prtP d g n), c ∣ bk d ^ n := by
  refine ⟨?_, ?_, fun c hc => cyc_dvd (pmF_pm (by omega) (aut_act hd hg)) (fun x hx => pmF_back hd (aut_act hd hg) (by rw [pmF_length] at hx; exact hx)) hc⟩
  · have : n = 0 ∨ n = 1 ∨ n = 2 ∨ n = 3 ∨ n = 4 := by omega
    rcases hd with rfl | rfl <;> rcases this with rfl | rfl | rfl | rfl | rfl <;> decide
  · have : n = 0 ∨ n = 1 ∨ n = 2 ∨ n = 3 ∨ n = 4 := by omega
    rcases hd with rfl | rfl <;> rcases this with rfl | rfl | rfl | rfl | rfl <;> decide
open Classical in
/-- What OrderOfPortrait answers. -/
noncomputable def oopAns (d n : Int) (g : List Int) : Int × Int := if pcode d n [g] = 0 then (((ordL (cyc (prtP d.toNat g n.toNat)) : Nat) : Int), 0) else (0, pcode d n [g])
set_option maxHeartbeats 1000000 in
theorem ofp1_any (base : Nat) (w0 w : World) (b2 b1 : Nat) (d n : Nat) (hd : d = 2 ∨ d = 3) (hn : n ≤ 4) (v : Value) (g : List Int) (hg : IsP d n g)
    (hS : St base w0 [Asn.blk b2 #[v] 32, Asn.blk b1 #[.int .i64 d] 2, Asn.own 0 2 v (ints g)] w)
    (u : List Nat) (hl : u.length = n) (hu : ∀ x ∈ u, x < d) :
    Calls Tryz.prog 195 #[.string (wstr u), .pointer (some ⟨b1, 0, none⟩), .pointer (some ⟨b2, 0, none⟩)] w fun e w' => e = .returned (.string (wstr (actP d g u))) ∧ Below w.heap.size w w' := by
  have hil := ints_length g
  have hac := hid (act_any w d n hd hn 0 v g hS.o2 hg u hu (by omega))
  obtain ⟨A, c, rfl, _, _⟩ := hS.o2.form
  rw [hil] at hS hac
  have c1 := blkc hS.k1
  have c2 := blkc hS.k0
  clear hu hl
  generalize wstr u = su at *
  generalize wstr (actP d g u) = R at *
  replace hS := hid hS; replace hg := hid hg
  go_enter Tryz.func195, Tryz.ntmps195
  go_wp2_with (first
    | (go_at_call 96; (with_reducible refine (hac.out).mono ?_); rintro e w1 ⟨rfl, hb⟩; have hB := hid hb; clear hb))
  go_ret
  exact ⟨rfl, hB.out⟩
set_option maxHeartbeats 2000000 in
set_option maxRecDepth 100000 in
theorem permutation_ofp (b2 b1 : Nat) (d n : Nat) (hd : 0 < d) (h3 : d ≤ 3) (hn : n ≤ 40) (hb : pw d n ≤ 100000) (w : World) (F : List Nat → List Nat)
    (hF : ∀ u, u.length = n → (∀ x ∈ u, x < d) → (F u).length = n ∧ ∀ x ∈ F u, x < d)
    (hf : ∀ W, Below w.heap.size w W → ∀ u, u.length = n → (∀ x ∈ u, x < d) → Calls Tryz.prog 195 #[.string (wstr u), .pointer (some ⟨b1, 0, none⟩), .pointer (some ⟨b2, 0, none⟩)] W fun e W' => e = .returned (.string (wstr (F u))) ∧ Below W.heap.size W W') :
    Calls Tryz.prog 94 #[.int .i64 d, .int .i64 n, .func (.func 195) #[] #[.pointer (some ⟨b1, 0, none⟩), .pointer (some ⟨b2, 0, none⟩)]] w fun e w' => ∃ v, e = .returned v ∧ Own w' w.heap.size 2 v (rng (fun k => num d (F (wrd d n k))) (pw d n)) ∧ Below w.heap.size w w' := by
  have hl := hid (level_any d n hd h3 hn hb w)
  have hpos := pw_pos d hd n
  have hwl := hid (fun k => wrd_length d n k)
  have hwm := hid (fun k => wrd_lt d hd n k)
  have hFo := hid (fun k => hF (wrd d n k) (wrd_length d n k) (wrd_lt d hd n k))
  have hnum := hid (fun k W => numberOf_any d hd h3 (F (wrd d n k)) (hFo.out k).2 (by rw [(hFo.out k).1]; omega) (by rw [(hFo.out k).1]; omega) W)
  replace hf := hid hf
  clear hF
  generalize hM : pw d n = M at *
  go_enter Tryz.func94, Tryz.ntmps94
  go_wp2_with (first
    | (go_at_call 182; (with_reducible refine (hl.out).mono ?_); rintro e w1 ⟨v, rfl, hO, hB⟩; obtain ⟨g, cap, rfl, hg1, hg2⟩ := hO.blk (fun e => by have := lvl_length d n M; rw [e] at this; simp at this; omega); have hll := lvl_length d n M; rw [hll] at hO; rw [hll]; clear hll; replace hO := hid hO; replace hB := hid hB; clear hl))
  go_loopw [7, 14] (fun v i wr => ∃ k : Nat, k ≤ M ∧ i = .int .i64 k ∧ Own wr w1.heap.size 2 v (rng (fun k => num d (F (wrd d n k))) k) ∧ Below w1.heap.size w1 wr) (fun _ i _ => M - (intOf i).toNat)
  case atStart => exact ⟨0, Nat.zero_le _, rfl, Own.nil _ _ _, Below.refl _ _⟩
  case round =>
    obtain ⟨k, hk, rfl, r1, rB⟩ := hrel
    have hll := hid (rng_length (fun k => num d (F (wrd d n k))) k)
    replace r1 := hid r1; replace rB := hid rB
    by_cases hlt : k < M
    · have dk : decide ((k : Int) < (M : Int)) = true := decide_eq_true (by omega)
      have hsn := hid (rng_snoc (fun k => num d (F (wrd d n k))) k)
      have ck := (hO.out.below rB.out).cellAt k _ (lvl_get d n M k hlt)
      have hBw := hid (hB.out.trans (rB.out.mono hB.out.size))
      go_wp2_with (first
        | (go_at_call 195; (with_reducible refine (hf.out _ hBw.out _ (hwl.out k) (hwm.out k)).mono ?_); rintro e w2 ⟨rfl, hb1⟩; replace r1 := hid (r1.out.below hb1); replace rB := hid (rB.out.trans (hb1.mono rB.out.size)); clear hb1 ck hBw)
        | (go_at_call 193; (with_reducible refine (hnum.out k _).mono ?_); rintro e w3 ⟨rfl, rfl⟩)
        | ((with_reducible refine gate (N := 25) rfl ?_); refine app1 32 2 (.int .i64 0) 8 Tryz.underlying32 info_i64 rfl (by omega) rfl _ _ rfl w1.heap.size _ _ rfl r1.out rB.out.size _ rfl rfl (by have := hll.out; omega) ?_; intro gn cap w2 hO2 hb2 hold hsz2 _; replace hO2 := hid hO2; have tB := hid (rB.out.trans hb2); clear hb2 hold hsz2 r1 rB))
      go_roundw
      case rel => exact ⟨k + 1, by omega, by go_num, by rw [hsn.out]; exact hO2.out, tB.out⟩
      case measure => simp [intOf]; omega
    · obtain rfl : k = M := by omega
      go_wp2
      go_ret
      exact ⟨_, rfl, r1.out.mono hB.out.size, hB.out.trans (rB.out.mono hB.out.size)⟩
set_option maxHeartbeats 2000000 in
set_option maxRecDepth 4000 in
theorem ofPortrait_any (w : World) (d n : Nat) (hd : d = 2 ∨ d = 3) (hn : n ≤ 4) (b0 : Nat) (v : Value) (g : List Int) (hO : Own w b0 2 v (ints g)) (hg : IsP d n g) :
    Calls Tryz.prog 99 #[.int .i64 d, .int .i64 n, v] w fun e w' => ∃ v', e = .returned v' ∧ Own w' w.heap.size 2 v' (nats (prtP d g n)) ∧ Below w.heap.size w w' := by
  obtain ⟨A, c, rfl, _, _⟩ := hO.form
  rw [ints_length] at hO ⊢
  have hS := ((St.arg w hO).newBlk #[.int .i64 d] 2).newBlk #[.slice A g.length c] 32
  rw [heap_alloc_size] at hS
  replace hS := hid hS
  have hmf : ∀ (fn : Fn) (first cap : Array Value) (w : World), (Instr.makeFunc fn first cap).run Tryz.prog w = .ok (.func fn first cap) w := fun _ _ _ _ => rfl
  have hb := pw5 (n := n) hd (by omega)
  have hpe := hid (fun W (hS : St w.heap.size w [Asn.blk (w.heap.size + 1) #[.slice A g.length c] 32, Asn.blk w.heap.size #[.int .i64 d] 2, Asn.own 0 2 (.slice A g.length c) (ints g)] W) =>
    permutation_ofp (w.heap.size + 1) w.heap.size d n (by omega) (by omega) (by omega) (by omega) W (actP d g) (fun u hl hu => ⟨by rw [actP_length, hl], actP_lt hd hg u hu (by omega)⟩) (fun W' hW' u hl hu => ofp1_any w.heap.size w W' _ _ d n hd hn _ g hg (hS.call hW') u hl hu))
  have c1 := blkc hS.out.k1
  have hres := hid (show rng (fun k => num d (actP d g (wrd d n k))) (pw d n) = nats (prtP d g n) from rfl)
  replace hO := hid hO; replace hg := hid hg
  go_enter Tryz.func99, Tryz.ntmps99
  go_wp2_with (first
    | (go_at_call 94; (with_reducible refine (hpe.out _ hS.out).mono ?_); rintro e w1 ⟨v1, rfl, hO1, hb⟩; rw [hres.out] at hO1; replace hS := hid (hS.out.callOwn hb hO1); clear hO1 hb))
  go_ret
  exact ⟨_, rfl, hS.out.o0, hS.out.bel⟩
set_option maxHeartbeats 2000000 in
set_option maxRecDepth 4000 in
theorem implOop_any (w : World) (d n : Int) (b0 : Nat) (v : Value) (g : List Int) (hg : Own w b0 2 v (ints g)) (hl : g.length < 2000000) :
    Calls Tryz.prog 16 #[.int .i64 d, .int .i64 n, v] w fun e w' => e = .returned (.tuple #[.int .i64 (oopAns d n g).1, .int .i64 (oopAns d n g).2]) ∧ Below w.heap.size w w' := by
  classical
  obtain ⟨A0, cp0, rfl, _, _⟩ := hg.form
  rw [ints_length] at hg ⊢
  have hS := (St.arg w hg).newOwn [(Value.slice A0 g.length cp0)] 32 (by simp)
  simp only [List.length_cons, List.length_nil, Nat.zero_add] at hS
  replace hS := hid hS
  have hpc := hid (fun W b vv (hO : Own W b 32 vv [(Value.slice A0 g.length cp0)]) (hr : Own W b 2 (Value.slice A0 g.length cp0) (ints g)) => portraitCode_any W d n b vv [g] (mat1 hO hr) (by simp) (by simp; omega))
  rcases pcode_cases d n g with hp | hp | ⟨hp, d, n, rfl, rfl, hd, hn1, hn4, hgp⟩
  · have hA : oopAns d n g = (0, 1) := by unfold oopAns; rw [hp, if_neg (by decide)]
    rw [hA]
    rw [hp] at hpc
    replace hg := hid hg; clear hp hA
    go_enter Tryz.func16, Tryz.ntmps16
    go_wp2_with (first
      | (go_at_call 92; (with_reducible refine (hpc.out _ _ _ (hS.out.o0.mono (Nat.zero_le _)) hS.out.o1).mono ?_); rintro e w1 ⟨rfl, hb⟩; replace hS := hid (hS.out.call hb).drop; clear hb))
    go_ret2
    exact ⟨rfl, hS.out.bel⟩
  · have hA : oopAns d n g = (0, 2) := by unfold oopAns; rw [hp, if_neg (by decide)]
    rw [hA]
    rw [hp] at hpc
    replace hg := hid hg; clear hp hA
    go_enter Tryz.func16, Tryz.ntmps16
    go_wp2_with (first
      | (go_at_call 92; (with_reducible refine (hpc.out _ _ _ (hS.out.o0.mono (Nat.zero_le _)) hS.out.o1).mono ?_); rintro e w1 ⟨rfl, hb⟩; replace hS := hid (hS.out.call hb).drop; clear hb))
    go_ret2
    exact ⟨rfl, hS.out.bel⟩
  · have hA : oopAns d n g = (((ordL (cyc (prtP d g n)) : Nat) : Int), 0) := by unfold oopAns; rw [if_pos hp]; rfl
    rw [hA]
    rw [hp] at hpc
    obtain ⟨hK0, hK, hdv⟩ := prt_K hd hn4 hgp
    have hof := hid (fun W (hO : Own W 0 2 (Value.slice A0 g.length cp0) (ints g)) => ofPortrait_any W d n hd hn4 0 _ g hO hgp)
    have hpl : (prtP d g n).length ≤ 243 := by unfold prtP; rw [pmF_length]; exact pw5 hd (by omega)
    have hor := hid (fun W b v (hO : Own W b 2 v (nats (prtP d g n))) => order_any W b v (prtP d g n) hO (by omega) (pmF_pm (by omega) (aut_act hd hgp)).lt _ hK0 hK hdv)
    replace hg := hid hg; replace hgp := hid hgp; clear hp hA hK0 hK hdv hpl
    generalize ordL (cyc (prtP d g n)) = R at *
    generalize prtP d g n = p at *
    go_enter Tryz.func16, Tryz.ntmps16
    go_wp2_with (first
      | (go_at_call 92; (with_reducible refine (hpc.out _ _ _ (hS.out.o0.mono (Nat.zero_le _)) hS.out.o1).mono ?_); rintro e w1 ⟨rfl, hb⟩; replace hS := hid (hS.out.call hb).drop; clear hb)
      | (go_at_call 99; (with_reducible refine (hof.out _ hS.out.o0).mono ?_); rintro e w2 ⟨v2, rfl, hO, hb⟩; replace hS := hid (hS.out.callOwn hb hO); clear hO hb)
      | (go_at_call 100; (with_reducible refine (hor.out _ _ _ hS.out.o0).mono ?_); rintro e w3 ⟨rfl, hb⟩; replace hS := hid (hS.out.call hb); clear hb))
    go_ret2
    exact ⟨rfl, hS.out.bel⟩
end Go.Proofs.YthmcdfjijkecfaaGreat

/- OrderOfPortrait: what the reference answers. -/
namespace Go.Proofs.YthmcdfjijkecfaaGreat
open Go.RowKit
set_option linter.unusedVariables false
set_option linter.unusedSimpArgs false
-- @LONG

def dgb (u : List Nat) : List Value := u.map fun x : Nat => .int .u8 (48 + (x : Int))
theorem dgb_length (u : List Nat) : (dgb u).length = u.length := by simp [dgb]
theorem dgb_snoc (u : List Nat) (x : Nat) : dgb (u ++ [x]) = dgb u ++ [.int .u8 (48 + (x : Int))] := by simp [dgb]
set_option maxHeartbeats 4000000 in
set_option maxRecDepth 100000 in
theorem l03Act_any (w : World) (d n : Nat) (hd : d = 2 ∨ d = 3) (hn : n ≤ 4) (b0 : Nat) (v : Value) (g : List Int) (hO : Own w b0 2 v (ints g)) (hg : IsP d n g) (u : List Nat) (hu : ∀ x ∈ u, x < d) (hl : u.length ≤ n) :
    Calls Tryz.prog 224 #[.int .i64 d, v, .string (wstr u)] w fun e w' => e = .returned (.string (wstr (actP d g u))) ∧ Below w.heap.size w w' := by
  have hsz := wstr_size u
  have hbyte := hid (fun k hk => wstr_byte u k hk (fun x hx => by have := hu x hx; omega))
  have hS := (St.arg w hO).newOwn [] 5 (by simp)
  simp only [List.length_nil] at hS
  replace hS := hid hS
  have hd3 : d ≤ 3 ∧ 2 ≤ d := by rcases hd with h | h <;> rw [h] <;> decide
  have hrd := hid (fun k (hk : k < u.length) => (show ∃ kk : Nat, gAt d g (u.take k) = (kk : Nat) ∧ kk < cnt d ∧ u.getD k 0 < d ∧ pim d kk (u.getD k 0) < d ∧ actP d g (u.take (k + 1)) = actP d g (u.take k) ++ [pim d kk (u.getD k 0)] from by
    have htl : (u.take k).length = k := by rw [List.length_take]; omega
    have hm : ∀ x ∈ u.take k, x < d := fun x hx => hu x (List.mem_of_mem_take hx)
    have hgn := gAt_nat hd hg (u.take k) hm (by omega)
    have hx := hu _ (getD_mem u k hk)
    exact ⟨(gAt d g (u.take k)).toNat, hgn.1.symm, hgn.2, hx, pim_lt d _ _ hd hgn.2 hx, actP_take d g u k hk⟩))
  have hat := hid (fun k (hk : k < u.length) (W : World) (hO : Own W 0 2 v (ints g)) => (by
    have h := l03At_any W d n hd hn 0 v g hO hg (u.take k) (fun x hx => hu x (List.mem_of_mem_take hx)) (by rw [List.length_take]; omega)
    rw [← wstr_take] at h; exact h : Calls Tryz.prog 162 #[.int .i64 d, v, .string ((wstr u).extract 0 k)] W fun e w' => e = .returned (.int .i64 (gAt d g (u.take k))) ∧ W = w'))
  have him := hid (fun k (hk : k < cnt d) W => (by have h := l03Images_any d k hd hk W; rw [row3] at h; exact h : Calls Tryz.prog 247 #[.int .i64 d, .int .i64 k] W fun e w' => e = .returned (.agg #[.int .u8 (pim d k 0 : Nat), .int .u8 (pim d k 1 : Nat), .int .u8 (pim d k 2 : Nat)]) ∧ Below W.heap.size W w'))
  have hal := hid (fun k (hk : k ≤ u.length) => (show (dgb (actP d g (u.take k))).length = k by rw [dgb_length, actP_length, List.length_take]; omega))
  have hfu := hid (show actP d g u = actP d g (u.take u.length) by rw [List.take_length])
  have h0 := hid (show dgb (actP d g (u.take 0)) = [] by simp [actP, dgb])
  rw [hfu.out]
  replace hg := hid hg; replace hu := hid hu
  clear hfu
  generalize hwe : wstr u = ws at *
  replace hwe := hid hwe
  generalize hN : u.length = N at *
  replace hN := hid hN
  go_enter Tryz.func224, Tryz.ntmps224
  go_wp2
  go_loopw [7, 8] (fun o i wr => ∃ k : Nat, k ≤ N ∧ i = .int .i64 k ∧ St w.heap.size w [Asn.own w.heap.size 5 o (dgb (actP d g (u.take k))), Asn.own 0 2 v (ints g)] wr) (fun _ i _ => N - (intOf i).toNat)
  case atStart => exact ⟨0, Nat.zero_le _, rfl, by rw [h0.out]; exact hS.out⟩
  case round =>
    obtain ⟨k, hk, rfl, rS⟩ := hrel
    clear hS
    replace rS := hid rS
    by_cases hkN : k < N
    · have dk : decide ((k : Int) < (N : Int)) = true := decide_eq_true (by omega)
      have hks : k ≤ ws.size := by omega
      have hks2 : k < ws.size := by omega
      have hatk := hid (hat.out k hkN)
      obtain ⟨kk, hgk, hkk, hx, hy, hsn⟩ := hrd.out k hkN
      rw [hgk] at hatk
      have hik := hid (him.out kk hkk)
      have hby := hbyte.out k hks2
      have hlk := hid (hal.out k hk)
      have hpx := hid (fun (x : Nat) (hx : x < d) => (show #[Value.int .u8 (pim d kk 0 : Nat), .int .u8 (pim d kk 1 : Nat), .int .u8 (pim d kk 2 : Nat)][x]? = some (.int .u8 (pim d kk x : Nat)) from by
        have : x = 0 ∨ x = 1 ∨ x = 2 := by omega
        rcases this with rfl | rfl | rfl <;> rfl))
      replace hsn := hid hsn
      clear hgk
      generalize u.getD k 0 = x at *
      have hpx2 := hid (hpx.out x hx)
      clear hpx
      generalize pim d kk x = y at *
      generalize pim d kk 0 = a0 at *
      generalize pim d kk 1 = a1 at *
      generalize pim d kk 2 = a2 at *
      generalize actP d g (u.take k) = ak at *
      have e3 : 48 + (x : Int) - 48 = x := by omega
      have e4 : ((x : Nat) : Int) % 256 = (x : Nat) := by omega
      have e5 : (48 + (y : Int)) % 256 = 48 + (y : Int) := by omega
      have ew5 : IntKind.u8.wrap (48 + (y : Int)) = 48 + (y : Int) := IntWalk.u8_in _ (by omega)
      have x0 : (0 : Int) ≤ (x : Int) := Int.natCast_nonneg _
      have x1 : (x : Int) < 3 := by omega
      go_upto_region 6 with (first
        | (go_at_call 162; (with_reducible refine (hatk.out _ rS.out.o1).mono ?_); rintro e w2 ⟨rfl, rfl⟩)
        | (go_at_call 247; (with_reducible refine (hik.out _).mono ?_); rintro e w3 ⟨rfl, hb⟩; replace rS := hid (rS.out.call hb); clear hb))
      replace rS := hid (rS.out.newBlk #[.int .u8 (a0 : Nat), .int .u8 (a1 : Nat), .int .u8 (a2 : Nat)] 24)
      have cx := (cell_of_row _ _ x _ _ _ rS.out.k0).trans hpx2.out
      generalize w3.heap.size = b3 at *
      generalize w3.alloc _ = w4 at *
      replace rS := hid rS.out.drop
      go_wp2_with (first
        | ((with_reducible refine gate (N := 34) rfl ?_); refine St.app 22 5 (.int .u8 0) 1 Tryz.underlying22 info_u8 rfl (by omega) rfl _ _ rfl _ _ rfl rS.out _ rfl rfl k hlk.out (by omega) ?_; intro gn cn w5 rS'; replace rS := hid rS'; clear rS'))
      rw [← dgb_snoc, ← hsn.out] at rS
      go_roundw
      case rel => exact ⟨k + 1, by omega, by go_num, rS.out⟩
      case measure => simp [intOf]; omega
    · obtain rfl : k = N := by omega
      have dk : decide ((k : Int) < (k : Int)) = false := decide_eq_false (by omega)
      have hconv := Own.conv (show Own _ _ 5 _ ((actP d g (u.take k)).map fun x : Nat => .int .u8 (48 + (x : Int))) from rS.out.o0)
      go_wp2
      go_ret
      exact ⟨rfl, rS.out.bel⟩
set_option maxHeartbeats 4000000 in
set_option maxRecDepth 100000 in
theorem l03Permutation_any (w : World) (d n : Nat) (hd : d = 2 ∨ d = 3) (hn : n ≤ 4) (b0 : Nat) (v : Value) (g : List Int) (hO : Own w b0 2 v (ints g)) (hg : IsP d n g) :
    Calls Tryz.prog 156 #[.int .i64 d, .int .i64 n, v] w fun e w' => ∃ v', e = .returned v' ∧ Own w' w.heap.size 2 v' (nats (prtP d g n)) ∧ Below w.heap.size w w' := by
  have hS := (St.arg w hO).newOwn [] 2 (by simp)
  simp only [List.length_nil] at hS
  replace hS := hid hS
  have hb := pw5 (n := n) hd (by omega)
  have hd3 : d ≤ 3 ∧ 2 ≤ d := by rcases hd with h | h <;> rw [h] <;> decide
  have hpw := hid (fun W => l01Power_any d n (by omega) (by omega) (by omega) W)
  have hres := hid (show rng (fun k => num d (actP d g (wrd d n k))) (pw d n) = nats (prtP d g n) from rfl)
  have hwo := hid (fun k (hk : k < pw d n) W => l01WordOf_any d (by omega) (by omega) n k (by omega) (by omega) W)
  have hac := hid (fun k W (hO : Own W 0 2 v (ints g)) => l03Act_any W d n hd hn 0 v g hO hg (wrd d n k) (wrd_lt d (by omega) n k) (by rw [wrd_length]; omega))
  have hal := hid (fun k => (actP_length (d := d) (g := g) (wrd d n k)).trans (wrd_length d n k))
  have hnum := hid (fun k W => l01NumberOf_any d (by omega) (by omega) (actP d g (wrd d n k)) (actP_lt hd hg _ (wrd_lt d (by omega) n k) (by rw [wrd_length]; omega)) (by rw [hal.out k]; omega) (by rw [hal.out k]; omega) W)
  clear hal
  replace hO := hid hO; replace hg := hid hg
  generalize hMn : pw d n = M at *
  replace hMn := hid hMn
  go_enter Tryz.func156, Tryz.ntmps156
  go_wp2
  go_loopw [7, 8] (fun o i wr => ∃ k : Nat, k ≤ M ∧ i = .int .i64 k ∧ St w.heap.size w [Asn.own w.heap.size 2 o (rng (fun k => num d (actP d g (wrd d n k))) k), Asn.own 0 2 v (ints g)] wr) (fun _ i _ => M - (intOf i).toNat)
  case atStart => exact ⟨0, Nat.zero_le _, rfl, hS.out⟩
  case round =>
    obtain ⟨k, hk, rfl, rS⟩ := hrel
    clear hS
    have hll := hid (rng_length (fun k => num d (actP d g (wrd d n k))) k)
    replace rS := hid rS
    by_cases hlt : k < M
    · have dk : decide ((k : Int) < (M : Int)) = true := decide_eq_true (by omega)
      have hsn := hid (rng_snoc (fun k => num d (actP d g (wrd d n k))) k)
      have hack := hid (hac.out k)
      have hwk := hid (hwo.out k hlt)
      have hnk := hid (hnum.out k)
      generalize num d (actP d g (wrd d n k)) = nk at *
      generalize wstr (actP d g (wrd d n k)) = iw at *
      generalize wstr (wrd d n k) = wk at *
      go_wp2_with (first
        | (go_at_call 120; (with_reducible refine (hpw.out _).mono ?_); rintro e w' ⟨rfl, rfl⟩)
        | (go_at_call 128; (with_reducible refine (hwk.out _).mono ?_); rintro e w3 ⟨rfl, hb⟩; replace rS := hid (rS.out.call hb); clear hb)
        | (go_at_call 224; (with_reducible refine (hack.out _ rS.out.o1).mono ?_); rintro e w4 ⟨rfl, hb⟩; replace rS := hid (rS.out.call hb); clear hb)
        | (go_at_call 210; (with_reducible refine (hnk.out _).mono ?_); rintro e w' ⟨rfl, rfl⟩)
        | ((with_reducible refine gate (N := 28) rfl ?_); refine St.app 32 2 (.int .i64 0) 8 Tryz.underlying32 info_i64 rfl (by omega) rfl _ _ rfl _ _ rfl rS.out _ rfl rfl k hll.out (by omega) ?_; intro gn cn w5 rS'; replace rS := hid rS'; clear rS'))
      rw [← hsn.out] at rS
      go_roundw
      case rel => exact ⟨k + 1, by omega, by go_num, rS.out⟩
      case measure => simp [intOf]; omega
    · obtain rfl : k = M := by omega
      have dk : decide ((k : Int) < (k : Int)) = false := decide_eq_false (by omega)
      rw [hres.out] at rS
      go_wp2_with (first
        | (go_at_call 120; (with_reducible refine (hpw.out _).mono ?_); rintro e w' ⟨rfl, rfl⟩))
      go_ret
      exact ⟨_, rfl, rS.out.o0, rS.out.bel⟩
set_option maxHeartbeats 4000000 in
set_option maxRecDepth 100000 in
theorem specOop_any (w : World) (d n : Int) (b0 : Nat) (v : Value) (g : List Int) (hg : Own w b0 2 v (ints g)) (hl : g.length < 2000000) :
    Calls Tryz.prog 55 #[.int .i64 d, .int .i64 n, v] w fun e w' => e = .returned (.tuple #[.int .i64 (oopAns d n g).1, .int .i64 (oopAns d n g).2]) ∧ Below w.heap.size w w' := by
  classical
  obtain ⟨A0, cp0, rfl, _, _⟩ := hg.form
  rw [ints_length] at hg ⊢
  have hS := (St.arg w hg).newOwn [(Value.slice A0 g.length cp0)] 32 (by simp)
  simp only [List.length_cons, List.length_nil, Nat.zero_add] at hS
  replace hS := hid hS
  have hpc := hid (fun W b vv (hO : Own W b 32 vv [(Value.slice A0 g.length cp0)]) (hr : Own W b 2 (Value.slice A0 g.length cp0) (ints g)) => l03Code_any W d n b vv [g] (mat1 hO hr) (by simp) (by simp; omega))
  rcases pcode_cases d n g with hp | hp | ⟨hp, d, n, rfl, rfl, hd, hn1, hn4, hgp⟩
  · have hA : oopAns d n g = (0, 1) := by unfold oopAns; rw [hp, if_neg (by decide)]
    rw [hA]
    rw [hp] at hpc
    replace hg := hid hg; clear hp hA
    go_enter Tryz.func55, Tryz.ntmps55
    go_wp2_with (first
      | (go_at_call 152; (with_reducible refine (hpc.out _ _ _ (hS.out.o0.mono (Nat.zero_le _)) hS.out.o1).mono ?_); rintro e w1 ⟨rfl, hb⟩; replace hS := hid (hS.out.call hb).drop; clear hb))
    go_ret2
    exact ⟨rfl, hS.out.bel⟩
  · have hA : oopAns d n g = (0, 2) := by unfold oopAns; rw [hp, if_neg (by decide)]
    rw [hA]
    rw [hp] at hpc
    replace hg := hid hg; clear hp hA
    go_enter Tryz.func55, Tryz.ntmps55
    go_wp2_with (first
      | (go_at_call 152; (with_reducible refine (hpc.out _ _ _ (hS.out.o0.mono (Nat.zero_le _)) hS.out.o1).mono ?_); rintro e w1 ⟨rfl, hb⟩; replace hS := hid (hS.out.call hb).drop; clear hb))
    go_ret2
    exact ⟨rfl, hS.out.bel⟩
  · have hA : oopAns d n g = (((ordL (cyc (prtP d g n)) : Nat) : Int), 0) := by unfold oopAns; rw [if_pos hp]; rfl
    rw [hA]
    rw [hp] at hpc
    obtain ⟨hK0, hK, hdv⟩ := prt_K hd hn4 hgp
    have hpm := pmF_pm (n := n) (by omega) (aut_act hd hgp)
    have hpl : (prtP d g n).length ≤ 243 := by unfold prtP; rw [pmF_length]; exact pw5 hd (by omega)
    have hof := hid (fun W (hO : Own W 0 2 (Value.slice A0 g.length cp0) (ints g)) => l03Permutation_any W d n hd hn4 0 _ g hO hgp)
    have hcyl := hid (fun W b v (hO : Own W b 2 v (nats (prtP d g n))) => l03Cycles_any W b v (prtP d g n) hO (by omega) hpm.lt)
    have hql : (cyc (prtP d g n)).length ≤ 1000 := by have := cyst_out (prtP d g n) (prtP d g n).length; unfold cyc; omega
    have hqb := hid (fun k c (hc : (cyc (prtP d g n))[k]? = some c) => (show 0 < c ∧ c ≤ 243 from by
      have := cyst_pos (prtP d g n) (prtP d g n).length c (List.mem_of_getElem? hc); omega))
    clear hpm hpl
    generalize hqe : cyc (prtP d g n) = q at *
    replace hqe := hid hqe
    have hqd := hid (fun k => (show ordL (q.take k) ∣ bk d ^ n from ordL_dvd fun c hc => hdv c (List.mem_of_mem_take hc)))
    generalize bk d ^ n = K at *
    have hpos := hid (fun k => Nat.pos_of_dvd_of_pos (hqd.out k) hK0)
    have hle := hid (fun k => Nat.le_of_dvd hK0 (hqd.out k))
    have hst := hid (fun k c (hc : q[k]? = some c) => ordL_take hc)
    have hlst := hid (fun k c => lcm_step (ordL (q.take k)) c)
    have hgp0 := hid (fun k c => Nat.gcd_pos_of_pos_left c (hpos.out k))
    have hdl := hid (fun k c => Nat.div_le_self (ordL (q.take k)) (Nat.gcd (ordL (q.take k)) c))
    have hl := hid (nats_length q)
    have hdi := hid (fun k c (hc : q[k]? = some c) W => l03Divisor_any (ordL (q.take k)) c (by have := hle.out k; omega) (by have := hqb.out k c hc; omega) W)
    have hord := hid (show ordL (q.take q.length) = ordL q from by rw [List.take_length])
    have h0 := hid (show ordL (q.take 0) = 1 from rfl)
    have hng := hid (fun (k c : Nat) (hc : q[k]? = some c) => (show (nats q)[k]? = some (.int .i64 (c : Nat)) by simp [nats, hc]))
    rw [← hord.out]
    obtain ⟨F, hF⟩ : ∃ F : Nat → Nat, F = fun k => ordL (q.take k) := ⟨_, rfl⟩
    have hFe := hid (fun k => (show ordL (q.take k) = F k by rw [hF]))
    simp only [hFe.out] at hdi h0 hle hlst hgp0 hdl hst ⊢
    clear hF hFe hord hqd hpos
    replace hg := hid hg; replace hgp := hid hgp; clear hp hA hdv
    generalize hN : q.length = N at *
    replace hN := hid hN
    go_enter Tryz.func55, Tryz.ntmps55
    go_wp2_with (first
      | (go_at_call 152; (with_reducible refine (hpc.out _ _ _ (hS.out.o0.mono (Nat.zero_le _)) hS.out.o1).mono ?_); rintro e w1 ⟨rfl, hb⟩; replace hS := hid (hS.out.call hb).drop; clear hb)
      | (go_at_call 156; (with_reducible refine (hof.out _ hS.out.o0).mono ?_); rintro e w2 ⟨v2, rfl, hO, hb⟩; replace hS := hid (hS.out.callOwn hb hO); clear hO hb)
      | (go_at_call 155; (with_reducible refine (hcyl.out _ _ _ hS.out.o0).mono ?_); rintro e w3 ⟨v3, rfl, hO, hb⟩; obtain ⟨A, cp, rfl, _, hA⟩ := hO.form; rw [hl.out]; rw [hl.out] at hO; replace hS := hid (hS.out.callOwn hb hO); replace hA := hid hA; clear hO hb))
    go_loopw [10, 11] (fun o i wr => ∃ k : Nat, k ≤ N ∧ i = .int .i64 k ∧ o = .int .i64 (F k : Nat) ∧ St w.heap.size w [Asn.own w.heap.size 2 (.slice A N cp) (nats q)] wr) (fun _ i _ => N - (intOf i).toNat)
    case atStart => exact ⟨0, Nat.zero_le _, rfl, by rw [h0.out]; rfl, hS.out.f1.drop.f1.drop⟩
    case round =>
      obtain ⟨k, hk, rfl, rfl, rS⟩ := hrel
      clear hS
      replace rS := hid rS
      by_cases hlt : k < N
      · have dk : decide ((k : Int) < (N : Int)) = true := decide_eq_true (by omega)
        obtain ⟨c, hc⟩ : ∃ c, q[k]? = some c := ⟨_, List.getElem?_eq_getElem (by rw [hN.out]; exact hlt)⟩
        obtain ⟨g, rfl⟩ : ∃ g, A = some ⟨g, 0, none⟩ := by
          rcases hA.out with ⟨_, h1, _⟩ | ⟨g, h1, _⟩
          · have : N = 0 := by rw [← hl.out, h1]; rfl
            omega
          · exact ⟨g, h1⟩
        have ck := rS.out.o0.cellAt k _ (hng.out k c hc)
        have hdk := hid (hdi.out k c hc)
        have hgpk := hgp0.out k c
        have hs1 := hst.out k c hc
        have hs2 := hlst.out k c
        have hs3 := hdl.out k c
        have hfl := hle.out k
        have hfl1 := hle.out (k + 1)
        have hcb := hqb.out k c hc
        rw [← hs1] at hs2
        generalize hfk1 : F (k + 1) = fk1 at *
        replace hfk1 := hid hfk1
        generalize F k = fk at *
        generalize Nat.gcd fk c = G at *
        have dz : ¬ (G : Int) = 0 := by omega
        have dz2 : ((G : Int) == 0) = false := by simp; omega
        have m1 : Int.tdiv (fk : Int) (G : Int) = ((fk / G : Nat) : Int) := by rw [Int.tdiv_eq_ediv_of_nonneg (by omega)]; omega
        have m2 : (fk : Int) / (G : Int) = ((fk / G : Nat) : Int) := by omega
        generalize fk / G = qq at *
        have e3 : (qq : Int) * (c : Int) = (fk1 : Int) := by rw [← hs2]; simp
        have ew : IntKind.i64.wrap (qq : Int) = qq := IntWalk.i64_in _ (by omega)
        have ew2 : IntKind.i64.wrap (fk1 : Int) = fk1 := IntWalk.i64_in _ (by omega)
        have ew3 : wrap64 (fk1 : Int) = fk1 := w64 (by omega) (by omega)
        clear hs1 hs2 hc
        go_upto_region 8 with (fail)
        go_quiet ((go_at_call 157; exact Calls.quiet_of (hdk.out _)))
        replace rS := hid (rS.out.drewN nq)
        go_wp2
        go_roundw
        case rel => exact ⟨k + 1, by omega, by go_num, by rw [hfk1.out], rS.out⟩
        case measure => simp [intOf]; omega
      · obtain rfl : k = N := by omega
        have dk : decide ((k : Int) < (k : Int)) = false := decide_eq_false (by omega)
        go_wp2
        go_ret2
        exact ⟨rfl, rS.out.bel⟩
end Go.Proofs.YthmcdfjijkecfaaGreat
