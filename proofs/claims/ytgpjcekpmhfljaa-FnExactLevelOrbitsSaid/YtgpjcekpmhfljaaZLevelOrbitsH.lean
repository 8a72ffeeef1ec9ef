/- What the proof of LevelOrbits leans on, part 8 of 13. -/
import Derived.Test.YtgpjcekpmhfljaaZLevelOrbitsG
import Derived.Laws.CopyOwn
import Derived.Laws.MakeOwn
/- The product of two states: the reference's side. -/
namespace Go.Proofs.Ytgpjcekpmhfljaa
open Go.RowKit
set_option linter.unusedVariables false
set_option linter.unusedSimpArgs false

/-- A row of bytes that is filled. -/
def fil3b (f : Nat → Nat → Nat) (q x : Nat) : Array Value := #[.int .u8 ((if 0 < x then f q 0 else 0 : Nat) : Int), .int .u8 ((if 1 < x then f q 1 else 0 : Nat) : Int), .int .u8 ((if 2 < x then f q 2 else 0 : Nat) : Int)]
theorem fil3b_set (f : Nat → Nat → Nat) (q x : Nat) (hx : x < 3) : (fil3b f q x).setIfInBounds x (.int .u8 (f q x : Nat)) = fil3b f q (x + 1) := by
  have : x = 0 ∨ x = 1 ∨ x = 2 := by omega
  rcases this with rfl | rfl | rfl <;> simp [fil3b, Array.setIfInBounds]
theorem fil3b_all (f : Nat → Nat → Nat) (q L : Nat) : fil3b f q L = (rc1 .u8 f L q).toArray := rfl
theorem fil3b_get (f : Nat → Nat → Nat) (q x j : Nat) (hj : j < 3) : ∃ u, (fil3b f q x)[j]? = some u := ⟨_, Array.getElem?_eq_getElem (by simpa [fil3b] using hj)⟩

end Go.Proofs.Ytgpjcekpmhfljaa

/- Two machines and a state of each: their code, in the program and in the reference. -/
namespace Go.Proofs.Ytgpjcekpmhfljaa
open Go.RowKit
set_option linter.unusedVariables false
set_option linter.unusedSimpArgs false

open Classical in
/-- The code of states of two machines. -/
noncomputable def pairI (m : Mach) (q : Int) (k : Mach) (r : Int) : Int := if IsM m ∧ IsM k then if (0 ≤ q ∧ q < m.S) ∧ (0 ≤ r ∧ r < k.S) ∧ m.L = k.L then 0 else 2 else 1

theorem pairI_cases (m : Mach) (q : Int) (k : Mach) (r : Int) : (pairI m q k r = 1 ∧ ¬ (IsM m ∧ IsM k)) ∨ (pairI m q k r = 2) ∨ ∃ l s s' q' r', Good m l s ∧ Good k l s' ∧ q = ((q' : Nat) : Int) ∧ q' < s ∧ r = ((r' : Nat) : Int) ∧ r' < s' ∧ pairI m q k r = 0 := by
  unfold pairI
  by_cases h : IsM m ∧ IsM k
  · rw [if_pos h]
    by_cases hq : (0 ≤ q ∧ q < m.S) ∧ (0 ≤ r ∧ r < k.S) ∧ m.L = k.L
    · rw [if_pos hq]
      obtain ⟨l, s, g⟩ := h.1.good
      obtain ⟨l', s', g'⟩ := h.2.good
      obtain ⟨q', rfl⟩ := Int.eq_ofNat_of_zero_le hq.1.1
      obtain ⟨r', rfl⟩ := Int.eq_ofNat_of_zero_le hq.2.1.1
      have e := hq.2.2
      rw [g.L, g'.L] at e
      have e' : l' = l := by omega
      rw [e'] at g'
      have h1 := hq.1.2; have h2 := hq.2.1.2
      rw [g.S] at h1; rw [g'.S] at h2
      exact .inr (.inr ⟨l, s, s', q', r', g, g', rfl, by omega, rfl, by omega, rfl⟩)
    · rw [if_neg hq]; exact .inr (.inl rfl)
  · rw [if_neg h]; exact .inl ⟨rfl, h⟩

end Go.Proofs.Ytgpjcekpmhfljaa

/- ProductOfStates: what the program and the reference answer. -/
namespace Go.Proofs.Ytgpjcekpmhfljaa
open Go.RowKit
set_option linter.unusedVariables false
set_option linter.unusedSimpArgs false

open Classical in
/-- What ProductOfStates answers. -/
noncomputable def posAns (m : Mach) (q : Int) (k : Mach) (r : Int) : Mach × Int := if pairI m q k r = 0 then (fromM (prodT m k m.L.toNat m.S.toNat k.S.toNat) (q.toNat * k.S.toNat + r.toNat), fromC (prodT m k m.L.toNat m.S.toNat k.S.toNat) (q.toNat * k.S.toNat + r.toNat)) else (⟨0, 0, fun _ => 0, fun _ => 0⟩, pairI m q k r)
theorem posAns_0 {m k : Mach} {l s s' q r : Nat} (g : Good m l s) (g' : Good k l s') (h : pairI m q k r = 0) : posAns m q k r = (fromM (prodT m k l s s') (q * s' + r), fromC (prodT m k l s s') (q * s' + r)) := by
  unfold posAns; rw [if_pos h, g.L, g.S, g'.S]; rfl
theorem posAns_n {m : Mach} {q : Int} {k : Mach} {r c : Int} (h : pairI m q k r = c) (hc : c ≠ 0) : posAns m q k r = (⟨0, 0, fun _ => 0, fun _ => 0⟩, c) := by
  unfold posAns; rw [h, if_neg hc]
theorem from_cases (T : Tab) (q : Nat) : (fromB T q = true ∧ fromC T q = 0) ∨ (fromB T q = false ∧ fromC T q = 3 ∧ fromM T q = ⟨0, 0, fun _ => 0, fun _ => 0⟩) := by
  unfold fromB fromC fromM
  by_cases h : (fin T (fix T) q).length ≤ 16
  · exact .inl ⟨decide_eq_true h, if_pos h⟩
  · exact .inr ⟨decide_eq_false h, if_neg h, if_neg h⟩

end Go.Proofs.Ytgpjcekpmhfljaa

/- OrderByPowers: what the program and the reference answer. -/
namespace Go.Proofs.Ytgpjcekpmhfljaa
open Go.RowKit
set_option linter.unusedVariables false
set_option linter.unusedSimpArgs false

/-- The next power, and its code. -/
def nextM (m : Mach) (l s q : Nat) (now : Mach) : Mach := fromM (prodT now m l now.S.toNat s) (0 * s + q)
def nextC (m : Mach) (l s q : Nat) (now : Mach) : Int := fromC (prodT now m l now.S.toNat s) (0 * s + q)
open Classical in
/-- The search. -/
noncomputable def ordGo (m : Mach) (l s q : Nat) : Nat → Nat → Mach → Int × Int
  | 0, _, _ => (0, 4)
  | f + 1, k, now => if nextC m l s q now = 0 then (if mcells (nextM m l s q now) = mcells (trivM l) then ((k : Int), 0) else ordGo m l s q f (k + 1) (nextM m l s q now)) else (0, 3)
open Classical in
noncomputable def obpAns (m : Mach) (q n : Int) : Int × Int :=
  if codeI m { data := #[] } [q] = 0 then (if 1 ≤ n ∧ n ≤ 16 then ordGo m m.L.toNat m.S.toNat q.toNat n.toNat 1 (trivM m.L.toNat) else (0, 2)) else (0, codeI m { data := #[] } [q])
theorem obpAns_n {m : Mach} {q n c : Int} (h : codeI m { data := #[] } [q] = c) (hc : c ≠ 0) : obpAns m q n = (0, c) := by
  unfold obpAns; rw [h, if_neg hc]
theorem obpAns_r {m : Mach} {q n : Int} (h : codeI m { data := #[] } [q] = 0) (hn : ¬ (1 ≤ n ∧ n ≤ 16)) : obpAns m q n = (0, 2) := by
  unfold obpAns; rw [h, if_pos rfl, if_neg hn]
theorem obpAns_0 {m : Mach} {l s q : Nat} {n : Nat} (g : Good m l s) (h : codeI m { data := #[] } [(q : Int)] = 0) (hn : 1 ≤ n ∧ n ≤ 16) : obpAns m q n = ordGo m l s q n 1 (trivM l) := by
  unfold obpAns; rw [h, if_pos rfl, if_pos (by omega), g.L, g.S]; rfl
theorem next_cases (m : Mach) (l s q : Nat) (hq : q < s) (g : Good m l s) (now : Mach) (sN : Nat) (gN : Good now l sN) :
    (nextC m l s q now = 3 ∧ fromB (prodT now m l sN s) (0 * s + q) = false) ∨ (nextC m l s q now = 0 ∧ fromB (prodT now m l sN s) (0 * s + q) = true ∧ ∃ s2, Good (nextM m l s q now) l s2 ∧ (nextM m l s q now).Ok) := by
  have e : now.S.toNat = sN := by rw [gN.S]; rfl
  have hin := prod_in (s' := s) (show 0 < sN from gN.s1) hq
  rcases from_cases (prodT now m l sN s) (0 * s + q) with ⟨h1, h2⟩ | ⟨h1, h2, _⟩
  · refine .inr ⟨by unfold nextC; rw [e]; exact h2, h1, ?_⟩
    obtain ⟨s2, g2⟩ := fromM_good (prod_ok gN g) hin g.l2 g.l3 (prod_o gN g) (prod_inj gN g) h2
    exact ⟨s2, by unfold nextM; rw [e]; exact g2, by unfold nextM; rw [e]; exact fromM_ok (prod_ok gN g) hin (prod_o256 gN g)⟩
  · exact .inl ⟨by unfold nextC; rw [e]; exact h2, h1⟩
theorem next_M (m : Mach) (l s q : Nat) (now : Mach) (sN : Nat) (gN : Good now l sN) : fromM (prodT now m l sN s) (0 * s + q) = nextM m l s q now ∧ fromC (prodT now m l sN s) (0 * s + q) = nextC m l s q now := by
  have e : now.S.toNat = sN := by rw [gN.S]; rfl
  unfold nextM nextC; rw [e]; exact ⟨rfl, rfl⟩
open Classical in
theorem eq_triv (m : Mach) (l s2 : Nat) (g : Good m l s2) (hk : m.Ok) : ∃ b : Bool, Hid (b = true ↔ mcells m = mcells (trivM l)) ∧ ∀ W : World, (Op.equalIn 10000 29 (.agg (mcells m)) (.agg (mcells (trivM l)))).run Try.prog W = .ok b W := by
  have l3 := g.l3; have s16 := g.s16
  exact ⟨_, hid decide_eq_true_iff, fun W => eq_mach W m (trivM l) hk (trivM_ok l l3) l s2 l 1 g.L g.S rfl rfl (by omega) (by omega) (by omega) (by omega) _ decide_eq_true_iff⟩
theorem ordGo_3 {m : Mach} {l s q f k : Nat} {now : Mach} (h : nextC m l s q now = 3) : ordGo m l s q (f + 1) k now = (0, 3) := by
  unfold ordGo; rw [h, if_neg (by decide)]
theorem ordGo_t {m : Mach} {l s q f k : Nat} {now : Mach} (h : nextC m l s q now = 0) (he : mcells (nextM m l s q now) = mcells (trivM l)) : ordGo m l s q (f + 1) k now = ((k : Int), 0) := by
  unfold ordGo; rw [if_pos h, if_pos he]
theorem ordGo_n {m : Mach} {l s q f k : Nat} {now : Mach} (h : nextC m l s q now = 0) (he : ¬ mcells (nextM m l s q now) = mcells (trivM l)) : ordGo m l s q (f + 1) k now = ordGo m l s q f (k + 1) (nextM m l s q now) := by
  conv => lhs; unfold ordGo
  rw [if_pos h, if_neg he]

end Go.Proofs.Ytgpjcekpmhfljaa

/- Products of lists of states: the program's productOf. -/
namespace Go.Proofs.Ytgpjcekpmhfljaa
open Go.RowKit
set_option linter.unusedVariables false
set_option linter.unusedSimpArgs false

/-- The product of a list, from what has been made: fs i is (machine, its states, the state). -/
def chn (fs : Nat → Mach × Nat × Nat) (l : Nat) : Nat → Nat → Mach → Mach × Int
  | 0, _, now => (now, 0)
  | f + 1, i, now => if nextC (fs i).1 l (fs i).2.1 (fs i).2.2 now = 0 then chn fs l f (i + 1) (nextM (fs i).1 l (fs i).2.1 (fs i).2.2 now) else (⟨0, 0, fun _ => 0, fun _ => 0⟩, 3)
theorem chn_3 {fs : Nat → Mach × Nat × Nat} {l f i : Nat} {now : Mach} (h : nextC (fs i).1 l (fs i).2.1 (fs i).2.2 now = 3) : chn fs l (f + 1) i now = (⟨0, 0, fun _ => 0, fun _ => 0⟩, 3) := by
  unfold chn; rw [h, if_neg (by decide)]
theorem chn_0 {fs : Nat → Mach × Nat × Nat} {l f i : Nat} {now : Mach} (h : nextC (fs i).1 l (fs i).2.1 (fs i).2.2 now = 0) : chn fs l (f + 1) i now = chn fs l f (i + 1) (nextM (fs i).1 l (fs i).2.1 (fs i).2.2 now) := by
  conv => lhs; unfold chn
  rw [if_pos h]

end Go.Proofs.Ytgpjcekpmhfljaa

/- Powers: the reference's l07Power. -/
namespace Go.Proofs.Ytgpjcekpmhfljaa
open Go.RowKit
set_option linter.unusedVariables false
set_option linter.unusedSimpArgs false

/-- The machine whose powers are made. -/
def powB (m : Mach) (l s : Nat) (n : Int) : Mach := if n < 0 then inv m l s else m
theorem powB_good {m : Mach} {l s : Nat} (g : Good m l s) (n : Int) : Good (powB m l s n) l s := by
  unfold powB; split
  · exact inv_good g
  · exact g
/-- A power. -/
def powR (m : Mach) (l s q : Nat) (n : Int) : Mach × Int := chn (fun _ => (powB m l s n, s, q)) l n.natAbs 0 (trivM l)

end Go.Proofs.Ytgpjcekpmhfljaa

/- copy of elements of any size, between rows. -/
namespace Go.Proofs.Ytgpjcekpmhfljaa
open Go.RowKit
set_option linter.unusedVariables false
set_option linter.unusedSimpArgs false

/-- As many elements as the shorter of the two has go over, sz cells each. -/
theorem run_copy_N {P : Program} (w : World) (dT sT ty elem : TypeId) (sz g o dLen dCap : Nat) (a : Addr) (sLen sCap : Nat) (cur : Array Value) (t : TypeId) (cs : List Value)
    (hu : P.underlying dT = some (.slice elem)) (hs : (P.info? elem).map (·.size) = some sz)
    (hg : w.heap[g]? = some (.cells cur t (0, 0))) (hn : cs.length = Nat.min sLen dLen * sz)
    (hsrc : ∀ j v, cs[j]? = some v → w.cell? (a.add j) = some v) (hfit : o + cs.length ≤ cur.size) (h1 : ∀ v ∈ cs, v.oneCell' = true) :
    (Builtin.copy_ #[dT, sT] ty #[.slice (some ⟨g, o, none⟩) dLen dCap, .slice (some a) sLen sCap]).run P w =
      .ok (goInt (Nat.min sLen dLen)) (w.setRow g (cur.toList.take o ++ cs ++ cur.toList.drop (o + cs.length)).toArray) := by
  have hl := run_loadCells_list (P := P) w a cs hsrc
  have hst := run_storeCells_at P g o t cs 0 cur w hg (by simpa using hfit) h1
  cases hq : P.info? elem with
  | none => simp [hq] at hs
  | some i =>
    have hi : i.size = sz := by simpa [hq] using hs
    rw [hn] at hl
    simp [Builtin.copy_, run_underlying hu, Builtin.lenOf, Builtin.firstCells, sizeOf, typeInfo, hq, hi, hl, hst]

/-- .. as a law for the walk. -/
theorem wpList_copy_N {P : Program} {w : World} {ops : Array Oper} {rest : List Oper} {o : Oper} {a : Act} {Q : Exit → Act → World → Prop} (hgd : o.guard = none) (d s : Operand) (dT sT : TypeId)
    (ho : o.op = .call { callee := .builtin .copy, args := #[d, s], argTypes := #[dT, sT] }) (elem : TypeId) (sz : Nat) (hu : P.underlying dT = some (.slice elem)) (hsz : (P.info? elem).map (·.size) = some sz)
    (g off dLen dCap : Nat) (ad : Addr) (sLen sCap : Nat) (hd : a.eval d = .slice (some ⟨g, off, none⟩) dLen dCap) (hs : a.eval s = .slice (some ad) sLen sCap)
    (cur : List Value) (t : TypeId) (hg : w.heap[g]? = some (.cells cur.toArray t (0, 0))) (cs : List Value) (hn : cs.length = Nat.min sLen dLen * sz)
    (hsrc : ∀ j v, cs[j]? = some v → w.cell? (ad.add j) = some v) (hfit : off + cs.length ≤ cur.length) (h1 : ∀ v ∈ cs, v.oneCell' = true)
    (h : wpList P ops Q rest (a.put o.dst (goInt (Nat.min sLen dLen))) (w.setRow g (splice cur off cs).toArray)) : wpList P ops Q (o :: rest) a w := by
  refine wpList_plain hgd fun K hK => ?_
  have hrun := run_copy_N (P := P) w dT sT o.type elem sz g off dLen dCap ad sLen sCap cur.toArray t cs hu hsz hg hn hsrc (by simpa using hfit) h1
  unfold Oper.wp
  simp [execOp, ho, resolve, invoke, builtin, hd, hs, hrun, Result.andThen]
  have e : w.setRow g (splice cur off cs).toArray = w.setRow g (List.take off cur ++ (cs ++ List.drop (off + cs.length) cur)).toArray := rfl
  first
    | exact hK _ _ h
    | (rw [e] at h; simpa using hK _ _ h)
end Go.Proofs.Ytgpjcekpmhfljaa

/- bits.Mul at 1 and small numbers. -/
namespace Go.Proofs.Ytgpjcekpmhfljaa
open Go.RowKit
set_option linter.unusedVariables false
set_option linter.unusedSimpArgs false
set_option maxRecDepth 4000 in
theorem bitsMul64_small (w : World) (n : Nat) (hn : n ≤ 16) :
    Calls Try.prog 139 #[.int .u64 1, .int .u64 n] w fun e w' => e = .returned (.tuple #[.int .u64 0, .int .u64 n]) ∧ w = w' := by
  have h : n = 0 ∨ n = 1 ∨ n = 2 ∨ n = 3 ∨ n = 4 ∨ n = 5 ∨ n = 6 ∨ n = 7 ∨ n = 8 ∨ n = 9 ∨ n = 10 ∨ n = 11 ∨ n = 12 ∨ n = 13 ∨ n = 14 ∨ n = 15 ∨ n = 16 := by omega
  clear hn
  rcases h with rfl | rfl | rfl | rfl | rfl | rfl | rfl | rfl | rfl | rfl | rfl | rfl | rfl | rfl | rfl | rfl | rfl <;>
  · go_enter Try.func139, Try.ntmps139
    go_wp2
    go_ret2
    exact ⟨rfl, rfl⟩
theorem bitsMul_small (w : World) (n : Nat) (hn : n ≤ 16) :
    Calls Try.prog 106 #[.int .u64 1, .int .u64 n] w fun e w' => e = .returned (.tuple #[.int .u64 0, .int .u64 n]) ∧ w = w' := by
  have hm := hid (fun W => bitsMul64_small W n hn)
  have xn : (n : Int) % 18446744073709551616 = n := by omega
  clear hn
  go_enter Try.func106, Try.ntmps106
  go_wp2_with (first
    | (go_at_call 139; (with_reducible refine (hm.out _).mono ?_); rintro e w1 ⟨rfl, rfl⟩))
  go_ret2
  exact ⟨rfl, rfl⟩
end Go.Proofs.Ytgpjcekpmhfljaa

/- slices.Repeat of one element, a few times. -/
namespace Go.Proofs.Ytgpjcekpmhfljaa
open Go.RowKit
set_option linter.unusedVariables false
set_option linter.unusedSimpArgs false
-- @LONG

/-- The cells cs, n times. -/
def rp (cs : List Value) (n : Nat) : List Value := (List.range (n * cs.length)).map fun j => cs.getD (j % cs.length) undef
theorem rp_length (cs : List Value) (n : Nat) : (rp cs n).length = n * cs.length := by simp [rp]
theorem rp_get (cs : List Value) (n j : Nat) (h : j < n * cs.length) : (rp cs n)[j]? = some (cs.getD (j % cs.length) undef) := by simp [rp, h]
theorem rp_at (cs : List Value) (n i j : Nat) (u : Value) (hi : i < n) (hu : cs[j]? = some u) : (rp cs n)[i * cs.length + j]? = some u := by
  have hj := (List.getElem?_eq_some_iff.1 hu).1
  have h1 : i * cs.length + cs.length ≤ n * cs.length := by rw [← Nat.succ_mul]; exact Nat.mul_le_mul_right _ hi
  rw [rp_get _ _ _ (by omega), Nat.mul_comm i, Nat.mul_add_mod, Nat.mod_eq_of_lt hj, List.getD_eq_getElem?_getD, hu]; rfl
theorem rp_one (cs : List Value) (n : Nat) (h1 : ∀ v ∈ cs, v.oneCell' = true) : ∀ v ∈ rp cs n, v.oneCell' = true := fun v hv => by
  unfold rp at hv
  obtain ⟨j, hj, rfl⟩ := List.mem_map.1 hv
  have hj' := List.mem_range.1 hj
  have hpos : 0 < cs.length := Nat.pos_of_ne_zero (fun e => by rw [e] at hj'; simp at hj')
  have hlt := Nat.mod_lt j hpos
  rw [List.getD_eq_getElem?_getD, List.getElem?_eq_getElem hlt]
  exact h1 _ (List.getElem_mem hlt)
/-- What is in the row when k elements are there. -/
def Rep (cs : List Value) (n k : Nat) (cur : List Value) : Prop := cur.length = n * cs.length ∧ ∀ j, j < k * cs.length → cur[j]? = (rp cs n)[j]?
theorem Rep.all {cs cur : List Value} {n : Nat} (h : Rep cs n n cur) : cur = rp cs n := by
  apply List.ext_getElem?
  intro j
  by_cases hj : j < n * cs.length
  · exact h.2 j hj
  · rw [List.getElem?_eq_none (by rw [h.1]; omega), List.getElem?_eq_none (by rw [rp_length]; omega)]
theorem Rep.step {cs cur : List Value} {n k c : Nat} (h : Rep cs n k cur) (hc : k + c ≤ n) : Rep cs n (k + c) (splice cur (k * cs.length) ((rp cs n).take (c * cs.length))) := by
  have e1 : k * cs.length + c * cs.length = (k + c) * cs.length := (Nat.add_mul _ _ _).symm
  have e2 : (k + c) * cs.length ≤ n * cs.length := Nat.mul_le_mul_right _ hc
  have hl : ((rp cs n).take (c * cs.length)).length = c * cs.length := by rw [List.length_take, rp_length]; omega
  refine ⟨by rw [length_splice _ _ _ (by rw [hl, h.1]; omega)]; exact h.1, fun j hj => ?_⟩
  unfold splice
  have hk : (cur.take (k * cs.length)).length = k * cs.length := by rw [List.length_take, h.1]; omega
  by_cases hj1 : j < k * cs.length
  · rw [List.getElem?_append_left (by omega), List.getElem?_take_of_lt hj1]
    exact h.2 j hj1
  · rw [List.getElem?_append_right (by omega), hk, List.getElem?_append_left (by omega), List.getElem?_take_of_lt (by omega), rp_get _ _ _ (by omega), rp_get _ _ _ (by omega)]
    have e3 : j % cs.length = (j - k * cs.length) % cs.length := by
      conv => lhs; rw [show j = k * cs.length + (j - k * cs.length) by omega, Nat.mul_comm k, Nat.mul_add_mod]
      rw [Nat.mul_comm k]
    rw [e3]
theorem Rep.zero {cs Z : List Value} {n : Nat} (h : Z.length = n * cs.length) : Rep cs n 0 Z := ⟨h, fun j hj => by omega⟩

/-- A part that is one block, its row anew. -/
theorem St.setRow {base bn : Nat} {w0 w : World} {L : List Asn} {cs : Array Value} {t : Nat} (h : St base w0 (Asn.blk bn cs t :: L) w) (hb : base ≤ bn) (cs' : Array Value) : St base w0 (Asn.blk bn cs' t :: L) (w.setRow bn cs') :=
  h.turn (a' := Asn.blk bn cs' t) (setRow_heap w bn _ _ t _ h.star.1) (fun k hk => .inl hk) (fun k hk => (show k = bn from hk) ▸ hb) (below_setRow (Below.refl _ _) hb _)
    fun k _ hk => setRow_other w bn k _ hk
/-- copy as a step of a region that draws. -/
theorem step_copy_N {P : Program} {ops : Array Oper} {o : Oper} {a : Act} {w : World} {K : Act → World → Prop} {Q : Exit → Act → World → Prop} {E : Prop} (hgd : o.guard = none) (d s : Operand) (dT sT : TypeId)
    (ho : o.op = .call { callee := .builtin .copy, args := #[d, s], argTypes := #[dT, sT] }) (elem : TypeId) (sz : Nat) (hu : P.underlying dT = some (.slice elem)) (hsz : (P.info? elem).map (·.size) = some sz)
    (g off dLen dCap : Nat) (ad : Addr) (sLen sCap : Nat) (hd : a.eval d = .slice (some ⟨g, off, none⟩) dLen dCap) (hs : a.eval s = .slice (some ad) sLen sCap)
    (cur : List Value) (t : TypeId) (hg : w.heap[g]? = some (.cells cur.toArray t (0, 0))) (cs : List Value) (hn : cs.length = Nat.min sLen dLen * sz)
    (hsrc : ∀ j v, cs[j]? = some v → w.cell? (ad.add j) = some v) (hfit : off + cs.length ≤ cur.length) (h1 : ∀ v ∈ cs, v.oneCell' = true)
    (h : K (a.put o.dst (goInt (Nat.min sLen dLen))) (w.setRow g (splice cur off cs).toArray)) :
    if Region.wanted o (yielded ops a.tmps) = true then Oper.wp P o a w K Q else E := by
  have hw : Region.wanted o (yielded ops a.tmps) = true := by simp [Region.wanted, hgd]
  rw [if_pos hw]
  have hrun := run_copy_N (P := P) w dT sT o.type elem sz g off dLen dCap ad sLen sCap cur.toArray t cs hu hsz hg hn hsrc (by simpa using hfit) h1
  unfold Oper.wp
  simp [execOp, ho, resolve, invoke, builtin, hd, hs, hrun, Result.andThen]
  have e : w.setRow g (splice cur off cs).toArray = w.setRow g (List.take off cur ++ (cs ++ List.drop (off + cs.length) cur)).toArray := rfl
  first
    | exact h
    | (rw [e] at h; simpa using h)
/-- The numbers of times that are asked for. -/
def Few (n : Nat) : Prop := n ≤ 16 ∨ n = 27 ∨ n = 32 ∨ n = 81

end Go.Proofs.Ytgpjcekpmhfljaa

/- bits.Mul at 1 and the sizes of levels. -/
namespace Go.Proofs.Ytgpjcekpmhfljaa
open Go.RowKit
set_option linter.unusedVariables false
set_option linter.unusedSimpArgs false
theorem Few.le {n : Nat} (h : Few n) : n ≤ 81 := by rcases h with h | h | h | h <;> omega
set_option maxRecDepth 4000 in
theorem bitsMul64_few (w : World) (n : Nat) (hn : Few n) :
    Calls Try.prog 139 #[.int .u64 1, .int .u64 n] w fun e w' => e = .returned (.tuple #[.int .u64 0, .int .u64 n]) ∧ w = w' := by
  rcases hn with hn | rfl | rfl | rfl
  · exact bitsMul64_small w n hn
  all_goals
    go_enter Try.func139, Try.ntmps139
    go_wp2
    go_ret2
    exact ⟨rfl, rfl⟩
theorem bitsMul_few (w : World) (n : Nat) (hn : Few n) :
    Calls Try.prog 106 #[.int .u64 1, .int .u64 n] w fun e w' => e = .returned (.tuple #[.int .u64 0, .int .u64 n]) ∧ w = w' := by
  have hm := hid (fun W => bitsMul64_few W n hn)
  have h81 := hn.le
  have xn : (n : Int) % 18446744073709551616 = n := by omega
  clear hn
  go_enter Try.func106, Try.ntmps106
  go_wp2_with (first
    | (go_at_call 139; (with_reducible refine (hm.out _).mono ?_); rintro e w1 ⟨rfl, rfl⟩))
  go_ret2
  exact ⟨rfl, rfl⟩
end Go.Proofs.Ytgpjcekpmhfljaa

/- slices.Repeat of one number, a few times. -/
namespace Go.Proofs.Ytgpjcekpmhfljaa
open Go.RowKit
set_option linter.unusedVariables false
set_option linter.unusedSimpArgs false
-- @LONG
theorem sz_i64 : (Try.prog.info? 2).map (·.size) = some 1 := by kernel_rfl
set_option maxHeartbeats 2000000 in
set_option maxRecDepth 4000 in
theorem repInt_any (w : World) (gs cap n : Nat) (cs : List Value) (hc : cs.length = 1) (h1 : ∀ v ∈ cs, v.oneCell' = true) (hf : Few n)
    (hsrc : ∀ j v, cs[j]? = some v → w.cell? ⟨gs, j, none⟩ = some v) (hgs : gs < w.heap.size) :
    Calls Try.prog 74 #[.slice (some ⟨gs, 0, none⟩) 1 cap, .int .i64 n] w fun e w' => e = .returned (.slice (some ⟨w.heap.size, 0, none⟩) n n) ∧ St w.heap.size w [Asn.blk w.heap.size (rp cs n).toArray 2] w' := by
  have hn := hf.le
  have hmk := fun W : World => run_make_row' (P := Try.prog) 34 2 (.int .i64 0) 8 Try.underlying34 info_i64 rfl .i64 .i64 n (by omega) (by omega) W
  have hmc := hid (toList_madeCells_one (.int .i64 0) n)
  generalize madeCells #[.int .i64 0] n = mc at *
  obtain ⟨Z, rfl⟩ : ∃ Z : List Value, mc = Z.toArray := ⟨mc.toList, by simp⟩
  have hZl := hid (show Z.length = n * cs.length by have h := congrArg List.length hmc.out; simp at h; rw [hc, h]; omega)
  clear hmc
  have hb := hid (fun W => bitsMul_few W n hf)
  have xn : (n : Int) % 18446744073709551616 = n := by omega
  have hS := hid ((St.start w).newBlk Z.toArray 2)
  replace hsrc := hid hsrc; replace h1 := hid h1; replace hc := hid hc
  go_enter Try.func74, Try.ntmps74
  go_upto_region 7 with (first
    | (go_at_call 106; (with_reducible refine (hb.out _).mono ?_); rintro e w1 ⟨rfl, rfl⟩))
  have hpre : Hid (∃ k : Nat, k = Nat.min 1 n ∧ k ≤ n ∧ (0 < n → 0 < k)) := ⟨_, rfl, by simp only [Nat.min_def]; split <;> omega, fun h => by simp only [Nat.min_def]; split <;> omega⟩
  obtain ⟨k0, hk0, hk0n, hk0p⟩ := hpre.out
  replace hk0 := hid hk0
  have pl := hid (show ((rp cs n).take (k0 * cs.length)).length = Nat.min 1 n * 1 by
    have h2 : k0 * cs.length ≤ n * cs.length := Nat.mul_le_mul_right _ hk0n
    rw [List.length_take, rp_length, ← hk0.out, hc.out] at *; omega)
  have psrc := hid (fun (W : World) (hW : Below w.heap.size w W) => (show ∀ j v, ((rp cs n).take (k0 * cs.length))[j]? = some v → W.cell? ((⟨gs, 0, none⟩ : Addr).add j) = some v from fun j v hv => by
    have hj := (List.getElem?_eq_some_iff.1 hv).1
    rw [pl.out, ← hk0.out] at hj
    have h01 : k0 ≤ 1 := by rw [hk0.out]; exact Nat.min_le_left _ _
    have h2 : j < cs.length := by rw [hc.out]; omega
    have h3 : k0 * cs.length ≤ n * cs.length := Nat.mul_le_mul_right _ hk0n
    rw [hc.out] at h3
    rw [List.getElem?_take_of_lt (by rw [hc.out]; omega), rp_get _ _ _ (by rw [hc.out]; omega), Nat.mod_eq_of_lt h2] at hv
    rw [Addr.add_mid, Nat.zero_add]
    refine (hW.cell (p := ⟨gs, j, none⟩) hgs).trans (hsrc.out j v ?_)
    rw [List.getD_eq_getElem?_getD, List.getElem?_eq_getElem h2] at hv
    rw [List.getElem?_eq_getElem h2]; exact hv))
  have pfit := hid (show 0 + ((rp cs n).take (k0 * cs.length)).length ≤ Z.length by
    have h2 : k0 * cs.length ≤ n * cs.length := Nat.mul_le_mul_right _ hk0n
    rw [List.length_take, rp_length, hZl.out]; omega)
  have pone := hid (fun v (hv : v ∈ (rp cs n).take (k0 * cs.length)) => rp_one cs n h1.out v (List.mem_of_mem_take hv))
  go_wp2_with (first
    | ((with_reducible refine gate (N := 33) rfl ?_); refine wpList_copy_N rfl _ _ _ _ rfl 2 1 Try.underlying34 sz_i64 w.heap.size 0 n n ⟨gs, 0, none⟩ 1 cap rfl rfl Z _ hS.out.k0 ((rp cs n).take (k0 * cs.length)) pl.out (psrc.out _ hS.out.bel) pfit.out pone.out ?_; replace hS := hid (hS.out.setRow (Nat.le_refl _) (splice Z 0 ((rp cs n).take (k0 * cs.length))).toArray)))
  have hR := hid (show Rep cs n k0 (splice Z 0 ((rp cs n).take (k0 * cs.length))) from by have h := Rep.step (c := k0) (Rep.zero hZl.out) (show 0 + k0 ≤ n by omega); rw [Nat.zero_add, Nat.zero_mul] at h; exact h)
  go_loopw [8] (fun i wr => ∃ (k : Nat) (cur : List Value), k ≤ n ∧ (0 < n → 0 < k) ∧ i = .int .i64 k ∧ Hid (Rep cs n k cur) ∧ St w.heap.size w [Asn.blk w.heap.size cur.toArray 2] wr) (fun i _ => n - (intOf i).toNat)
  case atStart => exact ⟨k0, _, hk0n, hk0p, by rw [hk0.out], hR, hS.out⟩
  case round =>
    obtain ⟨k, cur, hk, hkp, rfl, hR2, rS⟩ := hrel
    clear hS hR pl psrc pfit pone
    replace rS := hid rS
    by_cases hkn : k < n
    · have dc : decide ((k : Int) < (n : Int)) = true := decide_eq_true (by omega)
      have i0 : (0 : Int) ≤ (k : Int) := Int.natCast_nonneg _
      have i1 : (k : Int) ≤ (n : Int) := by omega
      have hnk : ¬ n = k := by omega
      obtain ⟨c, hcc⟩ : ∃ c, c = Nat.min k (n - k) := ⟨_, rfl⟩
      have hcn : k + c ≤ n := by rw [hcc]; show k + min k (n - k) ≤ n; omega
      have hck : c ≤ k := by rw [hcc]; exact Nat.min_le_left _ _
      have hcp : 0 < c := by rw [hcc]; show 0 < min k (n - k); omega
      replace hcc := hid hcc
      have ew : IntKind.i64.wrap ((k : Int) + (c : Int)) = ((k + c : Nat) : Int) := by rw [IntWalk.i64_in _ (by omega)]; rfl
      have m1 : k * cs.length + c * cs.length = (k + c) * cs.length := (Nat.add_mul _ _ _).symm
      have m2 : (k + c) * cs.length ≤ n * cs.length := Nat.mul_le_mul_right _ hcn
      have m3 : c * cs.length ≤ k * cs.length := Nat.mul_le_mul_right _ hck
      replace m1 := hid m1; replace m2 := hid m2; replace m3 := hid m3
      have pl := hid (show ((rp cs n).take (c * cs.length)).length = Nat.min k (n - k) * 1 by rw [List.length_take, rp_length, ← hcc.out, ← hc.out]; have := m1.out; have := m2.out; omega)
      have psrc := hid (fun (W : World) (hW : W.heap[w.heap.size]? = some (.cells cur.toArray 2 (0, 0))) => (show ∀ j v, ((rp cs n).take (c * cs.length))[j]? = some v → W.cell? ((⟨w.heap.size, 0, none⟩ : Addr).add j) = some v from fun j v hv => by
        have hj := (List.getElem?_eq_some_iff.1 hv).1
        rw [List.length_take] at hj
        rw [List.getElem?_take_of_lt (by omega), ← hR2.out.2 j (by have := m3.out; omega)] at hv
        rw [Addr.add_mid, Nat.zero_add, cell_of_row W w.heap.size j _ _ _ hW]
        simpa using hv))
      have pfit := hid (show k + ((rp cs n).take (c * cs.length)).length ≤ cur.length by rw [List.length_take, rp_length, hR2.out.1]; have h1 := m1.out; have h2 := m2.out; have h3 := hc.out; have h4 : k * cs.length = k := (by rw [h3, Nat.mul_one]); rw [h4] at h1; omega)
      have pone := hid (fun v (hv : v ∈ (rp cs n).take (c * cs.length)) => rp_one cs n h1.out v (List.mem_of_mem_take hv))
      have hR3 := hid (show Rep cs n (k + c) (splice cur k ((rp cs n).take (c * cs.length))) from by have h := hR2.out.step hcn; rw [show k * cs.length = k by rw [hc.out, Nat.mul_one]] at h; exact h)
      go_upto_region 9 with (fail)
      refine wp_region_heldL (L := []) (by kernel_rfl) HeldL.nil (fun hHeld => ?_)
      replace rS := hid rS.out.drew
      generalize wr.drew = wd at *
      refine wpAnyL_take0 (i := 0) (v := ?_) rfl (by kernel_rfl) (by kernel_rfl) (by kernel_rfl) (by rfl) (fun _ _ _ h => h) (Or.inl ⟨by rfl, ?_⟩) (by assumption) ?_
      rotate_left
      · (intro W _; go_simp; (with_reducible rfl))
      intro hHeld'
      clear hHeld; have hHeld := hHeld'; clear hHeld'
      try simp only [Act.put, List.getElem_toArray, List.getElem_cons_succ, List.getElem_cons_zero, List.setIfInBounds_toArray, List.set_cons_zero, List.set_cons_succ]
      refine wpAnyL_take0 (i := 1) (v := ?_) rfl (by kernel_rfl) (by kernel_rfl) (by kernel_rfl) (by rfl) (fun _ _ _ h => h) (Or.inl ⟨by rfl, ?_⟩) (by assumption) ?_
      rotate_left
      · (intro W _; go_simp; (with_reducible rfl))
      intro hHeld'
      clear hHeld; have hHeld := hHeld'; clear hHeld'
      try simp only [Act.put, List.getElem_toArray, List.getElem_cons_succ, List.getElem_cons_zero, List.setIfInBounds_toArray, List.set_cons_zero, List.set_cons_succ]
      refine wpAnyL_take0 (i := 2) (v := ?_) rfl (by kernel_rfl) (by kernel_rfl) (by kernel_rfl) (by rfl) (fun _ _ _ h => h) (Or.inl ⟨by rfl, ?_⟩) (by assumption) ?_
      rotate_left
      · (intro W _; go_simp; (with_reducible rfl))
      intro hHeld'
      clear hHeld; have hHeld := hHeld'; clear hHeld'
      try simp only [Act.put, List.getElem_toArray, List.getElem_cons_succ, List.getElem_cons_zero, List.setIfInBounds_toArray, List.set_cons_zero, List.set_cons_succ]
      refine wpAnyL_take0 (i := 3) (v := ?_) rfl (by kernel_rfl) (by kernel_rfl) (by kernel_rfl) (by rfl) (fun _ _ _ h => h) (Or.inl ⟨by rfl, ?_⟩) (by assumption) ?_
      rotate_left
      · (intro W _; go_simp; (with_reducible rfl))
      intro hHeld'
      clear hHeld; have hHeld := hHeld'; clear hHeld'
      try simp only [Act.put, List.getElem_toArray, List.getElem_cons_succ, List.getElem_cons_zero, List.setIfInBounds_toArray, List.set_cons_zero, List.set_cons_succ]
      refine wpAnyL_take0 (i := 4) (v := ?_) rfl (by kernel_rfl) (by kernel_rfl) (by kernel_rfl) (by rfl) (fun _ _ _ h => h) (Or.inl ⟨by rfl, ?_⟩) (by assumption) ?_
      rotate_left
      · (intro W _; go_simp; (with_reducible rfl))
      intro hHeld'
      clear hHeld; have hHeld := hHeld'; clear hHeld'
      try simp only [Act.put, List.getElem_toArray, List.getElem_cons_succ, List.getElem_cons_zero, List.setIfInBounds_toArray, List.set_cons_zero, List.set_cons_succ]
      refine wpAnyL_take0 (i := 5) (v := ?_) rfl (by kernel_rfl) (by kernel_rfl) (by kernel_rfl) (by rfl) (fun _ _ _ h => h) (Or.inl ⟨by rfl, ?_⟩) (by assumption) ?_
      rotate_left
      · (intro W _; go_simp; (with_reducible rfl))
      intro hHeld'
      clear hHeld; have hHeld := hHeld'; clear hHeld'
      try simp only [Act.put, List.getElem_toArray, List.getElem_cons_succ, List.getElem_cons_zero, List.setIfInBounds_toArray, List.set_cons_zero, List.set_cons_succ]
      refine wpAnyL_take0 (i := 6) (v := ?_) rfl (by kernel_rfl) (by kernel_rfl) (by kernel_rfl) (by rfl) (fun _ _ _ h => h) (Or.inl ⟨by rfl, ?_⟩) (by assumption) ?_
      rotate_left
      · (intro W _; go_simp; (with_reducible rfl))
      intro hHeld'
      clear hHeld; have hHeld := hHeld'; clear hHeld'
      try simp only [Act.put, List.getElem_toArray, List.getElem_cons_succ, List.getElem_cons_zero, List.setIfInBounds_toArray, List.set_cons_zero, List.set_cons_succ]
      refine wpAnyL_ready (rs := [7]) (by kernel_rfl) (by simp) ?_
      refine AllReadyL.cons rfl (fun K hK => ?_) AllReadyL.nil
      refine step_copy_N rfl _ _ _ _ rfl 2 1 Try.underlying34 sz_i64 w.heap.size k (n - k) (n - k) ⟨w.heap.size, 0, none⟩ k n rfl rfl cur _ rS.out.k0 ((rp cs n).take (c * cs.length)) (by rw [pl.out]) (psrc.out _ rS.out.k0) pfit.out pone.out ?_
      replace rS := hid (rS.out.setRow (Nat.le_refl _) (splice cur k ((rp cs n).take (c * cs.length))).toArray)
      generalize wd.setRow w.heap.size (splice cur k ((rp cs n).take (c * cs.length))).toArray = we at *
      rw [← hcc.out]
      refine hK.out _ _ (HeldL.nil) (fun hHeld' => ?_)
      clear hK K hHeld; have hHeld := hHeld'; clear hHeld'
      try simp only [Act.put, List.getElem_toArray, List.getElem_cons_succ, List.getElem_cons_zero, List.setIfInBounds_toArray, List.set_cons_zero, List.set_cons_succ]
      refine wpAnyL_take0 (i := 8) (v := ?_) rfl (by kernel_rfl) (by kernel_rfl) (by kernel_rfl) (by rfl) (fun _ _ _ h => h) (Or.inl ⟨by rfl, ?_⟩) (by assumption) ?_
      rotate_left
      · (intro W _; go_simp; (with_reducible rfl))
      intro hHeld'
      clear hHeld; have hHeld := hHeld'; clear hHeld'
      try simp only [Act.put, List.getElem_toArray, List.getElem_cons_succ, List.getElem_cons_zero, List.setIfInBounds_toArray, List.set_cons_zero, List.set_cons_succ]
      refine wpAnyL_take0 (i := 9) (v := ?_) rfl (by kernel_rfl) (by kernel_rfl) (by kernel_rfl) (by rfl) (fun _ _ _ h => h) (Or.inl ⟨by rfl, ?_⟩) (by assumption) ?_
      rotate_left
      · (intro W _; go_simp; (with_reducible rfl))
      intro hHeld'
      clear hHeld; have hHeld := hHeld'; clear hHeld'
      try simp only [Act.put, List.getElem_toArray, List.getElem_cons_succ, List.getElem_cons_zero, List.setIfInBounds_toArray, List.set_cons_zero, List.set_cons_succ]
      refine wpAnyL_done (by kernel_rfl) ?_ _
      go_wp2
      go_roundw
      case rel => exact ⟨k + c, _, hcn, fun _ => by omega, by go_num, hR3, rS.out⟩
      case measure => simp [intOf]; omega
    · obtain rfl : k = n := by omega
      have dc : decide ((k : Int) < (k : Int)) = false := decide_eq_false (by omega)
      have hall := hid hR2.out.all
      go_wp2
      go_ret
      exact ⟨rfl, by rw [← hall.out]; exact rS.out⟩
end Go.Proofs.Ytgpjcekpmhfljaa

/- The graph of a level: what all states make of it, forward and backward. -/
namespace Go.Proofs.Ytgpjcekpmhfljaa
open Go.RowKit
set_option linter.unusedVariables false
set_option linter.unusedSimpArgs false

/-- A graph that grows: its block, the slices at hand, and the two rows that come next. -/
structure GS (w0 W : World) (G M : Nat) (cA cB vA vB rA rB : Value) (A B : List (List Int)) (la lb : List Int) : Prop where
  bel : Below G w0 W
  blk : W.heap[G]? = some (.cells #[.int .i64 (M : Int), cA, cB] 68 (0, 0))
  mA : Mat W (G + 1) vA A
  mB : Mat W (G + 1) vB B
  dis : ∀ k, vA.ownBlock = some k → vB.ownBlock ≠ some k
  oA : Own W (G + 1) 2 rA (ints la)
  oB : Own W (G + 1) 2 rB (ints lb)

section
variable {w0 W : World} {G M : Nat} {cA cB vA vB rA rB : Value} {A B : List (List Int)} {la lb : List Int}
theorem GS.lt (h : GS w0 W G M cA cB vA vB rA rB A B la lb) : G < W.heap.size := (Array.getElem?_eq_some_iff.1 h.blk).1
theorem GS.alloc (h : GS w0 W G M cA cB vA vB rA rB A B la lb) (hG : G ≤ w0.heap.size) (o : Obj) : GS w0 (W.alloc o) G M cA cB vA vB rA rB A B la lb :=
  ⟨below_alloc h.bel hG o, (Below.heap_alloc W o G h.lt).trans h.blk, h.mA.alloc o, h.mB.alloc o, h.dis, h.oA.alloc o, h.oB.alloc o⟩
theorem GS.drew (h : GS w0 W G M cA cB vA vB rA rB A B la lb) : GS w0 W.drew G M cA cB vA vB rA rB A B la lb := ⟨h.bel.drew, h.blk, h.mA, h.mB, h.dis, h.oA, h.oB⟩
theorem GS.c1 (h : GS w0 W G M cA cB vA vB rA rB A B la lb) : W.cell? ⟨G, 1, none⟩ = some cA := cell_of_row W G 1 _ _ _ h.blk
theorem GS.c2 (h : GS w0 W G M cA cB vA vB rA rB A B la lb) : W.cell? ⟨G, 2, none⟩ = some cB := cell_of_row W G 2 _ _ _ h.blk
theorem GS.fr (h : GS w0 W G M cA cB vA vB rA rB A B la lb) (i : Nat) : W.frozen? ⟨G, i, none⟩ = false := frozen_of_row W G i _ _ h.blk
theorem GS.set1 (h : GS w0 W G M cA cB vA vB rA rB A B la lb) (x : Value) : GS w0 (W.setCell ⟨G, 1, none⟩ x) G M x cB vA vB rA rB A B la lb := by
  have ho : ∀ k, k ≠ G → (W.setCell ⟨G, 1, none⟩ x).heap[k]? = W.heap[k]? := fun k hk => heap_setCell_other W ⟨G, 1, none⟩ k x hk
  refine ⟨h.bel.setCell (Nat.le_refl _) _, heap_setCell_same W G 1 _ _ _ h.blk, h.mA.keep fun k hk _ => ho k (by omega), h.mB.keep fun k hk _ => ho k (by omega), h.dis, h.oA.keep fun k hk => ho k (by have := h.oA.lt k hk; omega), h.oB.keep fun k hk => ho k (by have := h.oB.lt k hk; omega)⟩
theorem GS.set2 (h : GS w0 W G M cA cB vA vB rA rB A B la lb) (x : Value) : GS w0 (W.setCell ⟨G, 2, none⟩ x) G M cA x vA vB rA rB A B la lb := by
  have ho : ∀ k, k ≠ G → (W.setCell ⟨G, 2, none⟩ x).heap[k]? = W.heap[k]? := fun k hk => heap_setCell_other W ⟨G, 2, none⟩ k x hk
  refine ⟨h.bel.setCell (Nat.le_refl _) _, heap_setCell_same W G 2 _ _ _ h.blk, h.mA.keep fun k hk _ => ho k (by omega), h.mB.keep fun k hk _ => ho k (by omega), h.dis, h.oA.keep fun k hk => ho k (by have := h.oA.lt k hk; omega), h.oB.keep fun k hk => ho k (by have := h.oB.lt k hk; omega)⟩

/-- What is of other make, or has another block, is as it was behind an append. -/
theorem Mat.keepApp {w w' : World} {base : Nat} {v x : Value} {M : List (List Int)} {rows : List Value} (h : Mat w base x M) (hv : Own w base 34 v rows) (hdis : ∀ k, v.ownBlock = some k → x.ownBlock ≠ some k)
    (hold : ∀ k, k < w.heap.size → v.ownBlock ≠ some k → w'.heap[k]? = w.heap[k]?) : Mat w' base x M := by
  obtain ⟨rs, h1, h2, h3⟩ := h
  exact ⟨rs, h1.keep fun k hk => hold k (h1.lt k hk).2 (fun e => hdis k e hk), h2, fun i r l hr hl => (h3 i r l hr hl).keep fun k hk => hold k ((h3 i r l hr hl).lt k hk).2 ((h3 i r l hr hl).ne hv (by decide) k hk)⟩

section
variable {ops : Array Oper} {o : Oper} {a : Act} {K : Act → World → Prop} {Q : Exit → Act → World → Prop} {E : Prop}
theorem GS.appA (h : GS w0 W G M cA cB vA vB rA rB A B la lb) (hgd : o.guard = none) (s x : Operand) (ho : o.op = .call { callee := .builtin .append, args := #[s, x], argTypes := #[26, 26] })
    (hs : a.eval s = vA) (b : Nat) (hB : W.cell? ⟨b, 0, none⟩ = some rA) (hx : a.eval x = .slice (some ⟨b, 0, none⟩) 1 1) (hlen : A.length ≤ 1000000)
    (k : ∀ g cap w', GS w0 w' G M cA cB (.slice (some ⟨g, 0, none⟩) (A.length + 1) cap) vB rA rB (A ++ [la]) B la lb → W.heap.size ≤ w'.heap.size → (∀ k, k < W.heap.size → vA.ownBlock ≠ some k → w'.heap[k]? = W.heap[k]?) → K (a.put o.dst (.slice (some ⟨g, 0, none⟩) (A.length + 1) cap)) w') :
    if Region.wanted o (yielded ops a.tmps) = true then Oper.wp Try.prog o a W K Q else E := by
  obtain ⟨rows, h1, h2, h3⟩ := h.mA
  refine step_app1 26 34 (.slice none 0 0) 24 Try.underlying26 info_ints rfl (by omega) hgd s x ho (G + 1) vA rows hs h1 h.lt b rA h.oA.oneCell hB hx (by omega) ?_
  intro g cap w' k1 k2 k3 k4
  rw [h2] at k1 ⊢
  refine k g cap w' ⟨h.bel.trans (k2.mono (Nat.le_succ G)), ?_, Mat.snoc h1 h2 h3 h.oA k1 k3, h.mB.keepApp h1 h.dis k3, ?_, h.oA.keep fun k hk => k3 k (h.oA.lt k hk).2 (h.oA.ne h1 (by decide) k hk), h.oB.keep fun k hk => k3 k (h.oB.lt k hk).2 (h.oB.ne h1 (by decide) k hk)⟩ k2.size k3
  · rw [k3 G h.lt (fun e => by have := (h1.lt G e).1; omega)]; exact h.blk
  · intro k hk hk'
    have e : g = k := by simpa [Value.ownBlock] using hk
    subst e
    rcases k4 with k4 | k4
    · exact h.dis g k4 hk'
    · have := (h.mB.lt g hk').2
      omega
theorem GS.appB (h : GS w0 W G M cA cB vA vB rA rB A B la lb) (hgd : o.guard = none) (s x : Operand) (ho : o.op = .call { callee := .builtin .append, args := #[s, x], argTypes := #[26, 26] })
    (hs : a.eval s = vB) (b : Nat) (hB : W.cell? ⟨b, 0, none⟩ = some rB) (hx : a.eval x = .slice (some ⟨b, 0, none⟩) 1 1) (hlen : B.length ≤ 1000000)
    (k : ∀ g cap w', GS w0 w' G M cA cB vA (.slice (some ⟨g, 0, none⟩) (B.length + 1) cap) rA rB A (B ++ [lb]) la lb → K (a.put o.dst (.slice (some ⟨g, 0, none⟩) (B.length + 1) cap)) w') :
    if Region.wanted o (yielded ops a.tmps) = true then Oper.wp Try.prog o a W K Q else E := by
  obtain ⟨rows, h1, h2, h3⟩ := h.mB
  refine step_app1 26 34 (.slice none 0 0) 24 Try.underlying26 info_ints rfl (by omega) hgd s x ho (G + 1) vB rows hs h1 h.lt b rB h.oB.oneCell hB hx (by omega) ?_
  intro g cap w' k1 k2 k3 k4
  rw [h2] at k1 ⊢
  refine k g cap w' ⟨h.bel.trans (k2.mono (Nat.le_succ G)), ?_, h.mA.keepApp h1 (fun k hk hk' => h.dis k hk' hk) k3, Mat.snoc h1 h2 h3 h.oB k1 k3, ?_, h.oA.keep fun k hk => k3 k (h.oA.lt k hk).2 (h.oA.ne h1 (by decide) k hk), h.oB.keep fun k hk => k3 k (h.oB.lt k hk).2 (h.oB.ne h1 (by decide) k hk)⟩
  · rw [k3 G h.lt (fun e => by have := (h1.lt G e).1; omega)]; exact h.blk
  · intro k hk hk'
    have e : g = k := by simpa [Value.ownBlock] using hk'
    subst e
    rcases k4 with k4 | k4
    · exact h.dis g hk k4
    · have := (h.mA.lt g hk).2
      omega
end
end

/-- What an inverse makes of a level, as far as it is known. -/
def bkw (P : Nat → Nat) (M j : Nat) : List Nat := (List.range M).map fun p => if P p < j then P p else 0
theorem bkw_length (P : Nat → Nat) (M j : Nat) : (bkw P M j).length = M := by simp [bkw]
theorem bkw_zero (P : Nat → Nat) (M : Nat) : nats (bkw P M 0) = List.replicate M (.int .i64 0) := by
  apply List.ext_getElem?
  intro i
  by_cases h : i < M
  · simp [nats, bkw, h]
  · simp [nats, bkw, h]
theorem bkw_step (P R : Nat → Nat) (M j : Nat) (h1 : ∀ p, p < M → R (P p) = p) (h2 : P (R j) = j) (hj : R j < M) : (nats (bkw P M j)).set (R j) (.int .i64 (j : Int)) = nats (bkw P M (j + 1)) := by
  apply List.ext_getElem?
  intro i
  rw [List.getElem?_set]
  by_cases hi : R j = i
  · subst hi
    rw [if_pos rfl, if_pos (by simp [nats, bkw]; exact hj)]
    simp [nats, bkw, hj, h2]
  · rw [if_neg hi]
    by_cases hM : i < M
    · have hne : P i ≠ j := fun e => hi (by rw [← e]; exact h1 i hM)
      simp only [nats, bkw, List.getElem?_map, List.getElem?_range hM, Option.map_some]
      by_cases hlt : P i < j
      · rw [if_pos hlt, if_pos (by omega)]
      · rw [if_neg hlt, if_neg (by omega)]
    · simp [nats, bkw, hM]
theorem bkw_all (P : Nat → Nat) (M : Nat) (h : ∀ p, p < M → P p < M) : bkw P M M = (List.range M).map P := by
  unfold bkw
  apply List.map_congr_left
  intro p hp
  rw [if_pos (h p (List.mem_range.1 hp))]

/-- A graph in its block. -/
def GB (w : World) (G M : Nat) (vA vB : Value) (A B : List (List Int)) : Prop :=
  w.heap[G]? = some (.cells #[.int .i64 (M : Int), vA, vB] 68 (0, 0)) ∧ Mat w (G + 1) vA A ∧ Mat w (G + 1) vB B
theorem GB.lt {w : World} {G M : Nat} {vA vB : Value} {A B : List (List Int)} (h : GB w G M vA vB A B) : G < w.heap.size := (Array.getElem?_eq_some_iff.1 h.1).1
theorem GB.below {w w' : World} {G M : Nat} {vA vB : Value} {A B : List (List Int)} (h : GB w G M vA vB A B) (hb : Below w.heap.size w w') : GB w' G M vA vB A B :=
  ⟨(hb.block G h.lt).trans h.1, h.2.1.below hb, h.2.2.below hb⟩
theorem GB.c0 {w : World} {G M : Nat} {vA vB : Value} {A B : List (List Int)} (h : GB w G M vA vB A B) : w.cell? ⟨G, 0, none⟩ = some (.int .i64 (M : Int)) := cell_of_row w G 0 _ _ _ h.1
theorem GB.c1 {w : World} {G M : Nat} {vA vB : Value} {A B : List (List Int)} (h : GB w G M vA vB A B) : w.cell? ⟨G, 1, none⟩ = some vA := cell_of_row w G 1 _ _ _ h.1
theorem GB.c2 {w : World} {G M : Nat} {vA vB : Value} {A B : List (List Int)} (h : GB w G M vA vB A B) : w.cell? ⟨G, 2, none⟩ = some vB := cell_of_row w G 2 _ _ _ h.1
def Dis (vA vB : Value) : Prop := ∀ k, vA.ownBlock = some k → vB.ownBlock ≠ some k

set_option maxHeartbeats 4000000 in
set_option maxRecDepth 100000 in
theorem graph_any (b : Nat) (w : World) (m : Mach) (hm : MB w 29 b m) (l s : Nat) (g : Good m l s) (n : Nat) (hn : n ≤ 40) (hb : pw l n ≤ 100000) :
    Calls Try.prog 40 #[.pointer (some ⟨b, 0, none⟩), .int .i64 n] w fun e w' => ∃ vA vB, e = .returned (.pointer (some ⟨w.heap.size, 0, none⟩)) ∧ GB w' w.heap.size (pw l n) vA vB (tabA m l n s) (tabA (inv m l s) l n s) ∧ Below w.heap.size w w' := by
  have hblt := hm.lt
  have cL := hm.cL
  rw [g.L] at cL
  have cS := (hm.alloc (.cells #[.int .i64 ((pw l n : Nat) : Int), .slice none 0 0, .slice none 0 0] 68)).cS
  rw [g.S] at cS
  have l2 := g.l2
  have s16 := g.s16
  have hpow := hid (fun W => power_any l n (by omega) (by omega) (by omega) W)
  have hst := hid (fun q (hq : q < s) W hW => ofState_any b W m hW l s g q hq n hn hb)
  have hnz := hid (fun m q => nats_ints (perm m l q n))
  have hB := hid (below_alloc (Below.refl w.heap.size w) (Nat.le_refl _) (.cells #[.int .i64 ((pw l n : Nat) : Int), .slice none 0 0, .slice none 0 0] 68))
  have hblk := hid (heap_alloc_new w (.cells #[.int .i64 ((pw l n : Nat) : Int), .slice none 0 0, .slice none 0 0] 68))
  have hget := hid (fun q k (hk : k < pw l n) => permZ_get m l q n k hk)
  have hplt := hid (fun q k (hq : q < s) => pf_lt g q n k hq)
  have hpos := pw_pos l (by omega) n
  have hbk := hid (fun q j (hq : q < s) (hj : j < pw l n) => bkw_step (pf (inv m l s) l q n) (pf m l q n) (pw l n) j (fun p hp => inv_pf g q n p hq hp) (pf_inv g q n j hq hj) (pf_lt g q n j hq))
  have hba := hid (fun q (hq : q < s) => bkw_all (pf (inv m l s) l q n) (pw l n) (fun p hp => pf_lt (inv_good g) q n p hq))
  have hpl := hid (fun q => permZ_length m l q n)
  generalize hI : inv m l s = I at *
  replace hI := hid hI
  replace hm := hid hm
  replace g := hid g
  generalize hM : pw l n = M at *
  replace hM := hid hM
  go_enter Try.func40, Try.ntmps40
  go_wp2_with (first
    | (go_at_call 72; (with_reducible refine (hpow.out _).mono ?_); rintro e w1 ⟨rfl, rfl⟩))
  have hdis0 : Dis (.slice none 0 0) (.slice none 0 0) := fun k hk => by cases hk
  go_loopw [23] (fun i wr => ∃ q : Nat, q ≤ s ∧ i = .int .i64 q ∧ ∃ vA vB, GB wr w.heap.size M vA vB (tabA m l n q) (tabA I l n q) ∧ Dis vA vB ∧ Below w.heap.size w wr) (fun i _ => s - (intOf i).toNat)
  case atStart => exact ⟨0, Nat.zero_le _, rfl, _, _, ⟨hblk.out, Mat.nil _ _, Mat.nil _ _⟩, hdis0, hB.out⟩
  case round =>
    obtain ⟨q, hq, rfl, vA, vB, r1, r2, rB⟩ := hrel
    clear cL cS hB hblk hdis0
    replace r1 := hid r1; replace r2 := hid r2; replace rB := hid rB
    by_cases hlq : q < s
    · have dq : decide ((q : Int) < (s : Int)) = true := decide_eq_true (by omega)
      have hsA := hid (tabA_snoc m l n q)
      have hsI := hid (tabA_snoc I l n q)
      have hMw := hid (hm.out.below rB.out hblt)
      have hmk := fun W : World => run_make_row' (P := Try.prog) 34 2 (.int .i64 0) 8 Try.underlying34 info_i64 rfl .i64 .i64 M (by omega) (by omega) W
      go_wp2_with (first
        | (go_at_call 60; (with_reducible refine (hst.out q hlq _ hMw.out).mono ?_); rintro e w3 ⟨r, rfl, hO, hb3⟩; rw [hnz.out] at hO; obtain ⟨g1, c1, rfl, _, _⟩ := hO.blk (fun e => by have h1 := congrArg List.length e; have h2 := hpl.out q; unfold permZ at h2; rw [ints_length, h2] at h1; simp at h1; omega); have hl := hpl.out q; unfold permZ at hl; rw [ints_length, hl] at hO ⊢; have hR := hid (hO.mono (Nat.succ_le_of_lt r1.out.lt)); have hmadeO := hid (Own.made w3 w3.heap.size 2 (.int .i64 0) M (Nat.le_refl _) (by omega)); have t1 := hid (r1.out.below hb3); have tB := hid (rB.out.trans (hb3.mono rB.out.size)); clear hl hO hb3 r1 rB hMw))
      clear hmk
      rw [← bkw_zero (pf I l q n) M] at hmadeO
      generalize madeCells #[.int .i64 0] M = mc at *
      have hBa := hid ((Below.refl w3.heap.size w3).alloc (Nat.le_refl _) (.cells mc 2))
      go_loopw [35] (fun i wi => ∃ k : Nat, k ≤ M ∧ i = .int .i64 k ∧ Own wi w3.heap.size 2 (.slice (some ⟨w3.heap.size, 0, none⟩) M M) (nats (bkw (pf I l q n) M k)) ∧ Below w3.heap.size w3 wi) (fun i _ => M - (intOf i).toNat)
      case atStart => exact ⟨0, Nat.zero_le _, rfl, hmadeO.out, hBa.out⟩
      case round =>
        obtain ⟨k, hk, rfl, y1, yB⟩ := hrel
        clear hmadeO hBa
        replace y1 := hid y1; replace yB := hid yB
        by_cases hlk : k < M
        · have hgk := hget.out q k hlk
          have ck := (hR.out.below yB.out).cellAt k (.int .i64 ((pf m l q n k : Nat) : Int)) (by show (ints (permZ m l q n))[k]? = _; simp [ints, hgk])
          have hpk := hplt.out q k hlq
          have hstep := hid (hbk.out q k hlq hlk)
          have hbl := hid (show (nats (bkw (pf I l q n) M k)).length = M by rw [nats_length, bkw_length])
          obtain ⟨vo, co⟩ : ∃ u, wr.cell? ⟨w3.heap.size, pf m l q n k, none⟩ = some u := ⟨_, y1.out.cellAt _ _ (List.getElem?_eq_getElem (by rw [hbl.out]; exact hpk))⟩
          have fo := y1.out.frozenAt hbl.out (pf m l q n k)
          have z1 := hid (y1.out.set hbl.out (pf m l q n k) (.int .i64 (k : Int)) hpk)
          have zB := hid (yB.out.setCell (p := ⟨w3.heap.size, pf m l q n k, none⟩) (Nat.le_refl _) (.int .i64 (k : Int)))
          clear hgk
          generalize pf m l q n k = pk at *
          go_wp2
          go_roundw
          case rel => exact ⟨k + 1, by omega, by go_num, by rw [← hstep.out]; exact z1.out, zB.out⟩
          case measure => simp [intOf]; omega
        · obtain rfl : M = k := by omega
          have hg := hid (show GS w wr w.heap.size M vA vB vA vB (.slice (some ⟨g1, 0, none⟩) M c1) (.slice (some ⟨w3.heap.size, 0, none⟩) M M) (tabA m l n q) (tabA I l n q) (permZ m l q n) (permZ I l q n) from
            ⟨tB.out.trans (yB.out.mono tB.out.size), (t1.out.below yB.out).1, (t1.out.below yB.out).2.1, (t1.out.below yB.out).2.2, r2.out, hR.out.below yB.out, by have h := y1.out; rw [hba.out q hlq, nats_ints] at h; exact (by unfold permZ; rw [perm_pf, hM.out]; exact h.mono (Nat.succ_le_of_lt t1.out.lt))⟩)
          clear y1 yB t1 tB r2 hR hst hpow hnz hget hplt hbk hba hpl hm
          go_upto_region 12 with (fail)
          refine wp_region_heldL (L := [(8, (fun w' : World => w'.cell? ⟨w.heap.size, 1, none⟩ = some vA)), (15, (fun w' : World => w'.cell? ⟨w.heap.size, 2, none⟩ = some vB))]) (by kernel_rfl) (HeldL.cons (fun _ => hg.out.drew.c1) (HeldL.cons (fun _ => hg.out.drew.c2) HeldL.nil)) (fun hHeld => ?_)
          have hg' := hid hg.out.drew
          have hh := hid (Nat.le_refl wr.drew.heap.size)
          have hvlt := hid (fun k hk => (hg'.out.mA.lt k hk).2)
          generalize hwd : wr.drew = wd at *
          clear hg
          have hg := hg'
          clear hg'
          generalize hh0 : wd.heap.size = h0 at hh hvlt
          have hh' := hid (show h0 ≤ wd.heap.size by omega)
          clear hh hh0 hwd
          have hh := hh'
          clear hh'
          refine wpAnyL_take0 (i := 0) (v := ?_) rfl (by kernel_rfl) (by kernel_rfl) (by kernel_rfl) (by rfl) (fun _ _ _ h => h) (Or.inl ⟨by rfl, ?_⟩) (by assumption) ?_
          rotate_left
          · (intro W _; go_simp; (with_reducible rfl))
          intro hHeld'
          clear hHeld; have hHeld := hHeld'; clear hHeld'
          try simp only [Act.put, List.setIfInBounds_toArray, List.set_cons_zero, List.set_cons_succ]
          refine wpAnyL_take0 (i := 1) (v := ?_) rfl (by kernel_rfl) (by kernel_rfl) (by kernel_rfl) (by rfl) (fun _ _ _ h => h) (Or.inl ⟨by rfl, ?_⟩) (by assumption) ?_
          rotate_left
          · (intro W _; go_simp; (with_reducible rfl))
          intro hHeld'
          clear hHeld; have hHeld := hHeld'; clear hHeld'
          try simp only [Act.put, List.setIfInBounds_toArray, List.set_cons_zero, List.set_cons_succ]
          refine wpAnyL_take0 (i := 2) (v := ?_) rfl (by kernel_rfl) (by kernel_rfl) (by kernel_rfl) (by rfl) (fun _ _ _ h => h) (Or.inl ⟨by rfl, ?_⟩) (by assumption) ?_
          rotate_left
          · (intro W _; go_simp; (with_reducible rfl))
          intro hHeld'
          clear hHeld; have hHeld := hHeld'; clear hHeld'
          try simp only [Act.put, List.setIfInBounds_toArray, List.set_cons_zero, List.set_cons_succ]
          refine wpAnyL_take0 (i := 3) (v := ?_) rfl (by kernel_rfl) (by kernel_rfl) (by kernel_rfl) (by rfl) (fun _ _ _ h => h) (Or.inl ⟨by rfl, ?_⟩) (by assumption) ?_
          rotate_left
          · (intro W _; go_simp; (with_reducible rfl))
          intro hHeld'
          clear hHeld; have hHeld := hHeld'; clear hHeld'
          try simp only [Act.put, List.setIfInBounds_toArray, List.set_cons_zero, List.set_cons_succ]
          refine wpAnyL_take0 (i := 4) (v := ?_) rfl (by kernel_rfl) (by kernel_rfl) (by kernel_rfl) (by rfl) (fun _ _ _ h => h) (Or.inl ⟨by rfl, ?_⟩) (by assumption) ?_
          rotate_left
          · (intro W _; go_simp; (with_reducible rfl))
          intro hHeld'
          clear hHeld; have hHeld := hHeld'; clear hHeld'
          try simp only [Act.put, List.setIfInBounds_toArray, List.set_cons_zero, List.set_cons_succ]
          refine wpAnyL_takeT (i := 5) 8 (v := vA) (fun w' : World => w'.cell? ⟨w.heap.size, 1, none⟩ = some vA) rfl rfl (by kernel_rfl) (by kernel_rfl) (by kernel_rfl) (by rfl) (by decide +kernel) (by decide +kernel) (by decide +kernel) (by simp) (fun _ _ _ h => h) (Or.inl ⟨by rfl, ?_⟩) (by assumption) ?_
          · (intro W hW; (try dsimp only at hW); go_simp)
          intro hHeld'
          clear hHeld; have hHeld := hHeld'; clear hHeld'
          try simp only [Act.put, List.setIfInBounds_toArray, List.set_cons_zero, List.set_cons_succ]
          refine wpAnyL_take0 (i := 6) (v := ?_) rfl (by kernel_rfl) (by kernel_rfl) (by kernel_rfl) (by rfl) (fun _ _ _ h => h) (Or.inl ⟨by rfl, ?_⟩) (by assumption) ?_
          rotate_left
          · (intro W _; go_simp; (with_reducible rfl))
          intro hHeld'
          clear hHeld; have hHeld := hHeld'; clear hHeld'
          try simp only [Act.put, List.setIfInBounds_toArray, List.set_cons_zero, List.set_cons_succ]
          refine wpAnyL_take0 (i := 9) (v := ?_) rfl (by kernel_rfl) (by kernel_rfl) (by kernel_rfl) (by rfl) (fun _ _ _ h => h) (Or.inl ⟨by rfl, ?_⟩) (by assumption) ?_
          rotate_left
          · (intro W _; go_simp; (with_reducible rfl))
          intro hHeld'
          clear hHeld; have hHeld := hHeld'; clear hHeld'
          try simp only [Act.put, List.setIfInBounds_toArray, List.set_cons_zero, List.set_cons_succ]
          refine wpAnyL_take0 (i := 10) (v := ?_) rfl (by kernel_rfl) (by kernel_rfl) (by kernel_rfl) (by rfl) (fun _ _ _ h => h) (Or.inl ⟨by rfl, ?_⟩) (by assumption) ?_
          rotate_left
          · (intro W _; go_simp; (with_reducible rfl))
          intro hHeld'
          clear hHeld; have hHeld := hHeld'; clear hHeld'
          try simp only [Act.put, List.setIfInBounds_toArray, List.set_cons_zero, List.set_cons_succ]
          refine wpAnyL_take0 (i := 11) (v := ?_) rfl (by kernel_rfl) (by kernel_rfl) (by kernel_rfl) (by rfl) (fun _ _ _ h => h) (Or.inl ⟨by rfl, ?_⟩) (by assumption) ?_
          rotate_left
          · (intro W _; go_simp; (with_reducible rfl))
          intro hHeld'
          clear hHeld; have hHeld := hHeld'; clear hHeld'
          try simp only [Act.put, List.setIfInBounds_toArray, List.set_cons_zero, List.set_cons_succ]
          refine wpAnyL_takeT (i := 12) 15 (v := vB) (fun w' : World => w'.cell? ⟨w.heap.size, 2, none⟩ = some vB) rfl rfl (by kernel_rfl) (by kernel_rfl) (by kernel_rfl) (by rfl) (by decide +kernel) (by decide +kernel) (by decide +kernel) (by simp) (fun _ _ _ h => h) (Or.inl ⟨by rfl, ?_⟩) (by assumption) ?_
          · (intro W hW; (try dsimp only at hW); go_simp)
          intro hHeld'
          clear hHeld; have hHeld := hHeld'; clear hHeld'
          try simp only [Act.put, List.setIfInBounds_toArray, List.set_cons_zero, List.set_cons_succ]
          refine wpAnyL_take0 (i := 13) (v := ?_) rfl (by kernel_rfl) (by kernel_rfl) (by kernel_rfl) (by rfl) (fun _ _ _ h => h) (Or.inl ⟨by rfl, ?_⟩) (by assumption) ?_
          rotate_left
          · (intro W _; go_simp; (with_reducible rfl))
          intro hHeld'
          clear hHeld; have hHeld := hHeld'; clear hHeld'
          try simp only [Act.put, List.setIfInBounds_toArray, List.set_cons_zero, List.set_cons_succ]
          refine wpAnyL_ready (rs := [7, 14]) (by kernel_rfl) (by simp) ?_
          refine AllReadyL.cons rfl (fun K hK => ?_) ?_
          · -- the box of the first row comes first
            go_simp
            have hg' := hid (hg.out.alloc (Nat.le_refl _) (.cells #[Value.slice (some ⟨g1, 0, none⟩) M c1] 34))
            have boxA' : (wd.alloc (.cells #[Value.slice (some ⟨g1, 0, none⟩) M c1] 34)).cell? ⟨wd.heap.size, 0, none⟩ = some (Value.slice (some ⟨g1, 0, none⟩) M c1) := by simp
            have hbA := hid (show h0 ≤ wd.heap.size ∧ wd.heap.size < (wd.alloc (.cells #[Value.slice (some ⟨g1, 0, none⟩) M c1] 34)).heap.size from ⟨hh.out, by simp⟩)
            have hh' := hid (show h0 ≤ (wd.alloc (.cells #[Value.slice (some ⟨g1, 0, none⟩) M c1] 34)).heap.size from by have := hh.out; simp; omega)
            generalize hbAe : wd.heap.size = bA at *
            generalize wd.alloc (.cells #[Value.slice (some ⟨g1, 0, none⟩) M c1] 34) = we at *
            clear hbAe hg hh
            have hg := hg'; have hh := hh'; have boxA := hid boxA'
            clear hg' hh' boxA'
            refine hK.out _ _ (HeldL.cons (fun _ => hg.out.c1) (HeldL.cons (fun _ => hg.out.c2) HeldL.nil)) (fun hHeld' => ?_)
            clear hK K hHeld; have hHeld := hHeld'; clear hHeld'
            try simp only [Act.put, List.setIfInBounds_toArray, List.set_cons_zero, List.set_cons_succ]
            refine wpAnyL_ready (rs := [8, 14]) (by kernel_rfl) (by simp) ?_
            refine AllReadyL.cons rfl (fun K hK => ?_) ?_
            · refine GS.appA hg.out rfl _ _ rfl rfl bA boxA.out rfl (by rw [tabA_length]; omega) ?_
              intro ga ca wf hg' hsz hold
              have hh' := hid (show h0 ≤ wf.heap.size from Nat.le_trans hh.out hsz)
              clear hg hh hold hsz boxA hbA
              have hg := hid hg'; have hh := hh'
              clear hg' hh'
              refine hK.out _ _ (HeldL.cons (fun _ => hg.out.c1) (HeldL.cons (fun _ => hg.out.c2) HeldL.nil)) (fun hHeld' => ?_)
              clear hK K hHeld; have hHeld := hHeld'; clear hHeld'
              try simp only [Act.put, List.setIfInBounds_toArray, List.set_cons_zero, List.set_cons_succ]
              refine wpAnyL_ready (rs := [14]) (by kernel_rfl) (by simp) ?_
              refine AllReadyL.cons rfl (fun K hK => ?_) AllReadyL.nil
              go_simp
              have hg' := hid (hg.out.alloc (Nat.le_refl _) (.cells #[Value.slice (some ⟨w3.heap.size, 0, none⟩) M M] 34))
              have boxB' : (wf.alloc (.cells #[Value.slice (some ⟨w3.heap.size, 0, none⟩) M M] 34)).cell? ⟨wf.heap.size, 0, none⟩ = some (Value.slice (some ⟨w3.heap.size, 0, none⟩) M M) := by simp
              have hbB := hid (show h0 ≤ wf.heap.size ∧ wf.heap.size < (wf.alloc (.cells #[Value.slice (some ⟨w3.heap.size, 0, none⟩) M M] 34)).heap.size from ⟨hh.out, by simp⟩)
              have hh' := hid (show h0 ≤ (wf.alloc (.cells #[Value.slice (some ⟨w3.heap.size, 0, none⟩) M M] 34)).heap.size from by have := hh.out; simp; omega)
              generalize hbBe : wf.heap.size = bB at *
              generalize wf.alloc (.cells #[Value.slice (some ⟨w3.heap.size, 0, none⟩) M M] 34) = wg at *
              clear hbBe hg hh
              have hg := hg'; have hh := hh'; have boxB := hid boxB'
              clear hg' hh' boxB'
              refine hK.out _ _ (HeldL.cons (fun _ => hg.out.c1) (HeldL.cons (fun _ => hg.out.c2) HeldL.nil)) (fun hHeld' => ?_)
              clear hK K hHeld; have hHeld := hHeld'; clear hHeld'
              try simp only [Act.put, List.setIfInBounds_toArray, List.set_cons_zero, List.set_cons_succ]
              refine wpAnyL_ready (rs := [15]) (by kernel_rfl) (by simp) ?_
              refine AllReadyL.cons rfl (fun K hK => ?_) AllReadyL.nil
              refine GS.appB hg.out rfl _ _ rfl rfl bB boxB.out rfl (by rw [tabA_length]; omega) ?_
              intro gb cb wx hg'
              clear hg boxB
              have hg := hid hg'
              clear hg'
              refine hK.out _ _ (HeldL.cons (fun _ => hg.out.c1) (HeldL.cons (fun _ => hg.out.c2) HeldL.nil)) (fun hHeld' => ?_)
              clear hK K hHeld; have hHeld := hHeld'; clear hHeld'
              try simp only [Act.put, List.setIfInBounds_toArray, List.set_cons_zero, List.set_cons_succ]
              refine wpAnyL_take0 (i := 16) (v := ?_) rfl (by kernel_rfl) (by kernel_rfl) (by kernel_rfl) (by rfl) (fun _ _ _ h => h) (Or.inl ⟨by rfl, ?_⟩) (by assumption) ?_
              rotate_left
              · (intro W _; go_simp; (with_reducible rfl))
              intro hHeld'
              clear hHeld; have hHeld := hHeld'; clear hHeld'
              try simp only [Act.put, List.setIfInBounds_toArray, List.set_cons_zero, List.set_cons_succ]
              refine wpAnyL_take0 (i := 17) (v := ?_) rfl (by kernel_rfl) (by kernel_rfl) (by kernel_rfl) (by rfl) (fun _ _ _ h => h) (Or.inl ⟨by rfl, ?_⟩) (by assumption) ?_
              rotate_left
              · (intro W _; go_simp; (with_reducible rfl))
              intro hHeld'
              clear hHeld; have hHeld := hHeld'; clear hHeld'
              try simp only [Act.put, List.setIfInBounds_toArray, List.set_cons_zero, List.set_cons_succ]
              have q1 := hg.out.c1
              have q2 := hg.out.fr 1
              refine wpAnyL_ready (rs := [18]) (by kernel_rfl) (by simp) ?_
              refine AllReadyL.cons rfl (fun K hK => ?_) AllReadyL.nil
              go_simp
              have hg' := hid (hg.out.set1 (.slice (some ⟨ga, 0, none⟩) ((tabA m l n q).length + 1) ca))
              clear q1 q2 hg
              have hg := hg'
              clear hg'
              refine hK.out _ _ (HeldL.cons (fun h => absurd h (by decide +kernel)) (HeldL.cons (fun h => absurd h (by decide +kernel)) HeldL.nil)) (fun hHeld' => ?_)
              clear hK K hHeld; have hHeld := hHeld'; clear hHeld'
              try simp only [Act.put, List.setIfInBounds_toArray, List.set_cons_zero, List.set_cons_succ]
              refine wpAnyL_take0 (i := 19) (v := ?_) rfl (by kernel_rfl) (by kernel_rfl) (by kernel_rfl) (by rfl) (fun _ _ _ h => h) (Or.inl ⟨by rfl, ?_⟩) (by assumption) ?_
              rotate_left
              · (intro W _; go_simp; (with_reducible rfl))
              intro hHeld'
              clear hHeld; have hHeld := hHeld'; clear hHeld'
              try simp only [Act.put, List.setIfInBounds_toArray, List.set_cons_zero, List.set_cons_succ]
              refine wpAnyL_take0 (i := 20) (v := ?_) rfl (by kernel_rfl) (by kernel_rfl) (by kernel_rfl) (by rfl) (fun _ _ _ h => h) (Or.inl ⟨by rfl, ?_⟩) (by assumption) ?_
              rotate_left
              · (intro W _; go_simp; (with_reducible rfl))
              intro hHeld'
              clear hHeld; have hHeld := hHeld'; clear hHeld'
              try simp only [Act.put, List.setIfInBounds_toArray, List.set_cons_zero, List.set_cons_succ]
              have q1 := hg.out.c2
              have q2 := hg.out.fr 2
              refine wpAnyL_ready (rs := [21]) (by kernel_rfl) (by simp) ?_
              refine AllReadyL.cons rfl (fun K hK => ?_) AllReadyL.nil
              go_simp
              have hg' := hid (hg.out.set2 (.slice (some ⟨gb, 0, none⟩) ((tabA I l n q).length + 1) cb))
              clear q1 q2 hg
              have hg := hg'
              clear hg'
              refine hK.out _ _ (HeldL.cons (fun h => absurd h (by decide +kernel)) (HeldL.cons (fun h => absurd h (by decide +kernel)) HeldL.nil)) (fun hHeld' => ?_)
              clear hK K hHeld; have hHeld := hHeld'; clear hHeld'
              try simp only [Act.put, List.setIfInBounds_toArray, List.set_cons_zero, List.set_cons_succ]
              refine wpAnyL_done (by kernel_rfl) ?_ _
              go_wp2
              go_roundw
              case rel =>
                have hx := hg.out
                exact ⟨q + 1, by omega, by go_num, _, _, ⟨hx.blk, by rw [hsA.out]; exact hx.mA, by rw [hsI.out]; exact hx.mB⟩, hx.dis, hx.bel⟩
              case measure => simp [intOf]; omega
            refine AllReadyL.cons rfl (fun K hK => ?_) AllReadyL.nil
            go_simp
            have hg' := hid (hg.out.alloc (Nat.le_refl _) (.cells #[Value.slice (some ⟨w3.heap.size, 0, none⟩) M M] 34))
            have boxB' : (we.alloc (.cells #[Value.slice (some ⟨w3.heap.size, 0, none⟩) M M] 34)).cell? ⟨we.heap.size, 0, none⟩ = some (Value.slice (some ⟨w3.heap.size, 0, none⟩) M M) := by simp
            have hbB := hid (show h0 ≤ we.heap.size ∧ we.heap.size < (we.alloc (.cells #[Value.slice (some ⟨w3.heap.size, 0, none⟩) M M] 34)).heap.size from ⟨hh.out, by simp⟩)
            have boxA' := (World.cell?_of_block (Below.heap_alloc we (.cells #[Value.slice (some ⟨w3.heap.size, 0, none⟩) M M] 34) bA hbA.out.2)).trans boxA.out
            have hbA' := hid (show h0 ≤ bA ∧ bA < (we.alloc (.cells #[Value.slice (some ⟨w3.heap.size, 0, none⟩) M M] 34)).heap.size from ⟨hbA.out.1, by have := hbA.out.2; simp; omega⟩)
            have hh' := hid (show h0 ≤ (we.alloc (.cells #[Value.slice (some ⟨w3.heap.size, 0, none⟩) M M] 34)).heap.size from by have := hh.out; simp; omega)
            generalize hbBe : we.heap.size = bB at *
            generalize we.alloc (.cells #[Value.slice (some ⟨w3.heap.size, 0, none⟩) M M] 34) = wf at *
            clear hbBe hg hh
            have hg := hg'; have hh := hh'; have boxB := hid boxB'
            clear hg' hh' boxB'
            clear boxA hbA
            have boxA := hid boxA'; have hbA := hbA'
            clear boxA' hbA'
            refine hK.out _ _ (HeldL.cons (fun _ => hg.out.c1) (HeldL.cons (fun _ => hg.out.c2) HeldL.nil)) (fun hHeld' => ?_)
            clear hK K hHeld; have hHeld := hHeld'; clear hHeld'
            try simp only [Act.put, List.setIfInBounds_toArray, List.set_cons_zero, List.set_cons_succ]
            refine wpAnyL_ready (rs := [8]) (by kernel_rfl) (by simp) ?_
            refine AllReadyL.cons rfl (fun K hK => ?_) AllReadyL.nil
            refine GS.appA hg.out rfl _ _ rfl rfl bA boxA.out rfl (by rw [tabA_length]; omega) ?_
            intro ga ca wg hg' hsz hold
            have boxB' := hid ((World.cell?_of_block (hold bB hbB.out.2 (fun e => by have h1 := hbB.out.1; have h2 := hvlt.out bB e; omega))).trans boxB.out)
            have hh' := hid (show h0 ≤ wg.heap.size from Nat.le_trans hh.out hsz)
            clear hg hh hold hsz boxA hbA
            have hg := hid hg'; have hh := hh'
            clear hg' hh'
            clear boxB hbB
            have boxB := boxB'
            clear boxB'
            refine hK.out _ _ (HeldL.cons (fun _ => hg.out.c1) (HeldL.cons (fun _ => hg.out.c2) HeldL.nil)) (fun hHeld' => ?_)
            clear hK K hHeld; have hHeld := hHeld'; clear hHeld'
            try simp only [Act.put, List.setIfInBounds_toArray, List.set_cons_zero, List.set_cons_succ]
            refine wpAnyL_ready (rs := [15]) (by kernel_rfl) (by simp) ?_
            refine AllReadyL.cons rfl (fun K hK => ?_) AllReadyL.nil
            refine GS.appB hg.out rfl _ _ rfl rfl bB boxB.out rfl (by rw [tabA_length]; omega) ?_
            intro gb cb wx hg'
            clear hg boxB
            have hg := hid hg'
            clear hg'
            refine hK.out _ _ (HeldL.cons (fun _ => hg.out.c1) (HeldL.cons (fun _ => hg.out.c2) HeldL.nil)) (fun hHeld' => ?_)
            clear hK K hHeld; have hHeld := hHeld'; clear hHeld'
            try simp only [Act.put, List.setIfInBounds_toArray, List.set_cons_zero, List.set_cons_succ]
            refine wpAnyL_take0 (i := 16) (v := ?_) rfl (by kernel_rfl) (by kernel_rfl) (by kernel_rfl) (by rfl) (fun _ _ _ h => h) (Or.inl ⟨by rfl, ?_⟩) (by assumption) ?_
            rotate_left
            · (intro W _; go_simp; (with_reducible rfl))
            intro hHeld'
            clear hHeld; have hHeld := hHeld'; clear hHeld'
            try simp only [Act.put, List.setIfInBounds_toArray, List.set_cons_zero, List.set_cons_succ]
            refine wpAnyL_take0 (i := 17) (v := ?_) rfl (by kernel_rfl) (by kernel_rfl) (by kernel_rfl) (by rfl) (fun _ _ _ h => h) (Or.inl ⟨by rfl, ?_⟩) (by assumption) ?_
            rotate_left
            · (intro W _; go_simp; (with_reducible rfl))
            intro hHeld'
            clear hHeld; have hHeld := hHeld'; clear hHeld'
            try simp only [Act.put, List.setIfInBounds_toArray, List.set_cons_zero, List.set_cons_succ]
            have q1 := hg.out.c1
            have q2 := hg.out.fr 1
            refine wpAnyL_ready (rs := [18]) (by kernel_rfl) (by simp) ?_
            refine AllReadyL.cons rfl (fun K hK => ?_) AllReadyL.nil
            go_simp
            have hg' := hid (hg.out.set1 (.slice (some ⟨ga, 0, none⟩) ((tabA m l n q).length + 1) ca))
            clear q1 q2 hg
            have hg := hg'
            clear hg'
            refine hK.out _ _ (HeldL.cons (fun h => absurd h (by decide +kernel)) (HeldL.cons (fun h => absurd h (by decide +kernel)) HeldL.nil)) (fun hHeld' => ?_)
            clear hK K hHeld; have hHeld := hHeld'; clear hHeld'
            try simp only [Act.put, List.setIfInBounds_toArray, List.set_cons_zero, List.set_cons_succ]
            refine wpAnyL_take0 (i := 19) (v := ?_) rfl (by kernel_rfl) (by kernel_rfl) (by kernel_rfl) (by rfl) (fun _ _ _ h => h) (Or.inl ⟨by rfl, ?_⟩) (by assumption) ?_
            rotate_left
            · (intro W _; go_simp; (with_reducible rfl))
            intro hHeld'
            clear hHeld; have hHeld := hHeld'; clear hHeld'
            try simp only [Act.put, List.setIfInBounds_toArray, List.set_cons_zero, List.set_cons_succ]
            refine wpAnyL_take0 (i := 20) (v := ?_) rfl (by kernel_rfl) (by kernel_rfl) (by kernel_rfl) (by rfl) (fun _ _ _ h => h) (Or.inl ⟨by rfl, ?_⟩) (by assumption) ?_
            rotate_left
            · (intro W _; go_simp; (with_reducible rfl))
            intro hHeld'
            clear hHeld; have hHeld := hHeld'; clear hHeld'
            try simp only [Act.put, List.setIfInBounds_toArray, List.set_cons_zero, List.set_cons_succ]
            have q1 := hg.out.c2
            have q2 := hg.out.fr 2
            refine wpAnyL_ready (rs := [21]) (by kernel_rfl) (by simp) ?_
            refine AllReadyL.cons rfl (fun K hK => ?_) AllReadyL.nil
            go_simp
            have hg' := hid (hg.out.set2 (.slice (some ⟨gb, 0, none⟩) ((tabA I l n q).length + 1) cb))
            clear q1 q2 hg
            have hg := hg'
            clear hg'
            refine hK.out _ _ (HeldL.cons (fun h => absurd h (by decide +kernel)) (HeldL.cons (fun h => absurd h (by decide +kernel)) HeldL.nil)) (fun hHeld' => ?_)
            clear hK K hHeld; have hHeld := hHeld'; clear hHeld'
            try simp only [Act.put, List.setIfInBounds_toArray, List.set_cons_zero, List.set_cons_succ]
            refine wpAnyL_done (by kernel_rfl) ?_ _
            go_wp2
            go_roundw
            case rel =>
              have hx := hg.out
              exact ⟨q + 1, by omega, by go_num, _, _, ⟨hx.blk, by rw [hsA.out]; exact hx.mA, by rw [hsI.out]; exact hx.mB⟩, hx.dis, hx.bel⟩
            case measure => simp [intOf]; omega
          refine AllReadyL.cons rfl (fun K hK => ?_) AllReadyL.nil
          go_simp
          have hg' := hid (hg.out.alloc (Nat.le_refl _) (.cells #[Value.slice (some ⟨w3.heap.size, 0, none⟩) M M] 34))
          have boxB' : (wd.alloc (.cells #[Value.slice (some ⟨w3.heap.size, 0, none⟩) M M] 34)).cell? ⟨wd.heap.size, 0, none⟩ = some (Value.slice (some ⟨w3.heap.size, 0, none⟩) M M) := by simp
          have hbB := hid (show h0 ≤ wd.heap.size ∧ wd.heap.size < (wd.alloc (.cells #[Value.slice (some ⟨w3.heap.size, 0, none⟩) M M] 34)).heap.size from ⟨hh.out, by simp⟩)
          have hh' := hid (show h0 ≤ (wd.alloc (.cells #[Value.slice (some ⟨w3.heap.size, 0, none⟩) M M] 34)).heap.size from by have := hh.out; simp; omega)
          generalize hbBe : wd.heap.size = bB at *
          generalize wd.alloc (.cells #[Value.slice (some ⟨w3.heap.size, 0, none⟩) M M] 34) = we at *
          clear hbBe hg hh
          have hg := hg'; have hh := hh'; have boxB := hid boxB'
          clear hg' hh' boxB'
          refine hK.out _ _ (HeldL.cons (fun _ => hg.out.c1) (HeldL.cons (fun _ => hg.out.c2) HeldL.nil)) (fun hHeld' => ?_)
          clear hK K hHeld; have hHeld := hHeld'; clear hHeld'
          try simp only [Act.put, List.setIfInBounds_toArray, List.set_cons_zero, List.set_cons_succ]
          refine wpAnyL_ready (rs := [7]) (by kernel_rfl) (by simp) ?_
          refine AllReadyL.cons rfl (fun K hK => ?_) AllReadyL.nil
          go_simp
          have hg' := hid (hg.out.alloc (Nat.le_refl _) (.cells #[Value.slice (some ⟨g1, 0, none⟩) M c1] 34))
          have boxA' : (we.alloc (.cells #[Value.slice (some ⟨g1, 0, none⟩) M c1] 34)).cell? ⟨we.heap.size, 0, none⟩ = some (Value.slice (some ⟨g1, 0, none⟩) M c1) := by simp
          have hbA := hid (show h0 ≤ we.heap.size ∧ we.heap.size < (we.alloc (.cells #[Value.slice (some ⟨g1, 0, none⟩) M c1] 34)).heap.size from ⟨hh.out, by simp⟩)
          have boxB' := (World.cell?_of_block (Below.heap_alloc we (.cells #[Value.slice (some ⟨g1, 0, none⟩) M c1] 34) bB hbB.out.2)).trans boxB.out
          have hbB' := hid (show h0 ≤ bB ∧ bB < (we.alloc (.cells #[Value.slice (some ⟨g1, 0, none⟩) M c1] 34)).heap.size from ⟨hbB.out.1, by have := hbB.out.2; simp; omega⟩)
          have hh' := hid (show h0 ≤ (we.alloc (.cells #[Value.slice (some ⟨g1, 0, none⟩) M c1] 34)).heap.size from by have := hh.out; simp; omega)
          generalize hbAe : we.heap.size = bA at *
          generalize we.alloc (.cells #[Value.slice (some ⟨g1, 0, none⟩) M c1] 34) = wf at *
          clear hbAe hg hh
          have hg := hg'; have hh := hh'; have boxA := hid boxA'
          clear hg' hh' boxA'
          clear boxB hbB
          have boxB := hid boxB'; have hbB := hbB'
          clear boxB' hbB'
          refine hK.out _ _ (HeldL.cons (fun _ => hg.out.c1) (HeldL.cons (fun _ => hg.out.c2) HeldL.nil)) (fun hHeld' => ?_)
          clear hK K hHeld; have hHeld := hHeld'; clear hHeld'
          try simp only [Act.put, List.setIfInBounds_toArray, List.set_cons_zero, List.set_cons_succ]
          refine wpAnyL_ready (rs := [8]) (by kernel_rfl) (by simp) ?_
          refine AllReadyL.cons rfl (fun K hK => ?_) AllReadyL.nil
          refine GS.appA hg.out rfl _ _ rfl rfl bA boxA.out rfl (by rw [tabA_length]; omega) ?_
          intro ga ca wg hg' hsz hold
          have boxB' := hid ((World.cell?_of_block (hold bB hbB.out.2 (fun e => by have h1 := hbB.out.1; have h2 := hvlt.out bB e; omega))).trans boxB.out)
          have hh' := hid (show h0 ≤ wg.heap.size from Nat.le_trans hh.out hsz)
          clear hg hh hold hsz boxA hbA
          have hg := hid hg'; have hh := hh'
          clear hg' hh'
          clear boxB hbB
          have boxB := boxB'
          clear boxB'
          refine hK.out _ _ (HeldL.cons (fun _ => hg.out.c1) (HeldL.cons (fun _ => hg.out.c2) HeldL.nil)) (fun hHeld' => ?_)
          clear hK K hHeld; have hHeld := hHeld'; clear hHeld'
          try simp only [Act.put, List.setIfInBounds_toArray, List.set_cons_zero, List.set_cons_succ]
          refine wpAnyL_ready (rs := [15]) (by kernel_rfl) (by simp) ?_
          refine AllReadyL.cons rfl (fun K hK => ?_) AllReadyL.nil
          refine GS.appB hg.out rfl _ _ rfl rfl bB boxB.out rfl (by rw [tabA_length]; omega) ?_
          intro gb cb wx hg'
          clear hg boxB
          have hg := hid hg'
          clear hg'
          refine hK.out _ _ (HeldL.cons (fun _ => hg.out.c1) (HeldL.cons (fun _ => hg.out.c2) HeldL.nil)) (fun hHeld' => ?_)
          clear hK K hHeld; have hHeld := hHeld'; clear hHeld'
          try simp only [Act.put, List.setIfInBounds_toArray, List.set_cons_zero, List.set_cons_succ]
          refine wpAnyL_take0 (i := 16) (v := ?_) rfl (by kernel_rfl) (by kernel_rfl) (by kernel_rfl) (by rfl) (fun _ _ _ h => h) (Or.inl ⟨by rfl, ?_⟩) (by assumption) ?_
          rotate_left
          · (intro W _; go_simp; (with_reducible rfl))
          intro hHeld'
          clear hHeld; have hHeld := hHeld'; clear hHeld'
          try simp only [Act.put, List.setIfInBounds_toArray, List.set_cons_zero, List.set_cons_succ]
          refine wpAnyL_take0 (i := 17) (v := ?_) rfl (by kernel_rfl) (by kernel_rfl) (by kernel_rfl) (by rfl) (fun _ _ _ h => h) (Or.inl ⟨by rfl, ?_⟩) (by assumption) ?_
          rotate_left
          · (intro W _; go_simp; (with_reducible rfl))
          intro hHeld'
          clear hHeld; have hHeld := hHeld'; clear hHeld'
          try simp only [Act.put, List.setIfInBounds_toArray, List.set_cons_zero, List.set_cons_succ]
          have q1 := hg.out.c1
          have q2 := hg.out.fr 1
          refine wpAnyL_ready (rs := [18]) (by kernel_rfl) (by simp) ?_
          refine AllReadyL.cons rfl (fun K hK => ?_) AllReadyL.nil
          go_simp
          have hg' := hid (hg.out.set1 (.slice (some ⟨ga, 0, none⟩) ((tabA m l n q).length + 1) ca))
          clear q1 q2 hg
          have hg := hg'
          clear hg'
          refine hK.out _ _ (HeldL.cons (fun h => absurd h (by decide +kernel)) (HeldL.cons (fun h => absurd h (by decide +kernel)) HeldL.nil)) (fun hHeld' => ?_)
          clear hK K hHeld; have hHeld := hHeld'; clear hHeld'
          try simp only [Act.put, List.setIfInBounds_toArray, List.set_cons_zero, List.set_cons_succ]
          refine wpAnyL_take0 (i := 19) (v := ?_) rfl (by kernel_rfl) (by kernel_rfl) (by kernel_rfl) (by rfl) (fun _ _ _ h => h) (Or.inl ⟨by rfl, ?_⟩) (by assumption) ?_
          rotate_left
          · (intro W _; go_simp; (with_reducible rfl))
          intro hHeld'
          clear hHeld; have hHeld := hHeld'; clear hHeld'
          try simp only [Act.put, List.setIfInBounds_toArray, List.set_cons_zero, List.set_cons_succ]
          refine wpAnyL_take0 (i := 20) (v := ?_) rfl (by kernel_rfl) (by kernel_rfl) (by kernel_rfl) (by rfl) (fun _ _ _ h => h) (Or.inl ⟨by rfl, ?_⟩) (by assumption) ?_
          rotate_left
          · (intro W _; go_simp; (with_reducible rfl))
          intro hHeld'
          clear hHeld; have hHeld := hHeld'; clear hHeld'
          try simp only [Act.put, List.setIfInBounds_toArray, List.set_cons_zero, List.set_cons_succ]
          have q1 := hg.out.c2
          have q2 := hg.out.fr 2
          refine wpAnyL_ready (rs := [21]) (by kernel_rfl) (by simp) ?_
          refine AllReadyL.cons rfl (fun K hK => ?_) AllReadyL.nil
          go_simp
          have hg' := hid (hg.out.set2 (.slice (some ⟨gb, 0, none⟩) ((tabA I l n q).length + 1) cb))
          clear q1 q2 hg
          have hg := hg'
          clear hg'
          refine hK.out _ _ (HeldL.cons (fun h => absurd h (by decide +kernel)) (HeldL.cons (fun h => absurd h (by decide +kernel)) HeldL.nil)) (fun hHeld' => ?_)
          clear hK K hHeld; have hHeld := hHeld'; clear hHeld'
          try simp only [Act.put, List.setIfInBounds_toArray, List.set_cons_zero, List.set_cons_succ]
          refine wpAnyL_done (by kernel_rfl) ?_ _
          go_wp2
          go_roundw
          case rel =>
            have hx := hg.out
            exact ⟨q + 1, by omega, by go_num, _, _, ⟨hx.blk, by rw [hsA.out]; exact hx.mA, by rw [hsI.out]; exact hx.mB⟩, hx.dis, hx.bel⟩
          case measure => simp [intOf]; omega
    · obtain rfl : s = q := by omega
      go_wp2
      go_ret
      exact ⟨vA, vB, rfl, r1.out, rB.out⟩
end Go.Proofs.Ytgpjcekpmhfljaa

/- FixedWords: what the program and the reference answer. -/
namespace Go.Proofs.Ytgpjcekpmhfljaa
open Go.RowKit
set_option linter.unusedVariables false
set_option linter.unusedSimpArgs false

theorem levelI_cases (m : Mach) (n : Int) : levelI m n = 0 ∨ levelI m n = 1 ∨ levelI m n = 2 := by
  by_cases hm : IsM m
  · obtain ⟨l, s, g⟩ := hm.good
    by_cases h : 0 ≤ n ∧ n ≤ 7 - (l : Int)
    · exact .inl (levelI_0 g h)
    · exact .inr (.inr (levelI_2 g h))
  · exact .inr (.inl (levelI_1 hm))
/-- A level that is asked for. -/
theorem levelI_good {m : Mach} {n : Int} (h : levelI m n = 0) : ∃ l s n', Good m l s ∧ n = ((n' : Nat) : Int) ∧ n' ≤ 5 ∧ n' + l ≤ 7 ∧ pw l n' ≤ 243 := by
  by_cases hm : IsM m
  · obtain ⟨l, s, g⟩ := hm.good
    by_cases hn : 0 ≤ n ∧ n ≤ 7 - (l : Int)
    · obtain ⟨n', rfl⟩ := Int.eq_ofNat_of_zero_le hn.1
      have l2 := g.l2
      have l3 := g.l3
      exact ⟨l, s, n', g, rfl, by omega, by omega, pw_small l n' l3 (by omega)⟩
    · rw [levelI_2 g hn] at h; cases h
  · rw [levelI_1 hm] at h; cases h

/-- How many numbers below j are left where they are. -/
def fixn (P : Nat → Nat) : Nat → Nat
  | 0 => 0
  | j + 1 => if P j = j then fixn P j + 1 else fixn P j
theorem fixn_le (P : Nat → Nat) : ∀ j, fixn P j ≤ j
  | 0 => Nat.le_refl _
  | j + 1 => by unfold fixn; split <;> have := fixn_le P j <;> omega
/-- For all states. -/
def fixL (m : Mach) (l n s : Nat) : List Int := (List.range s).map fun q => ((fixn (pf m l q n) (pw l n) : Nat) : Int)
theorem fixL_snoc (m : Mach) (l n s : Nat) : fixL m l n (s + 1) = fixL m l n s ++ [((fixn (pf m l s n) (pw l n) : Nat) : Int)] := by simp [fixL, List.range_succ]
theorem fixL_length (m : Mach) (l n s : Nat) : (fixL m l n s).length = s := by simp [fixL]

open Classical in
noncomputable def fixedAns (m : Mach) (n : Int) : List Int × Int := if levelI m n = 0 then (fixL m m.L.toNat n.toNat m.S.toNat, 0) else ([], levelI m n)
theorem fixedAns_0 {m : Mach} {l s n : Nat} (g : Good m l s) (h : levelI m n = 0) : fixedAns m n = (fixL m l n s, 0) := by
  unfold fixedAns; rw [if_pos h, g.L, g.S]; rfl
theorem fixedAns_c {m : Mach} {n : Int} (h : levelI m n ≠ 0) : fixedAns m n = ([], levelI m n) := by unfold fixedAns; rw [if_neg h]
theorem fixedAns_len (m : Mach) (n : Int) : (fixedAns m n).1.length < 999999 := by
  by_cases h : levelI m n = 0
  · obtain ⟨l, s, n', g, rfl, _⟩ := levelI_good h
    rw [fixedAns_0 g h, fixL_length]
    have := g.s16; omega
  · rw [fixedAns_c h]; simp


end Go.Proofs.Ytgpjcekpmhfljaa
