/- What the proof of WayTo leans on, part 13 of 15. -/
import Derived.Test.YthempofohidlnaaZWayToL
/- WayTo: what the program answers. -/
namespace Go.Proofs.Ythempofohidlnaa
open Go.RowKit
set_option linter.unusedVariables false
set_option linter.unusedSimpArgs false
-- @LONG

open Classical in
/-- What WayTo answers. -/
noncomputable def wayAns (m : Mach) (n k l : Int) : List Int × Int :=
  if levelI m n = 0 then
    (if inLv m n k ∧ inLv m n l then
      (if (treeT (lvT m m.L.toNat m.S.toNat n.toNat) m.S.toNat (pw m.L.toNat n.toNat) k.toNat).far.getD l.toNat 0 < 0 then ([], 5) else ((treeT (lvT m m.L.toNat m.S.toNat n.toNat) m.S.toNat (pw m.L.toNat n.toNat) k.toNat).ways.getD l.toNat [], 0))
    else ([], 2))
  else ([], levelI m n)
theorem wayAns_c {m : Mach} {n k l : Int} (h : levelI m n ≠ 0) : wayAns m n k l = ([], levelI m n) := by unfold wayAns; rw [if_neg h]
theorem wayAns_2 {m : Mach} {n k l : Int} (h : levelI m n = 0) (hk : ¬ (inLv m n k ∧ inLv m n l)) : wayAns m n k l = ([], 2) := by unfold wayAns; rw [if_pos h, if_neg hk]
theorem wayAns_0 {m : Mach} {d s n k l : Nat} (g : Good m d s) (h : levelI m n = 0) (hk : k < pw d n) (hl : l < pw d n) :
    wayAns m n k l = if (treeT (lvT m d s n) s (pw d n) k).far.getD l 0 < 0 then ([], 5) else ((treeT (lvT m d s n) s (pw d n) k).ways.getD l [], 0) := by
  unfold wayAns inLv
  rw [if_pos h, g.L, g.S, if_pos ⟨⟨by omega, by simp only [Int.toNat_natCast]; omega⟩, ⟨by omega, by simp only [Int.toNat_natCast]; omega⟩⟩]
  rfl
set_option maxHeartbeats 4000000 in
set_option maxRecDepth 100000 in
theorem implWay_any (w : World) (m : Mach) (hk : m.Ok) (n k l : Int) :
    Calls Try.prog 42 #[.agg (mcells m), .int .i64 n, .int .i64 k, .int .i64 l] w fun e w' => ∃ v, e = .returned (.tuple #[v, .int .i64 (wayAns m n k l).2]) ∧ Own w' w.heap.size 2 v (ints (wayAns m n k l).1) ∧ Below w.heap.size w w' := by
  have hS := hid ((St.start w).newMB m 34)
  have hcode := hid (fun W => levelCode_any W m hk n)
  by_cases h0 : levelI m n = 0
  · obtain ⟨d, s, n, gd, rfl, hn5, hnl, hpw⟩ := levelI_good h0
    rw [h0] at hcode
    have hgr := hid (fun W hW => graph_any w.heap.size W m hW d s gd n (by omega) (by omega))
    have hiv : ∀ x, inLv m n x ↔ (0 ≤ x ∧ x < ((pw d n : Nat) : Int)) := fun x => by unfold inLv; rw [gd.L]; simp only [Int.toNat_natCast]
    have hiw := hid (fun (x : Int) (r : Bool) (hr : r = decide (0 ≤ x ∧ x < ((pw d n : Nat) : Int))) W G (hG : W.cell? ⟨G, 0, none⟩ = some (.int .i64 (pw d n : Nat))) => gIsWord_any W G (pw d n) hG hpw x r hr)
    by_cases hkk : inLv m n k ∧ inLv m n l
    · obtain ⟨k, rfl⟩ := Int.eq_ofNat_of_zero_le hkk.1.1
      obtain ⟨l, rfl⟩ := Int.eq_ofNat_of_zero_le hkk.2.1
      have hk' : k < pw d n := by have := ((hiv _).1 hkk.1).2; omega
      have hl' : l < pw d n := by have := ((hiv _).1 hkk.2).2; omega
      rw [wayAns_0 gd h0 hk' hl']
      have hi1 := hid (hiw.out k true (decide_eq_true (by omega)).symm)
      have hi2 := hid (hiw.out l true (decide_eq_true (by omega)).symm)
      have htr := hid (fun W G vA vB (hG : GB W G (pw d n) vA vB (tabA m d n s) (tabA (inv m d s) d n s)) => tree_any W G (pw d n) s k vA vB _ _ hG (pw_few gd.l2 gd.l3 hnl) hk' (tabA_length _ _ _ _) (tabA_length _ _ _ _) gd.s1 gd.s16 (lvT m d s n) (fun p hp => lvT_A p hp) (fun p hp => lvT_B p hp) (fun j fr hj hf => lvT_lt gd j fr hj hf))
      have ok : TrOk (pw d n) (treeT (lvT m d s n) s (pw d n) k) := growT_ok hk' (fun j fr hj hf => lvT_lt gd j fr hj hf) _
      replace hk := hid hk; replace gd := hid gd
      clear hkk h0 hiw hiv
      generalize treeT (lvT m d s n) s (pw d n) k = t at *
      have e1 : t.far[l]? = some (t.far.getD l 0) := by rw [List.getD_eq_getElem?_getD, List.getElem?_eq_getElem (by rw [ok.fl]; exact hl')]; rfl
      have e3 : t.ways[l]? = some (t.ways.getD l []) := by rw [List.getD_eq_getElem?_getD, List.getElem?_eq_getElem (by rw [ok.wl]; exact hl')]; rfl
      generalize t.far.getD l 0 = ft at *
      generalize t.ways.getD l [] = u at *
      generalize hM : pw d n = M at *
      have l0 : (0 : Int) ≤ (l : Int) := Int.natCast_nonneg _
      have l1 : (l : Int) < (M : Int) := by omega
      have hfar := hid (show (ints t.far)[l]? = some (.int .i64 ft) by simp only [ints, List.getElem?_map, e1]; rfl)
      replace e1 := hid e1; replace e3 := hid e3; replace ok := hid ok
      by_cases hneg : ft < 0
      · rw [if_pos hneg]
        go_enter Try.func42, Try.ntmps42
        go_wp2_with (first
          | ((with_reducible refine gate (N := 13) rfl ?_); refine load_mach rfl _ rfl w.heap.size rfl m hS.out.m0 ?_)
          | (go_at_call 86; (with_reducible refine (hcode.out _).mono ?_); rintro e w1 ⟨rfl, hb⟩; replace hS := hid (hS.out.call hb); clear hb hcode)
          | (go_at_call 87; (with_reducible refine (hgr.out _ hS.out.m0).mono ?_); rintro e w2 ⟨vA, vB, rfl, hG, hb⟩; replace hS := hid (hS.out.call hb); replace hG := hid hG; clear hb hgr)
          | (go_at_call 88; (first | (with_reducible refine (hi1.out _ _ hG.out.c0).mono ?_) | (with_reducible refine (hi2.out _ _ hG.out.c0).mono ?_)); rintro e w3 ⟨rfl, rfl⟩)
          | (go_at_call 89; (with_reducible refine (htr.out _ _ _ _ hG.out).mono ?_); rintro e w4 ⟨bt, gf, gw, vq, rows, rfl, hT⟩; replace hS := hid (hS.out.outer hT); (have q1 := (show w4.cell? ⟨bt, 1, none⟩ = some (Value.slice (some ⟨gf, 0, none⟩) M M) from cell_of_row _ _ 1 _ _ _ hT.k0)); (have q2 := hT.o2.cellAt l _ hfar.out); replace hT := hid hT))
        go_ret2
        exact ⟨_, rfl, Own.nil _ _ _, hS.out.bel⟩
      · rw [if_neg hneg]
        go_enter Try.func42, Try.ntmps42
        go_wp2_with (first
          | ((with_reducible refine gate (N := 13) rfl ?_); refine load_mach rfl _ rfl w.heap.size rfl m hS.out.m0 ?_)
          | (go_at_call 86; (with_reducible refine (hcode.out _).mono ?_); rintro e w1 ⟨rfl, hb⟩; replace hS := hid (hS.out.call hb); clear hb hcode)
          | (go_at_call 87; (with_reducible refine (hgr.out _ hS.out.m0).mono ?_); rintro e w2 ⟨vA, vB, rfl, hG, hb⟩; replace hS := hid (hS.out.call hb); replace hG := hid hG; clear hb hgr)
          | (go_at_call 88; (first | (with_reducible refine (hi1.out _ _ hG.out.c0).mono ?_) | (with_reducible refine (hi2.out _ _ hG.out.c0).mono ?_)); rintro e w3 ⟨rfl, rfl⟩)
          | (go_at_call 89; (with_reducible refine (htr.out _ _ _ _ hG.out).mono ?_); rintro e w4 ⟨bt, gf, gw, vq, rows, rfl, hT⟩; (have hle := hid hS.out.le); replace hS := hid (hS.out.outer hT); (have q1 := (show w4.cell? ⟨bt, 1, none⟩ = some (Value.slice (some ⟨gf, 0, none⟩) M M) from cell_of_row _ _ 1 _ _ _ hT.k0)); (have q3 := (show w4.cell? ⟨bt, 2, none⟩ = some (Value.slice (some ⟨gw, 0, none⟩) M M) from cell_of_row _ _ 2 _ _ _ hT.k0)); (have q2 := hT.o2.cellAt l _ hfar.out); obtain ⟨r, hr1, hr2⟩ := Asn.row hT.g3 l u e3.out; replace hr2 := hid hr2; replace hT := hid hT))
        go_ret2
        exact ⟨_, rfl, hr2.out.mono hle.out, hS.out.bel⟩
    · rw [wayAns_2 h0 hkk]
      by_cases h1 : inLv m n k
      · have hi1 := hid (hiw.out k true (decide_eq_true ((hiv k).1 h1)).symm)
        have hi2 := hid (hiw.out l false (decide_eq_false fun h => hkk ⟨h1, (hiv l).2 h⟩).symm)
        replace hk := hid hk; replace gd := hid gd
        clear hkk h0 h1 hiv hiw
        go_enter Try.func42, Try.ntmps42
        go_wp2_with (first
          | ((with_reducible refine gate (N := 13) rfl ?_); refine load_mach rfl _ rfl w.heap.size rfl m hS.out.m0 ?_)
          | (go_at_call 86; (with_reducible refine (hcode.out _).mono ?_); rintro e w1 ⟨rfl, hb⟩; replace hS := hid (hS.out.call hb); clear hb hcode)
          | (go_at_call 87; (with_reducible refine (hgr.out _ hS.out.m0).mono ?_); rintro e w2 ⟨vA, vB, rfl, hG, hb⟩; replace hS := hid (hS.out.call hb); replace hG := hid hG; clear hb hgr)
          | (go_at_call 88; (first | (with_reducible refine (hi1.out _ _ hG.out.c0).mono ?_) | (with_reducible refine (hi2.out _ _ hG.out.c0).mono ?_)); rintro e w3 ⟨rfl, rfl⟩))
        go_ret2
        exact ⟨_, rfl, Own.nil _ _ _, hS.out.bel⟩
      · have hi1 := hid (hiw.out k false (decide_eq_false fun h => h1 ((hiv k).2 h)).symm)
        have hi2 := hi1
        replace hk := hid hk; replace gd := hid gd
        clear hkk h0 h1 hiv hiw
        go_enter Try.func42, Try.ntmps42
        go_wp2_with (first
          | ((with_reducible refine gate (N := 13) rfl ?_); refine load_mach rfl _ rfl w.heap.size rfl m hS.out.m0 ?_)
          | (go_at_call 86; (with_reducible refine (hcode.out _).mono ?_); rintro e w1 ⟨rfl, hb⟩; replace hS := hid (hS.out.call hb); clear hb hcode)
          | (go_at_call 87; (with_reducible refine (hgr.out _ hS.out.m0).mono ?_); rintro e w2 ⟨vA, vB, rfl, hG, hb⟩; replace hS := hid (hS.out.call hb); replace hG := hid hG; clear hb hgr)
          | (go_at_call 88; (first | (with_reducible refine (hi1.out _ _ hG.out.c0).mono ?_) | (with_reducible refine (hi2.out _ _ hG.out.c0).mono ?_)); rintro e w3 ⟨rfl, rfl⟩))
        go_ret2
        exact ⟨_, rfl, Own.nil _ _ _, hS.out.bel⟩
  · rw [wayAns_c h0]
    have dn : ((levelI m n) != 0) = true := by simpa using h0
    generalize levelI m n = cd at *
    replace hk := hid hk
    clear h0
    go_enter Try.func42, Try.ntmps42
    go_wp2_with (first
      | ((with_reducible refine gate (N := 13) rfl ?_); refine load_mach rfl _ rfl w.heap.size rfl m hS.out.m0 ?_)
      | (go_at_call 86; (with_reducible refine (hcode.out _).mono ?_); rintro e w1 ⟨rfl, hb⟩; replace hS := hid (hS.out.call hb); clear hb hcode))
    go_ret2
    exact ⟨_, rfl, Own.nil _ _ _, hS.out.bel⟩
end Go.Proofs.Ythempofohidlnaa

/- The tree of a word: where each word was met from (plain law). -/
namespace Go.Proofs.Ythempofohidlnaa
set_option linter.unusedVariables false
set_option linter.unusedSimpArgs false

/-- What one step writes down of where a word was met from, and by which step. -/
def meetF (t : Tr) (X : List Int × List Int) (fr tx : Nat) (st : Int) : List Int × List Int :=
  if t.far.getD tx 0 < 0 then (X.1.set tx (fr : Int), X.2.set tx st) else X
structure Lk (n k : Nat) (t : Tr) (X : List Int × List Int) : Prop where
  l1 : X.1.length = n
  l2 : X.2.length = n
  q0 : t.q[0]? = some k
  wk : t.ways[k]? = some []
  lk : ∀ x ∈ t.q, x = k ∨ ∃ (f : Nat) (st : Int) (u : List Int), X.1[x]? = some (f : Int) ∧ X.2[x]? = some st ∧ f ∈ t.q ∧ t.ways[f]? = some u ∧ t.ways[x]? = some (u ++ [st])
theorem Lk.zero {n k : Nat} (hk : k < n) : Lk n k (tr0 n k) (List.replicate n 0, List.replicate n 0) where
  l1 := by simp
  l2 := by simp
  q0 := rfl
  wk := by simp [tr0, hk]
  lk := fun x hx => by simp [tr0] at hx; exact .inl hx
theorem Lk.meet {n k : Nat} {t : Tr} {X : List Int × List Int} (h : Lk n k t X) (ok : TrOk n t) {fr tx : Nat} (st : Int) (hfr : fr ∈ t.q) (hto : tx < n) : Lk n k (meetT t fr tx st) (meetF t X fr tx st) := by
  unfold meetT meetF
  split
  · rename_i hneg
    have hfn := ok.qb fr hfr
    have e1 : t.far[tx]? = some (t.far.getD tx 0) := by
      rw [List.getD_eq_getElem?_getD, List.getElem?_eq_getElem (by rw [ok.fl]; exact hto)]; rfl
    have e3 : t.ways[fr]? = some (t.ways.getD fr []) := by
      rw [List.getD_eq_getElem?_getD, List.getElem?_eq_getElem (by rw [ok.wl]; exact hfn)]; rfl
    have hnq : tx ∉ t.q := by
      rcases ok.fb tx _ e1 with h1 | h1
      · exact h1.2
      · omega
    have hne : ∀ x ∈ t.q, tx ≠ x := fun x hx e => hnq (e ▸ hx)
    have hkq : k ∈ t.q := List.mem_of_getElem? h.q0
    exact {
      l1 := by simp [h.l1]
      l2 := by simp [h.l2]
      q0 := by
        show (t.q ++ [tx])[0]? = some k
        rw [List.getElem?_append_left (List.getElem?_eq_some_iff.1 h.q0).1]; exact h.q0
      wk := by
        show (t.ways.set tx _)[k]? = some []
        rw [List.getElem?_set, if_neg (hne k hkq)]; exact h.wk
      lk := fun x hx => by
        rcases List.mem_append.1 hx with hx | hx
        · rcases h.lk x hx with h1 | ⟨f, s, u, h1, h2, h3, h4, h5⟩
          · exact .inl h1
          · refine .inr ⟨f, s, u, ?_, ?_, by simp [h3], ?_, ?_⟩
            · simp only [List.getElem?_set, if_neg (hne x hx)]; exact h1
            · simp only [List.getElem?_set, if_neg (hne x hx)]; exact h2
            · simp only [List.getElem?_set, if_neg (hne f h3)]; exact h4
            · simp only [List.getElem?_set, if_neg (hne x hx)]; exact h5
        · simp at hx
          subst hx
          refine .inr ⟨fr, st, t.ways.getD fr [], ?_, ?_, by simp [hfr], ?_, ?_⟩
          · simp only [List.getElem?_set, h.l1, hto, if_true]
          · simp only [List.getElem?_set, h.l2, hto, if_true]
          · simp only [List.getElem?_set, if_neg (hne fr hfr)]; exact e3
          · simp only [List.getElem?_set, ok.wl, hto, if_true] }
  · exact h
/-- A word's way by the links. -/
theorem Lk.way {n k : Nat} {t : Tr} {X : List Int × List Int} (h : Lk n k t X) (ok : TrOk n t) {x : Nat} (hx : x ∈ t.q) : x = k ∧ t.ways[x]? = some [] ∨ ∃ (f : Nat) (st : Int) (u : List Int), x ≠ k ∧ X.1[x]? = some (f : Int) ∧ X.2[x]? = some st ∧ f ∈ t.q ∧ t.ways[f]? = some u ∧ t.ways[x]? = some (u ++ [st]) := by
  by_cases e : x = k
  · exact .inl ⟨e, e ▸ h.wk⟩
  · rcases h.lk x hx with h1 | ⟨f, s, u, h1⟩
    · exact absurd h1 e
    · exact .inr ⟨f, s, u, e, h1⟩
end Go.Proofs.Ythempofohidlnaa

/- The way of a word in the reference's tree. -/
namespace Go.Proofs.Ythempofohidlnaa
open Go.RowKit
set_option linter.unusedVariables false
set_option linter.unusedSimpArgs false
-- @LONG

set_option maxHeartbeats 4000000 in
set_option maxRecDepth 100000 in
theorem way_any (w : World) (b0 g1 c1 g2 g3 g4 n k : Nat) (hn : n ≤ 243) (t : Tr) (X : List Int × List Int) (ok : TrOk n t) (lk : Lk n k t X) (h1 : Own w b0 2 (.slice (some ⟨g1, 0, none⟩) t.q.length c1) (nats t.q)) (h2 : Own w b0 2 (.slice (some ⟨g2, 0, none⟩) n n) (ints X.1)) (h3 : Own w b0 2 (.slice (some ⟨g3, 0, none⟩) n n) (ints X.2)) (l : Nat) (hl : l ∈ t.q) (u : List Int) (hu : t.ways[l]? = some u) :
    Calls Try.prog 93 #[.agg #[.slice (some ⟨g1, 0, none⟩) t.q.length c1, .slice (some ⟨g2, 0, none⟩) n n, .slice (some ⟨g3, 0, none⟩) n n, .slice (some ⟨g4, 0, none⟩) n n], .int .i64 l] w fun e w' => ∃ v, e = .returned v ∧ Own w' w.heap.size 2 v (ints u) ∧ Below w.heap.size w w' := by
  have hq := hid (fun W (hW : Below w.heap.size w W) => (h1.below hW).cellAt 0 (.int .i64 (k : Nat)) (by simp only [nats, List.getElem?_map, lk.q0]; rfl))
  have hf := hid (fun W (hW : Below w.heap.size w W) (x : Nat) (f : Int) (hx : X.1[x]? = some f) => (h2.below hW).cellAt x (.int .i64 f) (by simp only [ints, List.getElem?_map, hx]; rfl))
  have hs := hid (fun W (hW : Below w.heap.size w W) (x : Nat) (f : Int) (hx : X.2[x]? = some f) => (h3.below hW).cellAt x (.int .i64 f) (by simp only [ints, List.getElem?_map, hx]; rfl))
  have hqp : 0 < t.q.length := (List.getElem?_eq_some_iff.1 lk.q0).1
  have hq0 : (0 : Int) < (t.q.length : Int) := by omega
  have hS0 := (((St.start w).newBlk #[.slice (some ⟨g1, 0, none⟩) t.q.length c1, .slice (some ⟨g2, 0, none⟩) n n, .slice (some ⟨g3, 0, none⟩) n n, .slice (some ⟨g4, 0, none⟩) n n] 102).newOwn [] 2 (by simp))
  rw [heap_alloc_size] at hS0
  have hS := hid hS0
  clear hS0
  have hul := ok.wb l u hu
  have hql := ok.ql
  clear h1 h2 h3
  replace ok := hid ok
  replace lk := hid lk
  go_enter Try.func93, Try.ntmps93
  go_wp2
  go_loopw [1, 5] (fun x o wr => ∃ (y : Nat) (v : Value) (u1 u2 : List Int), y ∈ t.q ∧ x = .int .i64 y ∧ o = v ∧ t.ways[y]? = some u1 ∧ u = u1 ++ u2 ∧ St w.heap.size w [Asn.own w.heap.size 2 v (ints u2), Asn.blk w.heap.size #[.slice (some ⟨g1, 0, none⟩) t.q.length c1, .slice (some ⟨g2, 0, none⟩) n n, .slice (some ⟨g3, 0, none⟩) n n, .slice (some ⟨g4, 0, none⟩) n n] 102] wr) (fun x _ _ => (t.ways.getD (intOf x).toNat []).length)
  case atStart => exact ⟨l, _, u, [], hl, rfl, rfl, hu, by simp, hS.out⟩
  case round =>
    clear hS
    obtain ⟨y, v, u1, u2, hy, rfl, rfl, hu1, hu2, rS⟩ := hrel
    have q0 : wr.cell? ⟨w.heap.size, 0, none⟩ = some (.slice (some ⟨g1, 0, none⟩) t.q.length c1) := cell_of_row _ _ 0 _ _ _ rS.k1
    have q1 : wr.cell? ⟨w.heap.size, 1, none⟩ = some (.slice (some ⟨g2, 0, none⟩) n n) := cell_of_row _ _ 1 _ _ _ rS.k1
    have q2 : wr.cell? ⟨w.heap.size, 2, none⟩ = some (.slice (some ⟨g3, 0, none⟩) n n) := cell_of_row _ _ 2 _ _ _ rS.k1
    have q3 := hq.out _ rS.bel
    rcases lk.out.way ok.out hy with ⟨rfl, hw⟩ | ⟨f, st, u0, hne, hX1, hX2, hfq, hwf, hwy⟩
    · rw [hw] at hu1
      injection hu1 with hu1
      subst hu1
      replace rS := hid rS
      replace hu2 := hid hu2
      have d0 : ((y : Int) != (y : Int)) = false := by simp
      go_wp2
      go_ret
      exact ⟨_, rfl, by rw [hu2.out]; exact rS.out.o0, rS.out.bel⟩
    · rw [hwy] at hu1
      injection hu1 with hu1
      subst hu1
      have hyn := ok.out.qb y hy
      have d0 : ((y : Int) != (k : Int)) = true := by simp; omega
      have q4 := hs.out _ rS.bel y st hX2
      have y0 : (0 : Int) ≤ (y : Int) := Int.natCast_nonneg _
      have y1 : (y : Int) < (n : Int) := by omega
      have hf2 := hid (fun W (hW : Below w.heap.size w W) => hf.out W hW y _ hX1)
      have hu3 := hid (show u = u0 ++ (st :: u2) by rw [hu2]; simp)
      have hlt := hid (show (t.ways.getD f []).length < (t.ways.getD y []).length by
        rw [List.getD_eq_getElem?_getD, List.getD_eq_getElem?_getD, hwf, hwy]; simp)
      have hul2 : u2.length ≤ 243 := by rw [hu2] at hul; simp at hul; omega
      have rS2 := hid (rS.newOwn [.int .i64 st] 2 (by simp))
      have hO2 := hid (rS.o0.alloc (.cells #[.int .i64 st] 2))
      have hap := hid (show [Value.int .i64 st] ++ ints u2 = ints (st :: u2) by simp [ints])
      have hil := ints_length u2
      clear hX1 hX2 hu2 hu
      replace hwf := hid hwf; replace hwy := hid hwy; replace rS := hid rS
      go_wp2_with (
        ((with_reducible refine gate (N := 20) rfl ?_); refine St.appS 22 2 (.int .i64 0) 8 Try.underlying22 info_i64 rfl (by omega) rfl _ _ rfl _ _ rfl rS2.out _ _ _ _ rfl hO2.out (ints_one u2) (by rw [hil]; simp; omega) ?_; intro v' w2 hS'; (have zS := hid hS'); clear hS'; (have q5 : w2.cell? ⟨w.heap.size, 1, none⟩ = some (.slice (some ⟨g2, 0, none⟩) n n) := cell_of_row _ _ 1 _ _ _ zS.out.k2); (have q6 := hf2.out _ zS.out.bel)))
      go_roundw
      case rel => exact ⟨f, _, u0, st :: u2, hfq, by go_num, rfl, hwf.out, hu3.out, by rw [← hap.out]; exact zS.out.f1.drop⟩
      case measure => exact hlt.out
end Go.Proofs.Ythempofohidlnaa

/- Parts that a callee made, joined to those at hand. -/
namespace Go.Proofs.Ythempofohidlnaa
open Go.RowKit
set_option linter.unusedVariables false
set_option linter.unusedSimpArgs false

theorem foot_append : ∀ {L' L : List Asn} {k : Nat}, Foot (L' ++ L) k → Foot L' k ∨ Foot L k
  | [], _, _, h => .inr h
  | _ :: _, _, _, h => h.elim (fun h => .inl (.inl h)) fun h => (foot_append h).imp .inr id
theorem star_append {w : World} : ∀ {L' L : List Asn}, Star L' w → Star L w → (∀ k, Foot L' k → ¬ Foot L k) → Star (L' ++ L) w
  | [], _, _, h, _ => h
  | _ :: _, _, h', h, hd => ⟨h'.1, fun k hk hF => (foot_append hF).elim (fun h2 => h'.2.1 k hk h2) fun h2 => hd k (.inl hk) h2, star_append h'.2.2 h fun k hk => hd k (.inr hk)⟩
theorem St.join {base : Nat} {w0 w w' : World} {L L' : List Asn} (h : St base w0 L w) (hT : St w.heap.size w L' w') (hf : ∀ k, Foot L' k → w.heap.size ≤ k) : St base w0 (L' ++ L) w' :=
  have h2 := h.outer hT
  ⟨h2.bel, h2.le, star_append hT.star h2.star fun k hk hL => by have h3 := h.star.lt k hL; have h4 := hf k hk; omega⟩
theorem foot_own4 {w : World} {b t1 t2 t3 t4 : Nat} {v1 v2 v3 v4 : Value} {c1 c2 c3 c4 : List Value} (h : Star [Asn.own b t1 v1 c1, Asn.own b t2 v2 c2, Asn.own b t3 v3 c3, Asn.own b t4 v4 c4] w) :
    ∀ k, Foot [Asn.own b t1 v1 c1, Asn.own b t2 v2 c2, Asn.own b t3 v3 c3, Asn.own b t4 v4 c4] k → b ≤ k := fun k hk => by
  obtain ⟨h1, _, h2, _, h3, _, h4, _⟩ := h
  rcases hk with hk | hk | hk | hk | hk
  · exact (Own.lt h1 k hk).1
  · exact (Own.lt h2 k hk).1
  · exact (Own.lt h3 k hk).1
  · exact (Own.lt h4 k hk).1
  · exact hk.elim
end Go.Proofs.Ythempofohidlnaa
