/- The graph of a level: what all states make of it, forward and backward. -/
import Derived.Test.YtapbcfnlcnboeaaMat
namespace Go.Proofs.Ytapbcfnlcnboeaa
open Go.RowKit
set_option linter.unusedVariables false
set_option linter.unusedSimpArgs false

/-- A graph that grows: its block, the slices at hand, and the two rows that come next. -/
structure GS (w0 W : World) (G M : Nat) (cA cB vA vB rA rB : Value) (A B : List (List Int)) (la lb : List Int) : Prop where
  bel : Below G w0 W
  blk : W.heap[G]? = some (.cells #[.int .i64 (M : Int), cA, cB] 73 (0, 0))
  mA : Mat W (G + 1) vA A
  mB : Mat W (G + 1) vB B
  dis : ∀ k, vA.ownBlock = some k → vB.ownBlock ≠ some k
  oA : Own W (G + 1) 2 rA (ints la)
  oB : Own W (G + 1) 2 rB (ints lb)

section
variable {w0 W : World} {G M : Nat} {cA cB vA vB rA rB : Value} {A B : List (List Int)} {la lb : List Int}
theorem GS.lt (h : GS w0 W G M cA cB vA vB rA rB A B la lb) : G < W.heap.size := (Array.getElem?_eq_some_iff.1 h.blk).1
theorem GS.alloc (h : GS w0 W G M cA cB vA vB rA rB A B la lb) (hG : G ≤ w0.heap.size) (o : Obj) : GS w0 (W.alloc o) G M cA cB vA vB rA rB A B la lb :=
  ⟨below_alloc h.bel hG o, (Below.heap_alloc W o G h.lt).trans h.blk, h.mA.alloc o, h.mB.alloc o, h.dis, h.oA.alloc o, h.oB.alloc o⟩
theorem GS.drew (h : GS w0 W G M cA cB vA vB rA rB A B la lb) : GS w0 W.drew G M cA cB vA vB rA rB A B la lb := ⟨h.bel.drew, h.blk, h.mA, h.mB, h.dis, h.oA, h.oB⟩
theorem GS.c1 (h : GS w0 W G M cA cB vA vB rA rB A B la lb) : W.cell? ⟨G, 1, none⟩ = some cA := cell_of_row W G 1 _ _ _ h.blk
theorem GS.c2 (h : GS w0 W G M cA cB vA vB rA rB A B la lb) : W.cell? ⟨G, 2, none⟩ = some cB := cell_of_row W G 2 _ _ _ h.blk
theorem GS.fr (h : GS w0 W G M cA cB vA vB rA rB A B la lb) (i : Nat) : W.frozen? ⟨G, i, none⟩ = false := frozen_of_row W G i _ _ h.blk
theorem GS.set1 (h : GS w0 W G M cA cB vA vB rA rB A B la lb) (x : Value) : GS w0 (W.setCell ⟨G, 1, none⟩ x) G M x cB vA vB rA rB A B la lb := by
  have ho : ∀ k, k ≠ G → (W.setCell ⟨G, 1, none⟩ x).heap[k]? = W.heap[k]? := fun k hk => heap_setCell_other W ⟨G, 1, none⟩ k x hk
  refine ⟨h.bel.setCell (Nat.le_refl _) _, heap_setCell_same W G 1 _ _ _ h.blk, h.mA.keep fun k hk _ => ho k (by omega), h.mB.keep fun k hk _ => ho k (by omega), h.dis, h.oA.keep fun k hk => ho k (by have := h.oA.lt k hk; omega), h.oB.keep fun k hk => ho k (by have := h.oB.lt k hk; omega)⟩
theorem GS.set2 (h : GS w0 W G M cA cB vA vB rA rB A B la lb) (x : Value) : GS w0 (W.setCell ⟨G, 2, none⟩ x) G M cA x vA vB rA rB A B la lb := by
  have ho : ∀ k, k ≠ G → (W.setCell ⟨G, 2, none⟩ x).heap[k]? = W.heap[k]? := fun k hk => heap_setCell_other W ⟨G, 2, none⟩ k x hk
  refine ⟨h.bel.setCell (Nat.le_refl _) _, heap_setCell_same W G 2 _ _ _ h.blk, h.mA.keep fun k hk _ => ho k (by omega), h.mB.keep fun k hk _ => ho k (by omega), h.dis, h.oA.keep fun k hk => ho k (by have := h.oA.lt k hk; omega), h.oB.keep fun k hk => ho k (by have := h.oB.lt k hk; omega)⟩

/-- What is of other make, or has another block, is as it was behind an append. -/
theorem Mat.keepApp {w w' : World} {base : Nat} {v x : Value} {M : List (List Int)} {rows : List Value} (h : Mat w base x M) (hv : Own w base 37 v rows) (hdis : ∀ k, v.ownBlock = some k → x.ownBlock ≠ some k)
    (hold : ∀ k, k < w.heap.size → v.ownBlock ≠ some k → w'.heap[k]? = w.heap[k]?) : Mat w' base x M := by
  obtain ⟨rs, h1, h2, h3⟩ := h
  exact ⟨rs, h1.keep fun k hk => hold k (h1.lt k hk).2 (fun e => hdis k e hk), h2, fun i r l hr hl => (h3 i r l hr hl).keep fun k hk => hold k ((h3 i r l hr hl).lt k hk).2 ((h3 i r l hr hl).ne hv (by decide) k hk)⟩

section
variable {ops : Array Oper} {o : Oper} {a : Act} {K : Act → World → Prop} {Q : Exit → Act → World → Prop} {E : Prop}
theorem GS.appA (h : GS w0 W G M cA cB vA vB rA rB A B la lb) (hgd : o.guard = none) (s x : Operand) (ho : o.op = .call { callee := .builtin .append, args := #[s, x], argTypes := #[71, 71] })
    (hs : a.eval s = vA) (b : Nat) (hB : W.cell? ⟨b, 0, none⟩ = some rA) (hx : a.eval x = .slice (some ⟨b, 0, none⟩) 1 1) (hlen : A.length ≤ 1000000)
    (k : ∀ g cap w', GS w0 w' G M cA cB (.slice (some ⟨g, 0, none⟩) (A.length + 1) cap) vB rA rB (A ++ [la]) B la lb → W.heap.size ≤ w'.heap.size → (∀ k, k < W.heap.size → vA.ownBlock ≠ some k → w'.heap[k]? = W.heap[k]?) → K (a.put o.dst (.slice (some ⟨g, 0, none⟩) (A.length + 1) cap)) w') :
    if Region.wanted o (yielded ops a.tmps) = true then Oper.wp Try.prog o a W K Q else E := by
  obtain ⟨rows, h1, h2, h3⟩ := h.mA
  refine step_app1 71 37 (.slice none 0 0) 24 Try.underlying71 info_ints rfl (by omega) hgd s x ho (G + 1) vA rows hs h1 h.lt b rA h.oA.oneCell hB hx (by omega) ?_
  intro g cap w' k1 k2 k3 k4
  rw [h2] at k1 ⊢
  refine k g cap w' ⟨h.bel.trans (k2.mono (Nat.le_succ G)), ?_, Mat.snoc h1 h2 h3 h.oA k1 k3, h.mB.keepApp h1 h.dis k3, ?_, h.oA.keep fun k hk => k3 k (h.oA.lt k hk).2 (h.oA.ne h1 (by decide) k hk), h.oB.keep fun k hk => k3 k (h.oB.lt k hk).2 (h.oB.ne h1 (by decide) k hk)⟩ k2.size k3
  · rw [k3 G h.lt (fun e => by have := (h1.lt G e).1; omega)]; exact h.blk
  · intro k hk hk'
    have e : g = k := by simpa [Value.ownBlock] using hk
    subst e
    rcases k4 with k4 | k4
    · exact h.dis g k4 hk'
    · have := (h.mB.lt g hk').2
      omega
theorem GS.appB (h : GS w0 W G M cA cB vA vB rA rB A B la lb) (hgd : o.guard = none) (s x : Operand) (ho : o.op = .call { callee := .builtin .append, args := #[s, x], argTypes := #[71, 71] })
    (hs : a.eval s = vB) (b : Nat) (hB : W.cell? ⟨b, 0, none⟩ = some rB) (hx : a.eval x = .slice (some ⟨b, 0, none⟩) 1 1) (hlen : B.length ≤ 1000000)
    (k : ∀ g cap w', GS w0 w' G M cA cB vA (.slice (some ⟨g, 0, none⟩) (B.length + 1) cap) rA rB A (B ++ [lb]) la lb → K (a.put o.dst (.slice (some ⟨g, 0, none⟩) (B.length + 1) cap)) w') :
    if Region.wanted o (yielded ops a.tmps) = true then Oper.wp Try.prog o a W K Q else E := by
  obtain ⟨rows, h1, h2, h3⟩ := h.mB
  refine step_app1 71 37 (.slice none 0 0) 24 Try.underlying71 info_ints rfl (by omega) hgd s x ho (G + 1) vB rows hs h1 h.lt b rB h.oB.oneCell hB hx (by omega) ?_
  intro g cap w' k1 k2 k3 k4
  rw [h2] at k1 ⊢
  refine k g cap w' ⟨h.bel.trans (k2.mono (Nat.le_succ G)), ?_, h.mA.keepApp h1 (fun k hk hk' => h.dis k hk' hk) k3, Mat.snoc h1 h2 h3 h.oB k1 k3, ?_, h.oA.keep fun k hk => k3 k (h.oA.lt k hk).2 (h.oA.ne h1 (by decide) k hk), h.oB.keep fun k hk => k3 k (h.oB.lt k hk).2 (h.oB.ne h1 (by decide) k hk)⟩
  · rw [k3 G h.lt (fun e => by have := (h1.lt G e).1; omega)]; exact h.blk
  · intro k hk hk'
    have e : g = k := by simpa [Value.ownBlock] using hk'
    subst e
    rcases k4 with k4 | k4
    · exact h.dis g hk k4
    · have := (h.mA.lt g hk).2
      omega
end
end

/-- What an inverse makes of a level, as far as it is known. -/
def bkw (P : Nat → Nat) (M j : Nat) : List Nat := (List.range M).map fun p => if P p < j then P p else 0
theorem bkw_length (P : Nat → Nat) (M j : Nat) : (bkw P M j).length = M := by simp [bkw]
theorem bkw_zero (P : Nat → Nat) (M : Nat) : nats (bkw P M 0) = List.replicate M (.int .i64 0) := by
  apply List.ext_getElem?
  intro i
  by_cases h : i < M
  · simp [nats, bkw, h]
  · simp [nats, bkw, h]
theorem bkw_step (P R : Nat → Nat) (M j : Nat) (h1 : ∀ p, p < M → R (P p) = p) (h2 : P (R j) = j) (hj : R j < M) : (nats (bkw P M j)).set (R j) (.int .i64 (j : Int)) = nats (bkw P M (j + 1)) := by
  apply List.ext_getElem?
  intro i
  rw [List.getElem?_set]
  by_cases hi : R j = i
  · subst hi
    rw [if_pos rfl, if_pos (by simp [nats, bkw]; exact hj)]
    simp [nats, bkw, hj, h2]
  · rw [if_neg hi]
    by_cases hM : i < M
    · have hne : P i ≠ j := fun e => hi (by rw [← e]; exact h1 i hM)
      simp only [nats, bkw, List.getElem?_map, List.getElem?_range hM, Option.map_some]
      by_cases hlt : P i < j
      · rw [if_pos hlt, if_pos (by omega)]
      · rw [if_neg hlt, if_neg (by omega)]
    · simp [nats, bkw, hM]
theorem bkw_all (P : Nat → Nat) (M : Nat) (h : ∀ p, p < M → P p < M) : bkw P M M = (List.range M).map P := by
  unfold bkw
  apply List.map_congr_left
  intro p hp
  rw [if_pos (h p (List.mem_range.1 hp))]

/-- A graph in its block. -/
def GB (w : World) (G M : Nat) (vA vB : Value) (A B : List (List Int)) : Prop :=
  w.heap[G]? = some (.cells #[.int .i64 (M : Int), vA, vB] 73 (0, 0)) ∧ Mat w (G + 1) vA A ∧ Mat w (G + 1) vB B
theorem GB.lt {w : World} {G M : Nat} {vA vB : Value} {A B : List (List Int)} (h : GB w G M vA vB A B) : G < w.heap.size := (Array.getElem?_eq_some_iff.1 h.1).1
theorem GB.below {w w' : World} {G M : Nat} {vA vB : Value} {A B : List (List Int)} (h : GB w G M vA vB A B) (hb : Below w.heap.size w w') : GB w' G M vA vB A B :=
  ⟨(hb.block G h.lt).trans h.1, h.2.1.below hb, h.2.2.below hb⟩
theorem GB.c0 {w : World} {G M : Nat} {vA vB : Value} {A B : List (List Int)} (h : GB w G M vA vB A B) : w.cell? ⟨G, 0, none⟩ = some (.int .i64 (M : Int)) := cell_of_row w G 0 _ _ _ h.1
theorem GB.c1 {w : World} {G M : Nat} {vA vB : Value} {A B : List (List Int)} (h : GB w G M vA vB A B) : w.cell? ⟨G, 1, none⟩ = some vA := cell_of_row w G 1 _ _ _ h.1
theorem GB.c2 {w : World} {G M : Nat} {vA vB : Value} {A B : List (List Int)} (h : GB w G M vA vB A B) : w.cell? ⟨G, 2, none⟩ = some vB := cell_of_row w G 2 _ _ _ h.1
def Dis (vA vB : Value) : Prop := ∀ k, vA.ownBlock = some k → vB.ownBlock ≠ some k

set_option maxHeartbeats 4000000 in
set_option maxRecDepth 100000 in
theorem graph_any (b : Nat) (w : World) (m : Mach) (hm : MB w 31 b m) (l s : Nat) (g : Good m l s) (n : Nat) (hn : n ≤ 40) (hb : pw l n ≤ 100000) :
    Calls Try.prog 66 #[.pointer (some ⟨b, 0, none⟩), .int .i64 n] w fun e w' => ∃ vA vB, e = .returned (.pointer (some ⟨w.heap.size, 0, none⟩)) ∧ GB w' w.heap.size (pw l n) vA vB (tabA m l n s) (tabA (inv m l s) l n s) ∧ Below w.heap.size w w' := by
  have hblt := hm.lt
  have cL := hm.cL
  rw [g.L] at cL
  have cS := (hm.alloc (.cells #[.int .i64 ((pw l n : Nat) : Int), .slice none 0 0, .slice none 0 0] 73)).cS
  rw [g.S] at cS
  have l2 := g.l2
  have s16 := g.s16
  have hpow := hid (fun W => power_any l n (by omega) (by omega) (by omega) W)
  have hst := hid (fun q (hq : q < s) W hW => ofState_any b W m hW l s g q hq n hn hb)
  have hnz := hid (fun m q => nats_ints (perm m l q n))
  have hB := hid (below_alloc (Below.refl w.heap.size w) (Nat.le_refl _) (.cells #[.int .i64 ((pw l n : Nat) : Int), .slice none 0 0, .slice none 0 0] 73))
  have hblk := hid (heap_alloc_new w (.cells #[.int .i64 ((pw l n : Nat) : Int), .slice none 0 0, .slice none 0 0] 73))
  have hget := hid (fun q k (hk : k < pw l n) => permZ_get m l q n k hk)
  have hplt := hid (fun q k (hq : q < s) => pf_lt g q n k hq)
  have hpos := pw_pos l (by omega) n
  have hbk := hid (fun q j (hq : q < s) (hj : j < pw l n) => bkw_step (pf (inv m l s) l q n) (pf m l q n) (pw l n) j (fun p hp => inv_pf g q n p hq hp) (pf_inv g q n j hq hj) (pf_lt g q n j hq))
  have hba := hid (fun q (hq : q < s) => bkw_all (pf (inv m l s) l q n) (pw l n) (fun p hp => pf_lt (inv_good g) q n p hq))
  have hpl := hid (fun q => permZ_length m l q n)
  generalize hI : inv m l s = I at *
  replace hI := hid hI
  replace hm := hid hm
  replace g := hid g
  generalize hM : pw l n = M at *
  replace hM := hid hM
  go_enter Try.func66, Try.ntmps66
  go_wp2_with (first
    | (go_at_call 51; (with_reducible refine (hpow.out _).mono ?_); rintro e w1 ⟨rfl, rfl⟩))
  have hdis0 : Dis (.slice none 0 0) (.slice none 0 0) := fun k hk => by cases hk
  go_loopw [23] (fun i wr => ∃ q : Nat, q ≤ s ∧ i = .int .i64 q ∧ ∃ vA vB, GB wr w.heap.size M vA vB (tabA m l n q) (tabA I l n q) ∧ Dis vA vB ∧ Below w.heap.size w wr) (fun i _ => s - (intOf i).toNat)
  case atStart => exact ⟨0, Nat.zero_le _, rfl, _, _, ⟨hblk.out, Mat.nil _ _, Mat.nil _ _⟩, hdis0, hB.out⟩
  case round =>
    obtain ⟨q, hq, rfl, vA, vB, r1, r2, rB⟩ := hrel
    clear cL cS hB hblk hdis0
    replace r1 := hid r1; replace r2 := hid r2; replace rB := hid rB
    by_cases hlq : q < s
    · have dq : decide ((q : Int) < (s : Int)) = true := decide_eq_true (by omega)
      have hsA := hid (tabA_snoc m l n q)
      have hsI := hid (tabA_snoc I l n q)
      have hMw := hid (hm.out.below rB.out hblt)
      have hmk := fun W : World => run_make_row' (P := Try.prog) 37 2 (.int .i64 0) 8 Try.underlying37 info_i64 rfl .i64 .i64 M (by omega) (by omega) W
      go_wp2_with (first
        | (go_at_call 63; (with_reducible refine (hst.out q hlq _ hMw.out).mono ?_); rintro e w3 ⟨r, rfl, hO, hb3⟩; rw [hnz.out] at hO; obtain ⟨g1, c1, rfl, _, _⟩ := hO.blk (fun e => by have h1 := congrArg List.length e; have h2 := hpl.out q; unfold permZ at h2; rw [ints_length, h2] at h1; simp at h1; omega); have hl := hpl.out q; unfold permZ at hl; rw [ints_length, hl] at hO ⊢; have hR := hid (hO.mono (Nat.succ_le_of_lt r1.out.lt)); have hmadeO := hid (Own.made w3 w3.heap.size 2 (.int .i64 0) M (Nat.le_refl _) (by omega)); have t1 := hid (r1.out.below hb3); have tB := hid (rB.out.trans (hb3.mono rB.out.size)); clear hl hO hb3 r1 rB hMw))
      clear hmk
      rw [← bkw_zero (pf I l q n) M] at hmadeO
      generalize madeCells #[.int .i64 0] M = mc at *
      have hBa := hid ((Below.refl w3.heap.size w3).alloc (Nat.le_refl _) (.cells mc 2))
      go_loopw [35] (fun i wi => ∃ k : Nat, k ≤ M ∧ i = .int .i64 k ∧ Own wi w3.heap.size 2 (.slice (some ⟨w3.heap.size, 0, none⟩) M M) (nats (bkw (pf I l q n) M k)) ∧ Below w3.heap.size w3 wi) (fun i _ => M - (intOf i).toNat)
      case atStart => exact ⟨0, Nat.zero_le _, rfl, hmadeO.out, hBa.out⟩
      case round =>
        obtain ⟨k, hk, rfl, y1, yB⟩ := hrel
        clear hmadeO hBa
        replace y1 := hid y1; replace yB := hid yB
        by_cases hlk : k < M
        · have hgk := hget.out q k hlk
          have ck := (hR.out.below yB.out).cellAt k (.int .i64 ((pf m l q n k : Nat) : Int)) (by show (ints (permZ m l q n))[k]? = _; simp [ints, hgk])
          have hpk := hplt.out q k hlq
          have hstep := hid (hbk.out q k hlq hlk)
          have hbl := hid (show (nats (bkw (pf I l q n) M k)).length = M by rw [nats_length, bkw_length])
          obtain ⟨vo, co⟩ : ∃ u, wr.cell? ⟨w3.heap.size, pf m l q n k, none⟩ = some u := ⟨_, y1.out.cellAt _ _ (List.getElem?_eq_getElem (by rw [hbl.out]; exact hpk))⟩
          have fo := y1.out.frozenAt hbl.out (pf m l q n k)
          have z1 := hid (y1.out.set hbl.out (pf m l q n k) (.int .i64 (k : Int)) hpk)
          have zB := hid (yB.out.setCell (p := ⟨w3.heap.size, pf m l q n k, none⟩) (Nat.le_refl _) (.int .i64 (k : Int)))
          clear hgk
          generalize pf m l q n k = pk at *
          go_wp2
          go_roundw
          case rel => exact ⟨k + 1, by omega, by go_num, by rw [← hstep.out]; exact z1.out, zB.out⟩
          case measure => simp [intOf]; omega
        · obtain rfl : M = k := by omega
          have hg := hid (show GS w wr w.heap.size M vA vB vA vB (.slice (some ⟨g1, 0, none⟩) M c1) (.slice (some ⟨w3.heap.size, 0, none⟩) M M) (tabA m l n q) (tabA I l n q) (permZ m l q n) (permZ I l q n) from
            ⟨tB.out.trans (yB.out.mono tB.out.size), (t1.out.below yB.out).1, (t1.out.below yB.out).2.1, (t1.out.below yB.out).2.2, r2.out, hR.out.below yB.out, by have h := y1.out; rw [hba.out q hlq, nats_ints] at h; exact (by unfold permZ; rw [perm_pf, hM.out]; exact h.mono (Nat.succ_le_of_lt t1.out.lt))⟩)
          clear y1 yB t1 tB r2 hR hst hpow hnz hget hplt hbk hba hpl hm
          go_upto_region 12 with (fail)
          refine wp_region_heldL (L := [(8, (fun w' : World => w'.cell? ⟨w.heap.size, 1, none⟩ = some vA)), (15, (fun w' : World => w'.cell? ⟨w.heap.size, 2, none⟩ = some vB))]) (by kernel_rfl) (HeldL.cons (fun _ => hg.out.drew.c1) (HeldL.cons (fun _ => hg.out.drew.c2) HeldL.nil)) (fun hHeld => ?_)
          have hg' := hid hg.out.drew
          have hh := hid (Nat.le_refl wr.drew.heap.size)
          have hvlt := hid (fun k hk => (hg'.out.mA.lt k hk).2)
          generalize hwd : wr.drew = wd at *
          clear hg
          have hg := hg'
          clear hg'
          generalize hh0 : wd.heap.size = h0 at hh hvlt
          have hh' := hid (show h0 ≤ wd.heap.size by omega)
          clear hh hh0 hwd
          have hh := hh'
          clear hh'
          refine wpAnyL_take0 (i := 0) (v := ?_) rfl (by kernel_rfl) (by kernel_rfl) (by kernel_rfl) (by rfl) (fun _ _ _ h => h) (Or.inl ⟨by rfl, ?_⟩) (by assumption) ?_
          rotate_left
          · (intro W _; go_simp; (with_reducible rfl))
          intro hHeld'
          clear hHeld; have hHeld := hHeld'; clear hHeld'
          try simp only [Act.put, List.setIfInBounds_toArray, List.set_cons_zero, List.set_cons_succ]
          refine wpAnyL_take0 (i := 1) (v := ?_) rfl (by kernel_rfl) (by kernel_rfl) (by kernel_rfl) (by rfl) (fun _ _ _ h => h) (Or.inl ⟨by rfl, ?_⟩) (by assumption) ?_
          rotate_left
          · (intro W _; go_simp; (with_reducible rfl))
          intro hHeld'
          clear hHeld; have hHeld := hHeld'; clear hHeld'
          try simp only [Act.put, List.setIfInBounds_toArray, List.set_cons_zero, List.set_cons_succ]
          refine wpAnyL_take0 (i := 2) (v := ?_) rfl (by kernel_rfl) (by kernel_rfl) (by kernel_rfl) (by rfl) (fun _ _ _ h => h) (Or.inl ⟨by rfl, ?_⟩) (by assumption) ?_
          rotate_left
          · (intro W _; go_simp; (with_reducible rfl))
          intro hHeld'
          clear hHeld; have hHeld := hHeld'; clear hHeld'
          try simp only [Act.put, List.setIfInBounds_toArray, List.set_cons_zero, List.set_cons_succ]
          refine wpAnyL_take0 (i := 3) (v := ?_) rfl (by kernel_rfl) (by kernel_rfl) (by kernel_rfl) (by rfl) (fun _ _ _ h => h) (Or.inl ⟨by rfl, ?_⟩) (by assumption) ?_
          rotate_left
          · (intro W _; go_simp; (with_reducible rfl))
          intro hHeld'
          clear hHeld; have hHeld := hHeld'; clear hHeld'
          try simp only [Act.put, List.setIfInBounds_toArray, List.set_cons_zero, List.set_cons_succ]
          refine wpAnyL_take0 (i := 4) (v := ?_) rfl (by kernel_rfl) (by kernel_rfl) (by kernel_rfl) (by rfl) (fun _ _ _ h => h) (Or.inl ⟨by rfl, ?_⟩) (by assumption) ?_
          rotate_left
          · (intro W _; go_simp; (with_reducible rfl))
          intro hHeld'
          clear hHeld; have hHeld := hHeld'; clear hHeld'
          try simp only [Act.put, List.setIfInBounds_toArray, List.set_cons_zero, List.set_cons_succ]
          refine wpAnyL_takeT (i := 5) 8 (v := vA) (fun w' : World => w'.cell? ⟨w.heap.size, 1, none⟩ = some vA) rfl rfl (by kernel_rfl) (by kernel_rfl) (by kernel_rfl) (by rfl) (by decide +kernel) (by decide +kernel) (by decide +kernel) (by simp) (fun _ _ _ h => h) (Or.inl ⟨by rfl, ?_⟩) (by assumption) ?_
          · (intro W hW; (try dsimp only at hW); go_simp)
          intro hHeld'
          clear hHeld; have hHeld := hHeld'; clear hHeld'
          try simp only [Act.put, List.setIfInBounds_toArray, List.set_cons_zero, List.set_cons_succ]
          refine wpAnyL_take0 (i := 6) (v := ?_) rfl (by kernel_rfl) (by kernel_rfl) (by kernel_rfl) (by rfl) (fun _ _ _ h => h) (Or.inl ⟨by rfl, ?_⟩) (by assumption) ?_
          rotate_left
          · (intro W _; go_simp; (with_reducible rfl))
          intro hHeld'
          clear hHeld; have hHeld := hHeld'; clear hHeld'
          try simp only [Act.put, List.setIfInBounds_toArray, List.set_cons_zero, List.set_cons_succ]
          refine wpAnyL_take0 (i := 9) (v := ?_) rfl (by kernel_rfl) (by kernel_rfl) (by kernel_rfl) (by rfl) (fun _ _ _ h => h) (Or.inl ⟨by rfl, ?_⟩) (by assumption) ?_
          rotate_left
          · (intro W _; go_simp; (with_reducible rfl))
          intro hHeld'
          clear hHeld; have hHeld := hHeld'; clear hHeld'
          try simp only [Act.put, List.setIfInBounds_toArray, List.set_cons_zero, List.set_cons_succ]
          refine wpAnyL_take0 (i := 10) (v := ?_) rfl (by kernel_rfl) (by kernel_rfl) (by kernel_rfl) (by rfl) (fun _ _ _ h => h) (Or.inl ⟨by rfl, ?_⟩) (by assumption) ?_
          rotate_left
          · (intro W _; go_simp; (with_reducible rfl))
          intro hHeld'
          clear hHeld; have hHeld := hHeld'; clear hHeld'
          try simp only [Act.put, List.setIfInBounds_toArray, List.set_cons_zero, List.set_cons_succ]
          refine wpAnyL_take0 (i := 11) (v := ?_) rfl (by kernel_rfl) (by kernel_rfl) (by kernel_rfl) (by rfl) (fun _ _ _ h => h) (Or.inl ⟨by rfl, ?_⟩) (by assumption) ?_
          rotate_left
          · (intro W _; go_simp; (with_reducible rfl))
          intro hHeld'
          clear hHeld; have hHeld := hHeld'; clear hHeld'
          try simp only [Act.put, List.setIfInBounds_toArray, List.set_cons_zero, List.set_cons_succ]
          refine wpAnyL_takeT (i := 12) 15 (v := vB) (fun w' : World => w'.cell? ⟨w.heap.size, 2, none⟩ = some vB) rfl rfl (by kernel_rfl) (by kernel_rfl) (by kernel_rfl) (by rfl) (by decide +kernel) (by decide +kernel) (by decide +kernel) (by simp) (fun _ _ _ h => h) (Or.inl ⟨by rfl, ?_⟩) (by assumption) ?_
          · (intro W hW; (try dsimp only at hW); go_simp)
          intro hHeld'
          clear hHeld; have hHeld := hHeld'; clear hHeld'
          try simp only [Act.put, List.setIfInBounds_toArray, List.set_cons_zero, List.set_cons_succ]
          refine wpAnyL_take0 (i := 13) (v := ?_) rfl (by kernel_rfl) (by kernel_rfl) (by kernel_rfl) (by rfl) (fun _ _ _ h => h) (Or.inl ⟨by rfl, ?_⟩) (by assumption) ?_
          rotate_left
          · (intro W _; go_simp; (with_reducible rfl))
          intro hHeld'
          clear hHeld; have hHeld := hHeld'; clear hHeld'
          try simp only [Act.put, List.setIfInBounds_toArray, List.set_cons_zero, List.set_cons_succ]
          refine wpAnyL_ready (rs := [7, 14]) (by kernel_rfl) (by simp) ?_
          refine AllReadyL.cons rfl (fun K hK => ?_) ?_
          · -- the box of the first row comes first
            go_simp
            have hg' := hid (hg.out.alloc (Nat.le_refl _) (.cells #[Value.slice (some ⟨g1, 0, none⟩) M c1] 37))
            have boxA' : (wd.alloc (.cells #[Value.slice (some ⟨g1, 0, none⟩) M c1] 37)).cell? ⟨wd.heap.size, 0, none⟩ = some (Value.slice (some ⟨g1, 0, none⟩) M c1) := by simp
            have hbA := hid (show h0 ≤ wd.heap.size ∧ wd.heap.size < (wd.alloc (.cells #[Value.slice (some ⟨g1, 0, none⟩) M c1] 37)).heap.size from ⟨hh.out, by simp⟩)
            have hh' := hid (show h0 ≤ (wd.alloc (.cells #[Value.slice (some ⟨g1, 0, none⟩) M c1] 37)).heap.size from by have := hh.out; simp; omega)
            generalize hbAe : wd.heap.size = bA at *
            generalize wd.alloc (.cells #[Value.slice (some ⟨g1, 0, none⟩) M c1] 37) = we at *
            clear hbAe hg hh
            have hg := hg'; have hh := hh'; have boxA := hid boxA'
            clear hg' hh' boxA'
            refine hK.out _ _ (HeldL.cons (fun _ => hg.out.c1) (HeldL.cons (fun _ => hg.out.c2) HeldL.nil)) (fun hHeld' => ?_)
            clear hK K hHeld; have hHeld := hHeld'; clear hHeld'
            try simp only [Act.put, List.setIfInBounds_toArray, List.set_cons_zero, List.set_cons_succ]
            refine wpAnyL_ready (rs := [8, 14]) (by kernel_rfl) (by simp) ?_
            refine AllReadyL.cons rfl (fun K hK => ?_) ?_
            · refine GS.appA hg.out rfl _ _ rfl rfl bA boxA.out rfl (by rw [tabA_length]; omega) ?_
              intro ga ca wf hg' hsz hold
              have hh' := hid (show h0 ≤ wf.heap.size from Nat.le_trans hh.out hsz)
              clear hg hh hold hsz boxA hbA
              have hg := hid hg'; have hh := hh'
              clear hg' hh'
              refine hK.out _ _ (HeldL.cons (fun _ => hg.out.c1) (HeldL.cons (fun _ => hg.out.c2) HeldL.nil)) (fun hHeld' => ?_)
              clear hK K hHeld; have hHeld := hHeld'; clear hHeld'
              try simp only [Act.put, List.setIfInBounds_toArray, List.set_cons_zero, List.set_cons_succ]
              refine wpAnyL_ready (rs := [14]) (by kernel_rfl) (by simp) ?_
              refine AllReadyL.cons rfl (fun K hK => ?_) AllReadyL.nil
              go_simp
              have hg' := hid (hg.out.alloc (Nat.le_refl _) (.cells #[Value.slice (some ⟨w3.heap.size, 0, none⟩) M M] 37))
              have boxB' : (wf.alloc (.cells #[Value.slice (some ⟨w3.heap.size, 0, none⟩) M M] 37)).cell? ⟨wf.heap.size, 0, none⟩ = some (Value.slice (some ⟨w3.heap.size, 0, none⟩) M M) := by simp
              have hbB := hid (show h0 ≤ wf.heap.size ∧ wf.heap.size < (wf.alloc (.cells #[Value.slice (some ⟨w3.heap.size, 0, none⟩) M M] 37)).heap.size from ⟨hh.out, by simp⟩)
              have hh' := hid (show h0 ≤ (wf.alloc (.cells #[Value.slice (some ⟨w3.heap.size, 0, none⟩) M M] 37)).heap.size from by have := hh.out; simp; omega)
              generalize hbBe : wf.heap.size = bB at *
              generalize wf.alloc (.cells #[Value.slice (some ⟨w3.heap.size, 0, none⟩) M M] 37) = wg at *
              clear hbBe hg hh
              have hg := hg'; have hh := hh'; have boxB := hid boxB'
              clear hg' hh' boxB'
              refine hK.out _ _ (HeldL.cons (fun _ => hg.out.c1) (HeldL.cons (fun _ => hg.out.c2) HeldL.nil)) (fun hHeld' => ?_)
              clear hK K hHeld; have hHeld := hHeld'; clear hHeld'
              try simp only [Act.put, List.setIfInBounds_toArray, List.set_cons_zero, List.set_cons_succ]
              refine wpAnyL_ready (rs := [15]) (by kernel_rfl) (by simp) ?_
              refine AllReadyL.cons rfl (fun K hK => ?_) AllReadyL.nil
              refine GS.appB hg.out rfl _ _ rfl rfl bB boxB.out rfl (by rw [tabA_length]; omega) ?_
              intro gb cb wx hg'
              clear hg boxB
              have hg := hid hg'
              clear hg'
              refine hK.out _ _ (HeldL.cons (fun _ => hg.out.c1) (HeldL.cons (fun _ => hg.out.c2) HeldL.nil)) (fun hHeld' => ?_)
              clear hK K hHeld; have hHeld := hHeld'; clear hHeld'
              try simp only [Act.put, List.setIfInBounds_toArray, List.set_cons_zero, List.set_cons_succ]
              refine wpAnyL_take0 (i := 16) (v := ?_) rfl (by kernel_rfl) (by kernel_rfl) (by kernel_rfl) (by rfl) (fun _ _ _ h => h) (Or.inl ⟨by rfl, ?_⟩) (by assumption) ?_
              rotate_left
              · (intro W _; go_simp; (with_reducible rfl))
              intro hHeld'
              clear hHeld; have hHeld := hHeld'; clear hHeld'
              try simp only [Act.put, List.setIfInBounds_toArray, List.set_cons_zero, List.set_cons_succ]
              refine wpAnyL_take0 (i := 17) (v := ?_) rfl (by kernel_rfl) (by kernel_rfl) (by kernel_rfl) (by rfl) (fun _ _ _ h => h) (Or.inl ⟨by rfl, ?_⟩) (by assumption) ?_
              rotate_left
              · (intro W _; go_simp; (with_reducible rfl))
              intro hHeld'
              clear hHeld; have hHeld := hHeld'; clear hHeld'
              try simp only [Act.put, List.setIfInBounds_toArray, List.set_cons_zero, List.set_cons_succ]
              have q1 := hg.out.c1
              have q2 := hg.out.fr 1
              refine wpAnyL_ready (rs := [18]) (by kernel_rfl) (by simp) ?_
              refine AllReadyL.cons rfl (fun K hK => ?_) AllReadyL.nil
              go_simp
              have hg' := hid (hg.out.set1 (.slice (some ⟨ga, 0, none⟩) ((tabA m l n q).length + 1) ca))
              clear q1 q2 hg
              have hg := hg'
              clear hg'
              refine hK.out _ _ (HeldL.cons (fun h => absurd h (by decide +kernel)) (HeldL.cons (fun h => absurd h (by decide +kernel)) HeldL.nil)) (fun hHeld' => ?_)
              clear hK K hHeld; have hHeld := hHeld'; clear hHeld'
              try simp only [Act.put, List.setIfInBounds_toArray, List.set_cons_zero, List.set_cons_succ]
              refine wpAnyL_take0 (i := 19) (v := ?_) rfl (by kernel_rfl) (by kernel_rfl) (by kernel_rfl) (by rfl) (fun _ _ _ h => h) (Or.inl ⟨by rfl, ?_⟩) (by assumption) ?_
              rotate_left
              · (intro W _; go_simp; (with_reducible rfl))
              intro hHeld'
              clear hHeld; have hHeld := hHeld'; clear hHeld'
              try simp only [Act.put, List.setIfInBounds_toArray, List.set_cons_zero, List.set_cons_succ]
              refine wpAnyL_take0 (i := 20) (v := ?_) rfl (by kernel_rfl) (by kernel_rfl) (by kernel_rfl) (by rfl) (fun _ _ _ h => h) (Or.inl ⟨by rfl, ?_⟩) (by assumption) ?_
              rotate_left
              · (intro W _; go_simp; (with_reducible rfl))
              intro hHeld'
              clear hHeld; have hHeld := hHeld'; clear hHeld'
              try simp only [Act.put, List.setIfInBounds_toArray, List.set_cons_zero, List.set_cons_succ]
              have q1 := hg.out.c2
              have q2 := hg.out.fr 2
              refine wpAnyL_ready (rs := [21]) (by kernel_rfl) (by simp) ?_
              refine AllReadyL.cons rfl (fun K hK => ?_) AllReadyL.nil
              go_simp
              have hg' := hid (hg.out.set2 (.slice (some ⟨gb, 0, none⟩) ((tabA I l n q).length + 1) cb))
              clear q1 q2 hg
              have hg := hg'
              clear hg'
              refine hK.out _ _ (HeldL.cons (fun h => absurd h (by decide +kernel)) (HeldL.cons (fun h => absurd h (by decide +kernel)) HeldL.nil)) (fun hHeld' => ?_)
              clear hK K hHeld; have hHeld := hHeld'; clear hHeld'
              try simp only [Act.put, List.setIfInBounds_toArray, List.set_cons_zero, List.set_cons_succ]
              refine wpAnyL_done (by kernel_rfl) ?_ _
              go_wp2
              go_roundw
              case rel =>
                have hx := hg.out
                exact ⟨q + 1, by omega, by go_num, _, _, ⟨hx.blk, by rw [hsA.out]; exact hx.mA, by rw [hsI.out]; exact hx.mB⟩, hx.dis, hx.bel⟩
              case measure => simp [intOf]; omega
            refine AllReadyL.cons rfl (fun K hK => ?_) AllReadyL.nil
            go_simp
            have hg' := hid (hg.out.alloc (Nat.le_refl _) (.cells #[Value.slice (some ⟨w3.heap.size, 0, none⟩) M M] 37))
            have boxB' : (we.alloc (.cells #[Value.slice (some ⟨w3.heap.size, 0, none⟩) M M] 37)).cell? ⟨we.heap.size, 0, none⟩ = some (Value.slice (some ⟨w3.heap.size, 0, none⟩) M M) := by simp
            have hbB := hid (show h0 ≤ we.heap.size ∧ we.heap.size < (we.alloc (.cells #[Value.slice (some ⟨w3.heap.size, 0, none⟩) M M] 37)).heap.size from ⟨hh.out, by simp⟩)
            have boxA' := (World.cell?_of_block (Below.heap_alloc we (.cells #[Value.slice (some ⟨w3.heap.size, 0, none⟩) M M] 37) bA hbA.out.2)).trans boxA.out
            have hbA' := hid (show h0 ≤ bA ∧ bA < (we.alloc (.cells #[Value.slice (some ⟨w3.heap.size, 0, none⟩) M M] 37)).heap.size from ⟨hbA.out.1, by have := hbA.out.2; simp; omega⟩)
            have hh' := hid (show h0 ≤ (we.alloc (.cells #[Value.slice (some ⟨w3.heap.size, 0, none⟩) M M] 37)).heap.size from by have := hh.out; simp; omega)
            generalize hbBe : we.heap.size = bB at *
            generalize we.alloc (.cells #[Value.slice (some ⟨w3.heap.size, 0, none⟩) M M] 37) = wf at *
            clear hbBe hg hh
            have hg := hg'; have hh := hh'; have boxB := hid boxB'
            clear hg' hh' boxB'
            clear boxA hbA
            have boxA := hid boxA'; have hbA := hbA'
            clear boxA' hbA'
            refine hK.out _ _ (HeldL.cons (fun _ => hg.out.c1) (HeldL.cons (fun _ => hg.out.c2) HeldL.nil)) (fun hHeld' => ?_)
            clear hK K hHeld; have hHeld := hHeld'; clear hHeld'
            try simp only [Act.put, List.setIfInBounds_toArray, List.set_cons_zero, List.set_cons_succ]
            refine wpAnyL_ready (rs := [8]) (by kernel_rfl) (by simp) ?_
            refine AllReadyL.cons rfl (fun K hK => ?_) AllReadyL.nil
            refine GS.appA hg.out rfl _ _ rfl rfl bA boxA.out rfl (by rw [tabA_length]; omega) ?_
            intro ga ca wg hg' hsz hold
            have boxB' := hid ((World.cell?_of_block (hold bB hbB.out.2 (fun e => by have h1 := hbB.out.1; have h2 := hvlt.out bB e; omega))).trans boxB.out)
            have hh' := hid (show h0 ≤ wg.heap.size from Nat.le_trans hh.out hsz)
            clear hg hh hold hsz boxA hbA
            have hg := hid hg'; have hh := hh'
            clear hg' hh'
            clear boxB hbB
            have boxB := boxB'
            clear boxB'
            refine hK.out _ _ (HeldL.cons (fun _ => hg.out.c1) (HeldL.cons (fun _ => hg.out.c2) HeldL.nil)) (fun hHeld' => ?_)
            clear hK K hHeld; have hHeld := hHeld'; clear hHeld'
            try simp only [Act.put, List.setIfInBounds_toArray, List.set_cons_zero, List.set_cons_succ]
            refine wpAnyL_ready (rs := [15]) (by kernel_rfl) (by simp) ?_
            refine AllReadyL.cons rfl (fun K hK => ?_) AllReadyL.nil
            refine GS.appB hg.out rfl _ _ rfl rfl bB boxB.out rfl (by rw [tabA_length]; omega) ?_
            intro gb cb wx hg'
            clear hg boxB
            have hg := hid hg'
            clear hg'
            refine hK.out _ _ (HeldL.cons (fun _ => hg.out.c1) (HeldL.cons (fun _ => hg.out.c2) HeldL.nil)) (fun hHeld' => ?_)
            clear hK K hHeld; have hHeld := hHeld'; clear hHeld'
            try simp only [Act.put, List.setIfInBounds_toArray, List.set_cons_zero, List.set_cons_succ]
            refine wpAnyL_take0 (i := 16) (v := ?_) rfl (by kernel_rfl) (by kernel_rfl) (by kernel_rfl) (by rfl) (fun _ _ _ h => h) (Or.inl ⟨by rfl, ?_⟩) (by assumption) ?_
            rotate_left
            · (intro W _; go_simp; (with_reducible rfl))
            intro hHeld'
            clear hHeld; have hHeld := hHeld'; clear hHeld'
            try simp only [Act.put, List.setIfInBounds_toArray, List.set_cons_zero, List.set_cons_succ]
            refine wpAnyL_take0 (i := 17) (v := ?_) rfl (by kernel_rfl) (by kernel_rfl) (by kernel_rfl) (by rfl) (fun _ _ _ h => h) (Or.inl ⟨by rfl, ?_⟩) (by assumption) ?_
            rotate_left
            · (intro W _; go_simp; (with_reducible rfl))
            intro hHeld'
            clear hHeld; have hHeld := hHeld'; clear hHeld'
            try simp only [Act.put, List.setIfInBounds_toArray, List.set_cons_zero, List.set_cons_succ]
            have q1 := hg.out.c1
            have q2 := hg.out.fr 1
            refine wpAnyL_ready (rs := [18]) (by kernel_rfl) (by simp) ?_
            refine AllReadyL.cons rfl (fun K hK => ?_) AllReadyL.nil
            go_simp
            have hg' := hid (hg.out.set1 (.slice (some ⟨ga, 0, none⟩) ((tabA m l n q).length + 1) ca))
            clear q1 q2 hg
            have hg := hg'
            clear hg'
            refine hK.out _ _ (HeldL.cons (fun h => absurd h (by decide +kernel)) (HeldL.cons (fun h => absurd h (by decide +kernel)) HeldL.nil)) (fun hHeld' => ?_)
            clear hK K hHeld; have hHeld := hHeld'; clear hHeld'
            try simp only [Act.put, List.setIfInBounds_toArray, List.set_cons_zero, List.set_cons_succ]
            refine wpAnyL_take0 (i := 19) (v := ?_) rfl (by kernel_rfl) (by kernel_rfl) (by kernel_rfl) (by rfl) (fun _ _ _ h => h) (Or.inl ⟨by rfl, ?_⟩) (by assumption) ?_
            rotate_left
            · (intro W _; go_simp; (with_reducible rfl))
            intro hHeld'
            clear hHeld; have hHeld := hHeld'; clear hHeld'
            try simp only [Act.put, List.setIfInBounds_toArray, List.set_cons_zero, List.set_cons_succ]
            refine wpAnyL_take0 (i := 20) (v := ?_) rfl (by kernel_rfl) (by kernel_rfl) (by kernel_rfl) (by rfl) (fun _ _ _ h => h) (Or.inl ⟨by rfl, ?_⟩) (by assumption) ?_
            rotate_left
            · (intro W _; go_simp; (with_reducible rfl))
            intro hHeld'
            clear hHeld; have hHeld := hHeld'; clear hHeld'
            try simp only [Act.put, List.setIfInBounds_toArray, List.set_cons_zero, List.set_cons_succ]
            have q1 := hg.out.c2
            have q2 := hg.out.fr 2
            refine wpAnyL_ready (rs := [21]) (by kernel_rfl) (by simp) ?_
            refine AllReadyL.cons rfl (fun K hK => ?_) AllReadyL.nil
            go_simp
            have hg' := hid (hg.out.set2 (.slice (some ⟨gb, 0, none⟩) ((tabA I l n q).length + 1) cb))
            clear q1 q2 hg
            have hg := hg'
            clear hg'
            refine hK.out _ _ (HeldL.cons (fun h => absurd h (by decide +kernel)) (HeldL.cons (fun h => absurd h (by decide +kernel)) HeldL.nil)) (fun hHeld' => ?_)
            clear hK K hHeld; have hHeld := hHeld'; clear hHeld'
            try simp only [Act.put, List.setIfInBounds_toArray, List.set_cons_zero, List.set_cons_succ]
            refine wpAnyL_done (by kernel_rfl) ?_ _
            go_wp2
            go_roundw
            case rel =>
              have hx := hg.out
              exact ⟨q + 1, by omega, by go_num, _, _, ⟨hx.blk, by rw [hsA.out]; exact hx.mA, by rw [hsI.out]; exact hx.mB⟩, hx.dis, hx.bel⟩
            case measure => simp [intOf]; omega
          refine AllReadyL.cons rfl (fun K hK => ?_) AllReadyL.nil
          go_simp
          have hg' := hid (hg.out.alloc (Nat.le_refl _) (.cells #[Value.slice (some ⟨w3.heap.size, 0, none⟩) M M] 37))
          have boxB' : (wd.alloc (.cells #[Value.slice (some ⟨w3.heap.size, 0, none⟩) M M] 37)).cell? ⟨wd.heap.size, 0, none⟩ = some (Value.slice (some ⟨w3.heap.size, 0, none⟩) M M) := by simp
          have hbB := hid (show h0 ≤ wd.heap.size ∧ wd.heap.size < (wd.alloc (.cells #[Value.slice (some ⟨w3.heap.size, 0, none⟩) M M] 37)).heap.size from ⟨hh.out, by simp⟩)
          have hh' := hid (show h0 ≤ (wd.alloc (.cells #[Value.slice (some ⟨w3.heap.size, 0, none⟩) M M] 37)).heap.size from by have := hh.out; simp; omega)
          generalize hbBe : wd.heap.size = bB at *
          generalize wd.alloc (.cells #[Value.slice (some ⟨w3.heap.size, 0, none⟩) M M] 37) = we at *
          clear hbBe hg hh
          have hg := hg'; have hh := hh'; have boxB := hid boxB'
          clear hg' hh' boxB'
          refine hK.out _ _ (HeldL.cons (fun _ => hg.out.c1) (HeldL.cons (fun _ => hg.out.c2) HeldL.nil)) (fun hHeld' => ?_)
          clear hK K hHeld; have hHeld := hHeld'; clear hHeld'
          try simp only [Act.put, List.setIfInBounds_toArray, List.set_cons_zero, List.set_cons_succ]
          refine wpAnyL_ready (rs := [7]) (by kernel_rfl) (by simp) ?_
          refine AllReadyL.cons rfl (fun K hK => ?_) AllReadyL.nil
          go_simp
          have hg' := hid (hg.out.alloc (Nat.le_refl _) (.cells #[Value.slice (some ⟨g1, 0, none⟩) M c1] 37))
          have boxA' : (we.alloc (.cells #[Value.slice (some ⟨g1, 0, none⟩) M c1] 37)).cell? ⟨we.heap.size, 0, none⟩ = some (Value.slice (some ⟨g1, 0, none⟩) M c1) := by simp
          have hbA := hid (show h0 ≤ we.heap.size ∧ we.heap.size < (we.alloc (.cells #[Value.slice (some ⟨g1, 0, none⟩) M c1] 37)).heap.size from ⟨hh.out, by simp⟩)
          have boxB' := (World.cell?_of_block (Below.heap_alloc we (.cells #[Value.slice (some ⟨g1, 0, none⟩) M c1] 37) bB hbB.out.2)).trans boxB.out
          have hbB' := hid (show h0 ≤ bB ∧ bB < (we.alloc (.cells #[Value.slice (some ⟨g1, 0, none⟩) M c1] 37)).heap.size from ⟨hbB.out.1, by have := hbB.out.2; simp; omega⟩)
          have hh' := hid (show h0 ≤ (we.alloc (.cells #[Value.slice (some ⟨g1, 0, none⟩) M c1] 37)).heap.size from by have := hh.out; simp; omega)
          generalize hbAe : we.heap.size = bA at *
          generalize we.alloc (.cells #[Value.slice (some ⟨g1, 0, none⟩) M c1] 37) = wf at *
          clear hbAe hg hh
          have hg := hg'; have hh := hh'; have boxA := hid boxA'
          clear hg' hh' boxA'
          clear boxB hbB
          have boxB := hid boxB'; have hbB := hbB'
          clear boxB' hbB'
          refine hK.out _ _ (HeldL.cons (fun _ => hg.out.c1) (HeldL.cons (fun _ => hg.out.c2) HeldL.nil)) (fun hHeld' => ?_)
          clear hK K hHeld; have hHeld := hHeld'; clear hHeld'
          try simp only [Act.put, List.setIfInBounds_toArray, List.set_cons_zero, List.set_cons_succ]
          refine wpAnyL_ready (rs := [8]) (by kernel_rfl) (by simp) ?_
          refine AllReadyL.cons rfl (fun K hK => ?_) AllReadyL.nil
          refine GS.appA hg.out rfl _ _ rfl rfl bA boxA.out rfl (by rw [tabA_length]; omega) ?_
          intro ga ca wg hg' hsz hold
          have boxB' := hid ((World.cell?_of_block (hold bB hbB.out.2 (fun e => by have h1 := hbB.out.1; have h2 := hvlt.out bB e; omega))).trans boxB.out)
          have hh' := hid (show h0 ≤ wg.heap.size from Nat.le_trans hh.out hsz)
          clear hg hh hold hsz boxA hbA
          have hg := hid hg'; have hh := hh'
          clear hg' hh'
          clear boxB hbB
          have boxB := boxB'
          clear boxB'
          refine hK.out _ _ (HeldL.cons (fun _ => hg.out.c1) (HeldL.cons (fun _ => hg.out.c2) HeldL.nil)) (fun hHeld' => ?_)
          clear hK K hHeld; have hHeld := hHeld'; clear hHeld'
          try simp only [Act.put, List.setIfInBounds_toArray, List.set_cons_zero, List.set_cons_succ]
          refine wpAnyL_ready (rs := [15]) (by kernel_rfl) (by simp) ?_
          refine AllReadyL.cons rfl (fun K hK => ?_) AllReadyL.nil
          refine GS.appB hg.out rfl _ _ rfl rfl bB boxB.out rfl (by rw [tabA_length]; omega) ?_
          intro gb cb wx hg'
          clear hg boxB
          have hg := hid hg'
          clear hg'
          refine hK.out _ _ (HeldL.cons (fun _ => hg.out.c1) (HeldL.cons (fun _ => hg.out.c2) HeldL.nil)) (fun hHeld' => ?_)
          clear hK K hHeld; have hHeld := hHeld'; clear hHeld'
          try simp only [Act.put, List.setIfInBounds_toArray, List.set_cons_zero, List.set_cons_succ]
          refine wpAnyL_take0 (i := 16) (v := ?_) rfl (by kernel_rfl) (by kernel_rfl) (by kernel_rfl) (by rfl) (fun _ _ _ h => h) (Or.inl ⟨by rfl, ?_⟩) (by assumption) ?_
          rotate_left
          · (intro W _; go_simp; (with_reducible rfl))
          intro hHeld'
          clear hHeld; have hHeld := hHeld'; clear hHeld'
          try simp only [Act.put, List.setIfInBounds_toArray, List.set_cons_zero, List.set_cons_succ]
          refine wpAnyL_take0 (i := 17) (v := ?_) rfl (by kernel_rfl) (by kernel_rfl) (by kernel_rfl) (by rfl) (fun _ _ _ h => h) (Or.inl ⟨by rfl, ?_⟩) (by assumption) ?_
          rotate_left
          · (intro W _; go_simp; (with_reducible rfl))
          intro hHeld'
          clear hHeld; have hHeld := hHeld'; clear hHeld'
          try simp only [Act.put, List.setIfInBounds_toArray, List.set_cons_zero, List.set_cons_succ]
          have q1 := hg.out.c1
          have q2 := hg.out.fr 1
          refine wpAnyL_ready (rs := [18]) (by kernel_rfl) (by simp) ?_
          refine AllReadyL.cons rfl (fun K hK => ?_) AllReadyL.nil
          go_simp
          have hg' := hid (hg.out.set1 (.slice (some ⟨ga, 0, none⟩) ((tabA m l n q).length + 1) ca))
          clear q1 q2 hg
          have hg := hg'
          clear hg'
          refine hK.out _ _ (HeldL.cons (fun h => absurd h (by decide +kernel)) (HeldL.cons (fun h => absurd h (by decide +kernel)) HeldL.nil)) (fun hHeld' => ?_)
          clear hK K hHeld; have hHeld := hHeld'; clear hHeld'
          try simp only [Act.put, List.setIfInBounds_toArray, List.set_cons_zero, List.set_cons_succ]
          refine wpAnyL_take0 (i := 19) (v := ?_) rfl (by kernel_rfl) (by kernel_rfl) (by kernel_rfl) (by rfl) (fun _ _ _ h => h) (Or.inl ⟨by rfl, ?_⟩) (by assumption) ?_
          rotate_left
          · (intro W _; go_simp; (with_reducible rfl))
          intro hHeld'
          clear hHeld; have hHeld := hHeld'; clear hHeld'
          try simp only [Act.put, List.setIfInBounds_toArray, List.set_cons_zero, List.set_cons_succ]
          refine wpAnyL_take0 (i := 20) (v := ?_) rfl (by kernel_rfl) (by kernel_rfl) (by kernel_rfl) (by rfl) (fun _ _ _ h => h) (Or.inl ⟨by rfl, ?_⟩) (by assumption) ?_
          rotate_left
          · (intro W _; go_simp; (with_reducible rfl))
          intro hHeld'
          clear hHeld; have hHeld := hHeld'; clear hHeld'
          try simp only [Act.put, List.setIfInBounds_toArray, List.set_cons_zero, List.set_cons_succ]
          have q1 := hg.out.c2
          have q2 := hg.out.fr 2
          refine wpAnyL_ready (rs := [21]) (by kernel_rfl) (by simp) ?_
          refine AllReadyL.cons rfl (fun K hK => ?_) AllReadyL.nil
          go_simp
          have hg' := hid (hg.out.set2 (.slice (some ⟨gb, 0, none⟩) ((tabA I l n q).length + 1) cb))
          clear q1 q2 hg
          have hg := hg'
          clear hg'
          refine hK.out _ _ (HeldL.cons (fun h => absurd h (by decide +kernel)) (HeldL.cons (fun h => absurd h (by decide +kernel)) HeldL.nil)) (fun hHeld' => ?_)
          clear hK K hHeld; have hHeld := hHeld'; clear hHeld'
          try simp only [Act.put, List.setIfInBounds_toArray, List.set_cons_zero, List.set_cons_succ]
          refine wpAnyL_done (by kernel_rfl) ?_ _
          go_wp2
          go_roundw
          case rel =>
            have hx := hg.out
            exact ⟨q + 1, by omega, by go_num, _, _, ⟨hx.blk, by rw [hsA.out]; exact hx.mA, by rw [hsI.out]; exact hx.mB⟩, hx.dis, hx.bel⟩
          case measure => simp [intOf]; omega
    · obtain rfl : s = q := by omega
      go_wp2
      go_ret
      exact ⟨vA, vB, rfl, r1.out, rB.out⟩
end Go.Proofs.Ytapbcfnlcnboeaa
