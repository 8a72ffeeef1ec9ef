/- Lists of lists of numbers, all of a function's own. -/
import Derived.Test.YthempofohidlnaaOrd
import Derived.Test.YthempofohidlnaaGraphM
namespace Go.Proofs.Ythempofohidlnaa
open Go.RowKit
set_option linter.unusedVariables false
set_option linter.unusedSimpArgs false

theorem info_ints : (Try.prog.info? 22).map (fun i => (i.zero, i.size, i.bytes)) = some (some (.slice none 0 0), 1, 24) := by kernel_rfl

/-- A slice of slices, each with a block of its own. -/
def Mat (w : World) (base : Nat) (v : Value) (M : List (List Int)) : Prop :=
  ∃ rows : List Value, Own w base 22 v rows ∧ rows.length = M.length ∧ ∀ (i : Nat) (r : Value) (l : List Int), rows[i]? = some r → M[i]? = some l → Own w base 2 r (ints l)

theorem Own.ne {w : World} {b b' e e' : Nat} {v v' : Value} {cs cs' : List Value} (h : Own w b e v cs) (h' : Own w b' e' v' cs') (hne : e ≠ e') (k : Nat) (hk : v.ownBlock = some k) : v'.ownBlock ≠ some k := by
  intro hk'
  rcases h.2 with ⟨rfl, _⟩ | ⟨g, cap, cur, rfl, hb, hg, rest⟩
  · cases hk
  · rcases h'.2 with ⟨rfl, _⟩ | ⟨g', cap', cur', rfl, hb', hg', rest'⟩
    · cases hk'
    · have e1 : g = k := by simpa [Value.ownBlock] using hk
      have e2 : g' = k := by simpa [Value.ownBlock] using hk'
      subst e1; subst e2
      rw [hg] at hg'
      injection hg' with hg'
      injection hg' with _ hg' _
      exact hne hg'

/-- A machine's block is none of them. -/
theorem Own.neMB {w : World} {b e t bm : Nat} {v : Value} {cs : List Value} {m : Mach} (h : Own w b e v cs) (hm : MB w t bm m) (hne : e ≠ t) : v.ownBlock ≠ some bm := by
  intro hk
  rcases h.2 with ⟨rfl, _⟩ | ⟨g, cap, cur, rfl, hb, hg, rest⟩
  · cases hk
  · have e1 : g = bm := by simpa [Value.ownBlock] using hk
    subst e1
    have h2 := hm.heap
    rw [hg] at h2
    injection h2 with h2
    injection h2 with _ h2 _
    exact hne h2

section
variable {w w' : World} {base : Nat} {v : Value} {M : List (List Int)}
theorem Mat.nil (w : World) (base : Nat) : Mat w base (.slice none 0 0) [] := ⟨[], Own.nil _ _ _, rfl, fun i r l h => by simp at h⟩
theorem Mat.new (w : World) (base : Nat) (hb : base ≤ w.heap.size) : Mat (w.alloc (.cells #[] 22)) base (.slice (some ⟨w.heap.size, 0, none⟩) 0 0) [] := ⟨[], Own.new _ _ _ hb, rfl, fun i r l h => by simp at h⟩
theorem Mat.below (h : Mat w base v M) (hb : Below w.heap.size w w') : Mat w' base v M := by
  obtain ⟨rows, h1, h2, h3⟩ := h
  exact ⟨rows, h1.below hb, h2, fun i r l hr hl => (h3 i r l hr hl).below hb⟩
theorem Mat.alloc (h : Mat w base v M) (o : Obj) : Mat (w.alloc o) base v M := by
  obtain ⟨rows, h1, h2, h3⟩ := h
  exact ⟨rows, h1.alloc o, h2, fun i r l hr hl => (h3 i r l hr hl).alloc o⟩
theorem Mat.drew (h : Mat w base v M) : Mat w.drew base v M := h
theorem Mat.mono {b' : Nat} (h : Mat w base v M) (hb : b' ≤ base) : Mat w b' v M := by
  obtain ⟨rows, h1, h2, h3⟩ := h
  exact ⟨rows, h1.mono hb, h2, fun i r l hr hl => (h3 i r l hr hl).mono hb⟩
/-- Where all that it has is as it was. -/
theorem Mat.keep (h : Mat w base v M) (hk : ∀ k, base ≤ k → k < w.heap.size → w'.heap[k]? = w.heap[k]?) : Mat w' base v M := by
  obtain ⟨rows, h1, h2, h3⟩ := h
  exact ⟨rows, h1.keep fun k hk' => hk k (h1.lt k hk').1 (h1.lt k hk').2, h2, fun i r l hr hl => (h3 i r l hr hl).keep fun k hk' => hk k ((h3 i r l hr hl).lt k hk').1 ((h3 i r l hr hl).lt k hk').2⟩
/-- Where all but a machine's block is as it was. -/
theorem Mat.keepM {t bm : Nat} {m : Mach} (h : Mat w base v M) (hm : MB w t bm m) (ht : t = 34) (hk : ∀ k, k ≠ bm → w'.heap[k]? = w.heap[k]?) : Mat w' base v M := by
  subst ht
  obtain ⟨rows, h1, h2, h3⟩ := h
  exact ⟨rows, h1.keep fun k hk' => hk k (fun e => h1.neMB hm (by decide) (e ▸ hk')), h2, fun i r l hr hl => (h3 i r l hr hl).keep fun k hk' => hk k (fun e => (h3 i r l hr hl).neMB hm (by decide) (e ▸ hk'))⟩
theorem Mat.neMB {bm : Nat} {m : Mach} (h : Mat w base v M) (hm : MB w 34 bm m) : v.ownBlock ≠ some bm := by
  obtain ⟨rows, h1, _⟩ := h
  exact h1.neMB hm (by decide)
theorem Mat.lt (h : Mat w base v M) : ∀ k, v.ownBlock = some k → base ≤ k ∧ k < w.heap.size := by
  obtain ⟨rows, h1, _⟩ := h
  exact h1.lt
theorem Mat.form (h : Mat w base v M) : ∃ A cap, v = .slice A M.length cap := by
  obtain ⟨rows, h1, h2, _⟩ := h
  obtain ⟨A, cap, hv, _⟩ := h1.form
  exact ⟨A, cap, by rw [hv, h2]⟩
theorem Mat.blk (h : Mat w base v M) (hne : M ≠ []) : ∃ g cap, v = .slice (some ⟨g, 0, none⟩) M.length cap ∧ base ≤ g ∧ g < w.heap.size := by
  obtain ⟨rows, h1, h2, _⟩ := h
  obtain ⟨g, cap, hv, hg⟩ := h1.blk (fun e => hne (List.eq_nil_of_length_eq_zero (by rw [← h2, e]; rfl)))
  exact ⟨g, cap, by rw [hv, h2], hg⟩
/-- One row. -/
theorem Mat.row {g n cap : Nat} (h : Mat w base (.slice (some ⟨g, 0, none⟩) n cap) M) (i : Nat) (l : List Int) (hl : M[i]? = some l) :
    ∃ r, w.cell? ⟨g, i, none⟩ = some r ∧ Own w base 2 r (ints l) := by
  obtain ⟨rows, h1, h2, h3⟩ := h
  have hi : i < rows.length := by rw [h2]; exact (List.getElem?_eq_some_iff.1 hl).1
  obtain ⟨r, hr⟩ : ∃ r, rows[i]? = some r := ⟨_, List.getElem?_eq_getElem hi⟩
  exact ⟨r, h1.cellAt i r hr, h3 i r l hr hl⟩
/-- One row more. -/
theorem Mat.snoc {v' r : Value} {rows : List Value} {l : List Int} (hrows : Own w base 22 v rows) (hlen : rows.length = M.length)
    (hall : ∀ (i : Nat) (r : Value) (l : List Int), rows[i]? = some r → M[i]? = some l → Own w base 2 r (ints l)) (hr : Own w base 2 r (ints l))
    (hnew : Own w' base 22 v' (rows ++ [r])) (hold : ∀ k, k < w.heap.size → v.ownBlock ≠ some k → w'.heap[k]? = w.heap[k]?) : Mat w' base v' (M ++ [l]) := by
  have keep : ∀ {r' : Value} {l' : List Int}, Own w base 2 r' (ints l') → Own w' base 2 r' (ints l') := fun h => h.keep fun k hk => hold k (h.lt k hk).2 (h.ne hrows (by decide) k hk)
  refine ⟨rows ++ [r], hnew, by simp [hlen], fun i r' l' h1 h2 => ?_⟩
  by_cases hi : i < rows.length
  · rw [List.getElem?_append_left hi] at h1
    rw [List.getElem?_append_left (by omega)] at h2
    exact keep (hall i r' l' h1 h2)
  · have hi2 : i = rows.length := by
      have := (List.getElem?_eq_some_iff.1 h1).1
      simp at this; omega
    subst hi2
    rw [List.getElem?_append_right (Nat.le_refl _)] at h1
    rw [List.getElem?_append_right (by omega)] at h2
    simp at h1
    simp [hlen] at h2
    subst h1; subst h2
    exact keep hr
end

/-- One row appended, as the walk meets it: behind the box of the row. -/
theorem appM {ops : Array Oper} {rest : List Oper} {o : Oper} {a : Act} {W : World} {Q : Exit → Act → World → Prop}
    (hgd : o.guard = none) (s x : Operand) (ho : o.op = .call { callee := .builtin .append, args := #[s, x], argTypes := #[75, 75] })
    (base : Nat) (v : Value) (M : List (List Int)) (hs : a.eval s = v) (hmat : Mat W base v M) (hbase : base ≤ W.heap.size) (r : Value) (l : List Int) (hr : Own W base 2 r (ints l)) (hr1 : r.oneCell' = true)
    (hx : a.eval x = .slice (some ⟨W.heap.size, 0, none⟩) 1 1) (hlen : M.length ≤ 1000000000)
    (h : ∀ g cap w', Mat w' base (.slice (some ⟨g, 0, none⟩) (M.length + 1) cap) (M ++ [l]) → Below base W w' → (∀ k, k < W.heap.size → v.ownBlock ≠ some k → w'.heap[k]? = W.heap[k]?) →
      wpList Try.prog ops Q rest (a.put o.dst (.slice (some ⟨g, 0, none⟩) (M.length + 1) cap)) w') :
    wpList Try.prog ops Q (o :: rest) a (W.alloc (.cells #[r] 22)) := by
  obtain ⟨rows, h1, h2, h3⟩ := hmat
  refine app1 75 22 (.slice none 0 0) 24 Try.underlying75 info_ints rfl (by omega) hgd s x ho base v rows hs h1 hbase r hr1 hx (by omega) ?_
  intro g cap w' k1 k2 k3 _ _
  rw [h2] at k1 ⊢
  exact h g cap w' (Mat.snoc h1 h2 h3 hr k1 k3) k2 k3
theorem Own.oneCell {w : World} {b e : Nat} {v : Value} {cs : List Value} (h : Own w b e v cs) : v.oneCell' = true := by
  rcases h.2 with ⟨rfl, _⟩ | ⟨g, cap, cur, rfl, _⟩ <;> rfl

/-- A level as numbers. -/
def permZ (m : Mach) (d q n : Nat) : List Int := (perm m d q n).map Int.ofNat
theorem permZ_length (m : Mach) (d q n : Nat) : (permZ m d q n).length = pw d n := by simp [permZ, perm_length]
theorem permZ_get (m : Mach) (d q n k : Nat) (hk : k < pw d n) : (permZ m d q n)[k]? = some ((pf m d q n k : Nat) : Int) := by simp [permZ, perm_pf, hk]

/-- What all states make of a level, and their inverses. -/
def tabA (m : Mach) (d n s : Nat) : List (List Int) := (List.range s).map fun q => permZ m d q n
theorem tabA_snoc (m : Mach) (d n s : Nat) : tabA m d n (s + 1) = tabA m d n s ++ [permZ m d s n] := by simp [tabA, List.range_succ]
theorem tabA_length (m : Mach) (d n s : Nat) : (tabA m d n s).length = s := by simp [tabA]
theorem tabA_get (m : Mach) (d n s q : Nat) (h : q < s) : (tabA m d n s)[q]? = some (permZ m d q n) := by simp [tabA, h]

set_option maxHeartbeats 2000000 in
set_option maxRecDepth 100000 in
theorem l05Tables_any (w : World) (m : Mach) (l s : Nat) (g : Good m l s) (hk : m.Ok) (n : Nat) (hn : n ≤ 40) (hb : pw l n ≤ 100000) :
    Calls Try.prog 85 #[.agg (mcells m), .int .i64 n] w fun e w' => ∃ v, e = .returned v ∧ Mat w' w.heap.size v (tabA m l n s ++ tabA (inv m l s) l n s) ∧ Below w.heap.size w w' := by
  have hM := hid ((MB.new w m 34).alloc (.cells #[] 22))
  have hB := hid (below_alloc (below_alloc (Below.refl w.heap.size w) (Nat.le_refl _) (.cells (mcells m) 34)) (Nat.le_refl _) (.cells #[] 22))
  have hT := Mat.new (w.alloc (.cells (mcells m) 34)) w.heap.size (by rw [heap_alloc_size]; omega)
  rw [heap_alloc_size] at hT
  replace hT := hid hT
  have hz := zeroM_run
  have h0 := hid (fun w' : World => MB.new w' zeroM 34)
  have gS := hid g.S
  have s16 := g.s16
  have hinv := hid (fun W => l01Inverse_any W m l s g hk)
  have hlev := hid (fun q (hq : q < s) W => l01Level_any W m l s g q hq n hn hb)
  have hlevi := hid (fun q (hq : q < s) W => l01Level_any W (inv m l s) l s (inv_good g) q hq n hn hb)
  have hnz := hid (fun m q => nats_ints (perm m l q n))
  generalize hI : inv m l s = I at *
  replace hI := hid hI
  replace g := hid g
  replace hk := hid hk
  generalize mcells zeroM = zs at *
  go_enter Try.func85, Try.ntmps85
  go_wp2_with (first
    | ((with_reducible refine gate (N := 10) rfl ?_); refine load_mach rfl _ rfl w.heap.size rfl m hM.out ?_)
    | (go_at_call 72; (with_reducible refine (hinv.out _).mono ?_); rintro e w1 ⟨rfl, hb1⟩; have hM1 := hid ((hM.out.below hb1 hM.out.lt).alloc (.cells zs 34)); have hlt := hid (hM.out.below hb1 hM.out.lt).lt; have hT1 := hid ((hT.out.below hb1).alloc (.cells zs 34)); have hB1 := hid (hB.out.trans (hb1.mono hB.out.size)); have hB1a := hid (below_alloc hB1.out (Nat.le_refl _) (.cells zs 34)); clear hb1 hM hT hB hinv)
    | ((with_reducible refine gateOp (op := .store 34 (.tmp 6) (.tmp 11)) rfl ?_); refine store_mach rfl _ _ rfl w1.heap.size rfl I rfl 34 _ (h0.out w1) ?_; intro w2 hV ho hsz hbl; have hV2 := hid hV; have hM2 := hid (show MB w2 34 w.heap.size m from World.rowIs.of_block hM1.out (ho _ (by have := hlt.out; omega))); have hB2 := hid (hbl _ _ hB1.out.size hB1a.out); have hT2 := hid (hT1.out.keepM (h0.out w1) rfl ho); clear hV ho hsz hbl hM1 hB1 hB1a hT1))
  go_loopw [5, 7] (fun v i wr => ∃ q : Nat, q ≤ s ∧ i = .int .i64 q ∧ MB wr 34 w.heap.size m ∧ MB wr 34 w1.heap.size I ∧ Mat wr w.heap.size v (tabA m l n q) ∧ Below w.heap.size w wr) (fun _ i _ => s - (intOf i).toNat)
  case atStart => exact ⟨0, Nat.zero_le _, rfl, hM2.out, hV2.out, hT2.out, hB2.out⟩
  case round =>
    obtain ⟨q, hq, rfl, r1, r2, r3, rB⟩ := hrel
    have cS := r1.cS
    rw [gS.out] at cS
    have hml := hid (show (tabA m l n q).length ≤ s + s by (try rw [List.length_append]); (try rw [tabA_length]); (try rw [tabA_length]); omega)
    replace r1 := hid r1; replace r2 := hid r2; replace r3 := hid r3; replace rB := hid rB
    by_cases hlq : q < s
    · have dq : decide ((q : Int) < (s : Int)) = true := decide_eq_true (by omega)
      have hsn := hid (tabA_snoc m l n q)
      go_wp2_with (first
        | ((with_reducible refine gate (N := 19) rfl ?_); refine load_mach rfl _ rfl w.heap.size rfl m r1.out ?_)
        | (go_at_call 137; (with_reducible refine (hlev.out q hlq _).mono ?_); rintro e w3 ⟨r, rfl, hO, hb3⟩; rw [hnz.out] at hO; obtain ⟨Ar, cr, rfl, _, _⟩ := hO.form; have hR := hid (hO.mono rB.out.size); have t1 := hid (r1.out.below hb3 r1.out.lt); have t2 := hid (r2.out.below hb3 r2.out.lt); have t3 := hid (r3.out.below hb3); have tB := hid (rB.out.trans (hb3.mono rB.out.size)); clear hO hb3 r1 r2 r3 rB cS)
        | ((with_reducible refine gate (N := 24) rfl ?_); refine appM rfl _ _ rfl w.heap.size _ (tabA m l n q) rfl t3.out tB.out.size _ (permZ m l q n) hR.out hR.out.oneCell rfl (by have := hml.out; omega) ?_; intro gn cap w4 hM4 hb4 hold; have y1 := hid (show MB w4 34 w.heap.size m from World.rowIs.of_block t1.out (hold _ t1.out.lt (t3.out.neMB t1.out))); have y2 := hid (show MB w4 34 w1.heap.size I from World.rowIs.of_block t2.out (hold _ t2.out.lt (t3.out.neMB t2.out))); have y3 := hid hM4; have yB := hid (tB.out.trans hb4); clear hM4 hb4 hold t1 t2 t3 tB hR))
      go_roundw
      case rel => exact ⟨q + 1, by omega, by go_num, y1.out, y2.out, by rw [hsn.out]; exact y3.out, yB.out⟩
      case measure => simp [intOf]; omega
    · obtain rfl : s = q := by omega
      clear hml hlq hq
      go_wp2
      go_loopw [5, 8] (fun v i wr => ∃ q : Nat, q ≤ s ∧ i = .int .i64 q ∧ MB wr 34 w.heap.size m ∧ MB wr 34 w1.heap.size I ∧ Mat wr w.heap.size v (tabA m l n s ++ tabA I l n q) ∧ Below w.heap.size w wr) (fun _ i _ => s - (intOf i).toNat)
      case atStart => exact ⟨0, Nat.zero_le _, rfl, r1.out, r2.out, by rw [show tabA I l n 0 = [] from rfl, List.append_nil]; exact r3.out, rB.out⟩
      case round =>
        obtain ⟨q, hq, rfl, r1, r2, r3, rB⟩ := hrel
        have cS := r1.cS
        rw [gS.out] at cS
        have hml := hid (show (tabA m l n s ++ tabA I l n q).length ≤ s + s by (try rw [List.length_append]); (try rw [tabA_length]); (try rw [tabA_length]); omega)
        replace r1 := hid r1; replace r2 := hid r2; replace r3 := hid r3; replace rB := hid rB
        by_cases hlq : q < s
        · have dq : decide ((q : Int) < (s : Int)) = true := decide_eq_true (by omega)
          have hsn := hid (tabA_snoc I l n q)
          go_wp2_with (first
            | ((with_reducible refine gate (N := 32) rfl ?_); refine load_mach rfl _ rfl w1.heap.size rfl I r2.out ?_)
            | (go_at_call 137; (with_reducible refine (hlevi.out q hlq _).mono ?_); rintro e w3 ⟨r, rfl, hO, hb3⟩; rw [hnz.out] at hO; obtain ⟨Ar, cr, rfl, _, _⟩ := hO.form; have hR := hid (hO.mono rB.out.size); have t1 := hid (r1.out.below hb3 r1.out.lt); have t2 := hid (r2.out.below hb3 r2.out.lt); have t3 := hid (r3.out.below hb3); have tB := hid (rB.out.trans (hb3.mono rB.out.size)); clear hO hb3 r1 r2 r3 rB cS)
            | ((with_reducible refine gate (N := 37) rfl ?_); refine appM rfl _ _ rfl w.heap.size _ (tabA m l n s ++ tabA I l n q) rfl t3.out tB.out.size _ (permZ I l q n) hR.out hR.out.oneCell rfl (by have := hml.out; omega) ?_; intro gn cap w4 hM4 hb4 hold; have y1 := hid (show MB w4 34 w.heap.size m from World.rowIs.of_block t1.out (hold _ t1.out.lt (t3.out.neMB t1.out))); have y2 := hid (show MB w4 34 w1.heap.size I from World.rowIs.of_block t2.out (hold _ t2.out.lt (t3.out.neMB t2.out))); have y3 := hid hM4; have yB := hid (tB.out.trans hb4); clear hM4 hb4 hold t1 t2 t3 tB hR))
          go_roundw
          case rel => exact ⟨q + 1, by omega, by go_num, y1.out, y2.out, by rw [hsn.out, ← List.append_assoc]; have h := y3.out; rw [List.length_append] at h; exact h, yB.out⟩
          case measure => simp [intOf]; omega
        · obtain rfl : s = q := by omega
          go_wp2
          go_ret
          exact ⟨_, rfl, r3.out, rB.out⟩
end Go.Proofs.Ythempofohidlnaa
