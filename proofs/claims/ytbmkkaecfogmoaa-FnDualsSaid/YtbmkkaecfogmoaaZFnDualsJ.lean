/- What the proof of FnDuals leans on, part 10 of 26. -/
import Derived.Test.YtbmkkaecfogmoaaZFnDualsI
import Derived.Deep.QuietTactic
import Derived.BigQuiet
/- Lists of lists of numbers, all of a function's own. -/
namespace Go.Proofs.Ytbmkkaecfogmoaa
open Go.RowKit
set_option linter.unusedVariables false
set_option linter.unusedSimpArgs false

theorem info_ints : (Try.prog.info? 29).map (fun i => (i.zero, i.size, i.bytes)) = some (some (.slice none 0 0), 1, 24) := by kernel_rfl

/-- A slice of slices, each with a block of its own. -/
def Mat (w : World) (base : Nat) (v : Value) (M : List (List Int)) : Prop :=
  ∃ rows : List Value, Own w base 29 v rows ∧ rows.length = M.length ∧ ∀ (i : Nat) (r : Value) (l : List Int), rows[i]? = some r → M[i]? = some l → Own w base 2 r (ints l)

theorem Own.ne {w : World} {b b' e e' : Nat} {v v' : Value} {cs cs' : List Value} (h : Own w b e v cs) (h' : Own w b' e' v' cs') (hne : e ≠ e') (k : Nat) (hk : v.ownBlock = some k) : v'.ownBlock ≠ some k := by
  intro hk'
  rcases h.2 with ⟨rfl, _⟩ | ⟨g, cap, cur, rfl, hb, hg, rest⟩
  · cases hk
  · rcases h'.2 with ⟨rfl, _⟩ | ⟨g', cap', cur', rfl, hb', hg', rest'⟩
    · cases hk'
    · have e1 : g = k := by simpa [Value.ownBlock] using hk
      have e2 : g' = k := by simpa [Value.ownBlock] using hk'
      subst e1; subst e2
      rw [hg] at hg'
      injection hg' with hg'
      injection hg' with _ hg' _
      exact hne hg'

/-- A machine's block is none of them. -/
theorem Own.neMB {w : World} {b e t bm : Nat} {v : Value} {cs : List Value} {m : Mach} (h : Own w b e v cs) (hm : MB w t bm m) (hne : e ≠ t) : v.ownBlock ≠ some bm := by
  intro hk
  rcases h.2 with ⟨rfl, _⟩ | ⟨g, cap, cur, rfl, hb, hg, rest⟩
  · cases hk
  · have e1 : g = bm := by simpa [Value.ownBlock] using hk
    subst e1
    have h2 := hm.heap
    rw [hg] at h2
    injection h2 with h2
    injection h2 with _ h2 _
    exact hne h2

section
variable {w w' : World} {base : Nat} {v : Value} {M : List (List Int)}
theorem Mat.nil (w : World) (base : Nat) : Mat w base (.slice none 0 0) [] := ⟨[], Own.nil _ _ _, rfl, fun i r l h => by simp at h⟩
theorem Mat.new (w : World) (base : Nat) (hb : base ≤ w.heap.size) : Mat (w.alloc (.cells #[] 29)) base (.slice (some ⟨w.heap.size, 0, none⟩) 0 0) [] := ⟨[], Own.new _ _ _ hb, rfl, fun i r l h => by simp at h⟩
theorem Mat.below (h : Mat w base v M) (hb : Below w.heap.size w w') : Mat w' base v M := by
  obtain ⟨rows, h1, h2, h3⟩ := h
  exact ⟨rows, h1.below hb, h2, fun i r l hr hl => (h3 i r l hr hl).below hb⟩
theorem Mat.alloc (h : Mat w base v M) (o : Obj) : Mat (w.alloc o) base v M := by
  obtain ⟨rows, h1, h2, h3⟩ := h
  exact ⟨rows, h1.alloc o, h2, fun i r l hr hl => (h3 i r l hr hl).alloc o⟩
theorem Mat.drew (h : Mat w base v M) : Mat w.drew base v M := h
theorem Mat.mono {b' : Nat} (h : Mat w base v M) (hb : b' ≤ base) : Mat w b' v M := by
  obtain ⟨rows, h1, h2, h3⟩ := h
  exact ⟨rows, h1.mono hb, h2, fun i r l hr hl => (h3 i r l hr hl).mono hb⟩
/-- Where all that it has is as it was. -/
theorem Mat.keep (h : Mat w base v M) (hk : ∀ k, base ≤ k → k < w.heap.size → w'.heap[k]? = w.heap[k]?) : Mat w' base v M := by
  obtain ⟨rows, h1, h2, h3⟩ := h
  exact ⟨rows, h1.keep fun k hk' => hk k (h1.lt k hk').1 (h1.lt k hk').2, h2, fun i r l hr hl => (h3 i r l hr hl).keep fun k hk' => hk k ((h3 i r l hr hl).lt k hk').1 ((h3 i r l hr hl).lt k hk').2⟩
/-- Where all but a machine's block is as it was. -/
theorem Mat.keepM {t bm : Nat} {m : Mach} (h : Mat w base v M) (hm : MB w t bm m) (ht : t = 27) (hk : ∀ k, k ≠ bm → w'.heap[k]? = w.heap[k]?) : Mat w' base v M := by
  subst ht
  obtain ⟨rows, h1, h2, h3⟩ := h
  exact ⟨rows, h1.keep fun k hk' => hk k (fun e => h1.neMB hm (by decide) (e ▸ hk')), h2, fun i r l hr hl => (h3 i r l hr hl).keep fun k hk' => hk k (fun e => (h3 i r l hr hl).neMB hm (by decide) (e ▸ hk'))⟩
theorem Mat.neMB {bm : Nat} {m : Mach} (h : Mat w base v M) (hm : MB w 27 bm m) : v.ownBlock ≠ some bm := by
  obtain ⟨rows, h1, _⟩ := h
  exact h1.neMB hm (by decide)
theorem Mat.lt (h : Mat w base v M) : ∀ k, v.ownBlock = some k → base ≤ k ∧ k < w.heap.size := by
  obtain ⟨rows, h1, _⟩ := h
  exact h1.lt
theorem Mat.form (h : Mat w base v M) : ∃ A cap, v = .slice A M.length cap := by
  obtain ⟨rows, h1, h2, _⟩ := h
  obtain ⟨A, cap, hv, _⟩ := h1.form
  exact ⟨A, cap, by rw [hv, h2]⟩
theorem Mat.blk (h : Mat w base v M) (hne : M ≠ []) : ∃ g cap, v = .slice (some ⟨g, 0, none⟩) M.length cap ∧ base ≤ g ∧ g < w.heap.size := by
  obtain ⟨rows, h1, h2, _⟩ := h
  obtain ⟨g, cap, hv, hg⟩ := h1.blk (fun e => hne (List.eq_nil_of_length_eq_zero (by rw [← h2, e]; rfl)))
  exact ⟨g, cap, by rw [hv, h2], hg⟩
/-- One row. -/
theorem Mat.row {g n cap : Nat} (h : Mat w base (.slice (some ⟨g, 0, none⟩) n cap) M) (i : Nat) (l : List Int) (hl : M[i]? = some l) :
    ∃ r, w.cell? ⟨g, i, none⟩ = some r ∧ Own w base 2 r (ints l) := by
  obtain ⟨rows, h1, h2, h3⟩ := h
  have hi : i < rows.length := by rw [h2]; exact (List.getElem?_eq_some_iff.1 hl).1
  obtain ⟨r, hr⟩ : ∃ r, rows[i]? = some r := ⟨_, List.getElem?_eq_getElem hi⟩
  exact ⟨r, h1.cellAt i r hr, h3 i r l hr hl⟩
/-- One row more. -/
theorem Mat.snoc {v' r : Value} {rows : List Value} {l : List Int} (hrows : Own w base 29 v rows) (hlen : rows.length = M.length)
    (hall : ∀ (i : Nat) (r : Value) (l : List Int), rows[i]? = some r → M[i]? = some l → Own w base 2 r (ints l)) (hr : Own w base 2 r (ints l))
    (hnew : Own w' base 29 v' (rows ++ [r])) (hold : ∀ k, k < w.heap.size → v.ownBlock ≠ some k → w'.heap[k]? = w.heap[k]?) : Mat w' base v' (M ++ [l]) := by
  have keep : ∀ {r' : Value} {l' : List Int}, Own w base 2 r' (ints l') → Own w' base 2 r' (ints l') := fun h => h.keep fun k hk => hold k (h.lt k hk).2 (h.ne hrows (by decide) k hk)
  refine ⟨rows ++ [r], hnew, by simp [hlen], fun i r' l' h1 h2 => ?_⟩
  by_cases hi : i < rows.length
  · rw [List.getElem?_append_left hi] at h1
    rw [List.getElem?_append_left (by omega)] at h2
    exact keep (hall i r' l' h1 h2)
  · have hi2 : i = rows.length := by
      have := (List.getElem?_eq_some_iff.1 h1).1
      simp at this; omega
    subst hi2
    rw [List.getElem?_append_right (Nat.le_refl _)] at h1
    rw [List.getElem?_append_right (by omega)] at h2
    simp at h1
    simp [hlen] at h2
    subst h1; subst h2
    exact keep hr
end

/-- One row appended, as the walk meets it: behind the box of the row. -/
theorem appM {ops : Array Oper} {rest : List Oper} {o : Oper} {a : Act} {W : World} {Q : Exit → Act → World → Prop}
    (hgd : o.guard = none) (s x : Operand) (ho : o.op = .call { callee := .builtin .append, args := #[s, x], argTypes := #[43, 43] })
    (base : Nat) (v : Value) (M : List (List Int)) (hs : a.eval s = v) (hmat : Mat W base v M) (hbase : base ≤ W.heap.size) (r : Value) (l : List Int) (hr : Own W base 2 r (ints l)) (hr1 : r.oneCell' = true)
    (hx : a.eval x = .slice (some ⟨W.heap.size, 0, none⟩) 1 1) (hlen : M.length ≤ 1000000000)
    (h : ∀ g cap w', Mat w' base (.slice (some ⟨g, 0, none⟩) (M.length + 1) cap) (M ++ [l]) → Below base W w' → (∀ k, k < W.heap.size → v.ownBlock ≠ some k → w'.heap[k]? = W.heap[k]?) →
      wpList Try.prog ops Q rest (a.put o.dst (.slice (some ⟨g, 0, none⟩) (M.length + 1) cap)) w') :
    wpList Try.prog ops Q (o :: rest) a (W.alloc (.cells #[r] 29)) := by
  obtain ⟨rows, h1, h2, h3⟩ := hmat
  refine app1 43 29 (.slice none 0 0) 24 Try.underlying43 info_ints rfl (by omega) hgd s x ho base v rows hs h1 hbase r hr1 hx (by omega) ?_
  intro g cap w' k1 k2 k3 _ _
  rw [h2] at k1 ⊢
  exact h g cap w' (Mat.snoc h1 h2 h3 hr k1 k3) k2 k3
theorem Own.oneCell {w : World} {b e : Nat} {v : Value} {cs : List Value} (h : Own w b e v cs) : v.oneCell' = true := by
  rcases h.2 with ⟨rfl, _⟩ | ⟨g, cap, cur, rfl, _⟩ <;> rfl

/-- A level as numbers. -/
def permZ (m : Mach) (d q n : Nat) : List Int := (perm m d q n).map Int.ofNat
theorem permZ_length (m : Mach) (d q n : Nat) : (permZ m d q n).length = pw d n := by simp [permZ, perm_length]
theorem permZ_get (m : Mach) (d q n k : Nat) (hk : k < pw d n) : (permZ m d q n)[k]? = some ((pf m d q n k : Nat) : Int) := by simp [permZ, perm_pf, hk]

/-- What all states make of a level, and their inverses. -/
def tabA (m : Mach) (d n s : Nat) : List (List Int) := (List.range s).map fun q => permZ m d q n
theorem tabA_snoc (m : Mach) (d n s : Nat) : tabA m d n (s + 1) = tabA m d n s ++ [permZ m d s n] := by simp [tabA, List.range_succ]
theorem tabA_length (m : Mach) (d n s : Nat) : (tabA m d n s).length = s := by simp [tabA]
theorem tabA_get (m : Mach) (d n s q : Nat) (h : q < s) : (tabA m d n s)[q]? = some (permZ m d q n) := by simp [tabA, h]

set_option maxHeartbeats 2000000 in
set_option maxRecDepth 100000 in
theorem l05Tables_any (w : World) (m : Mach) (l s : Nat) (g : Good m l s) (hk : m.Ok) (n : Nat) (hn : n ≤ 40) (hb : pw l n ≤ 100000) :
    Calls Try.prog 94 #[.agg (mcells m), .int .i64 n] w fun e w' => ∃ v, e = .returned v ∧ Mat w' w.heap.size v (tabA m l n s ++ tabA (inv m l s) l n s) ∧ Below w.heap.size w w' := by
  have hM := hid ((MB.new w m 27).alloc (.cells #[] 29))
  have hB := hid (below_alloc (below_alloc (Below.refl w.heap.size w) (Nat.le_refl _) (.cells (mcells m) 27)) (Nat.le_refl _) (.cells #[] 29))
  have hT := Mat.new (w.alloc (.cells (mcells m) 27)) w.heap.size (by rw [heap_alloc_size]; omega)
  rw [heap_alloc_size] at hT
  replace hT := hid hT
  have hz := zeroM_run
  have h0 := hid (fun w' : World => MB.new w' zeroM 27)
  have gS := hid g.S
  have s16 := g.s16
  have hinv := hid (fun W => l01Inverse_any W m l s g hk)
  have hlev := hid (fun q (hq : q < s) W => l01Level_any W m l s g q hq n hn hb)
  have hlevi := hid (fun q (hq : q < s) W => l01Level_any W (inv m l s) l s (inv_good g) q hq n hn hb)
  have hnz := hid (fun m q => nats_ints (perm m l q n))
  generalize hI : inv m l s = I at *
  replace hI := hid hI
  replace g := hid g
  replace hk := hid hk
  generalize mcells zeroM = zs at *
  go_enter Try.func94, Try.ntmps94
  go_wp2_with (first
    | ((with_reducible refine gate (N := 10) rfl ?_); refine load_mach rfl _ rfl w.heap.size rfl m hM.out ?_)
    | (go_at_call 156; (with_reducible refine (hinv.out _).mono ?_); rintro e w1 ⟨rfl, hb1⟩; have hM1 := hid ((hM.out.below hb1 hM.out.lt).alloc (.cells zs 27)); have hlt := hid (hM.out.below hb1 hM.out.lt).lt; have hT1 := hid ((hT.out.below hb1).alloc (.cells zs 27)); have hB1 := hid (hB.out.trans (hb1.mono hB.out.size)); have hB1a := hid (below_alloc hB1.out (Nat.le_refl _) (.cells zs 27)); clear hb1 hM hT hB hinv)
    | ((with_reducible refine gateOp (op := .store 27 (.tmp 6) (.tmp 11)) rfl ?_); refine store_mach rfl _ _ rfl w1.heap.size rfl I rfl 27 _ (h0.out w1) ?_; intro w2 hV ho hsz hbl; have hV2 := hid hV; have hM2 := hid (show MB w2 27 w.heap.size m from World.rowIs.of_block hM1.out (ho _ (by have := hlt.out; omega))); have hB2 := hid (hbl _ _ hB1.out.size hB1a.out); have hT2 := hid (hT1.out.keepM (h0.out w1) rfl ho); clear hV ho hsz hbl hM1 hB1 hB1a hT1))
  go_loopw [5, 7] (fun v i wr => ∃ q : Nat, q ≤ s ∧ i = .int .i64 q ∧ MB wr 27 w.heap.size m ∧ MB wr 27 w1.heap.size I ∧ Mat wr w.heap.size v (tabA m l n q) ∧ Below w.heap.size w wr) (fun _ i _ => s - (intOf i).toNat)
  case atStart => exact ⟨0, Nat.zero_le _, rfl, hM2.out, hV2.out, hT2.out, hB2.out⟩
  case round =>
    obtain ⟨q, hq, rfl, r1, r2, r3, rB⟩ := hrel
    have cS := r1.cS
    rw [gS.out] at cS
    have hml := hid (show (tabA m l n q).length ≤ s + s by (try rw [List.length_append]); (try rw [tabA_length]); (try rw [tabA_length]); omega)
    replace r1 := hid r1; replace r2 := hid r2; replace r3 := hid r3; replace rB := hid rB
    by_cases hlq : q < s
    · have dq : decide ((q : Int) < (s : Int)) = true := decide_eq_true (by omega)
      have hsn := hid (tabA_snoc m l n q)
      go_wp2_with (first
        | ((with_reducible refine gate (N := 19) rfl ?_); refine load_mach rfl _ rfl w.heap.size rfl m r1.out ?_)
        | (go_at_call 197; (with_reducible refine (hlev.out q hlq _).mono ?_); rintro e w3 ⟨r, rfl, hO, hb3⟩; rw [hnz.out] at hO; obtain ⟨Ar, cr, rfl, _, _⟩ := hO.form; have hR := hid (hO.mono rB.out.size); have t1 := hid (r1.out.below hb3 r1.out.lt); have t2 := hid (r2.out.below hb3 r2.out.lt); have t3 := hid (r3.out.below hb3); have tB := hid (rB.out.trans (hb3.mono rB.out.size)); clear hO hb3 r1 r2 r3 rB cS)
        | ((with_reducible refine gate (N := 24) rfl ?_); refine appM rfl _ _ rfl w.heap.size _ (tabA m l n q) rfl t3.out tB.out.size _ (permZ m l q n) hR.out hR.out.oneCell rfl (by have := hml.out; omega) ?_; intro gn cap w4 hM4 hb4 hold; have y1 := hid (show MB w4 27 w.heap.size m from World.rowIs.of_block t1.out (hold _ t1.out.lt (t3.out.neMB t1.out))); have y2 := hid (show MB w4 27 w1.heap.size I from World.rowIs.of_block t2.out (hold _ t2.out.lt (t3.out.neMB t2.out))); have y3 := hid hM4; have yB := hid (tB.out.trans hb4); clear hM4 hb4 hold t1 t2 t3 tB hR))
      go_roundw
      case rel => exact ⟨q + 1, by omega, by go_num, y1.out, y2.out, by rw [hsn.out]; exact y3.out, yB.out⟩
      case measure => simp [intOf]; omega
    · obtain rfl : s = q := by omega
      clear hml hlq hq
      go_wp2
      go_loopw [5, 8] (fun v i wr => ∃ q : Nat, q ≤ s ∧ i = .int .i64 q ∧ MB wr 27 w.heap.size m ∧ MB wr 27 w1.heap.size I ∧ Mat wr w.heap.size v (tabA m l n s ++ tabA I l n q) ∧ Below w.heap.size w wr) (fun _ i _ => s - (intOf i).toNat)
      case atStart => exact ⟨0, Nat.zero_le _, rfl, r1.out, r2.out, by rw [show tabA I l n 0 = [] from rfl, List.append_nil]; exact r3.out, rB.out⟩
      case round =>
        obtain ⟨q, hq, rfl, r1, r2, r3, rB⟩ := hrel
        have cS := r1.cS
        rw [gS.out] at cS
        have hml := hid (show (tabA m l n s ++ tabA I l n q).length ≤ s + s by (try rw [List.length_append]); (try rw [tabA_length]); (try rw [tabA_length]); omega)
        replace r1 := hid r1; replace r2 := hid r2; replace r3 := hid r3; replace rB := hid rB
        by_cases hlq : q < s
        · have dq : decide ((q : Int) < (s : Int)) = true := decide_eq_true (by omega)
          have hsn := hid (tabA_snoc I l n q)
          go_wp2_with (first
            | ((with_reducible refine gate (N := 32) rfl ?_); refine load_mach rfl _ rfl w1.heap.size rfl I r2.out ?_)
            | (go_at_call 197; (with_reducible refine (hlevi.out q hlq _).mono ?_); rintro e w3 ⟨r, rfl, hO, hb3⟩; rw [hnz.out] at hO; obtain ⟨Ar, cr, rfl, _, _⟩ := hO.form; have hR := hid (hO.mono rB.out.size); have t1 := hid (r1.out.below hb3 r1.out.lt); have t2 := hid (r2.out.below hb3 r2.out.lt); have t3 := hid (r3.out.below hb3); have tB := hid (rB.out.trans (hb3.mono rB.out.size)); clear hO hb3 r1 r2 r3 rB cS)
            | ((with_reducible refine gate (N := 37) rfl ?_); refine appM rfl _ _ rfl w.heap.size _ (tabA m l n s ++ tabA I l n q) rfl t3.out tB.out.size _ (permZ I l q n) hR.out hR.out.oneCell rfl (by have := hml.out; omega) ?_; intro gn cap w4 hM4 hb4 hold; have y1 := hid (show MB w4 27 w.heap.size m from World.rowIs.of_block t1.out (hold _ t1.out.lt (t3.out.neMB t1.out))); have y2 := hid (show MB w4 27 w1.heap.size I from World.rowIs.of_block t2.out (hold _ t2.out.lt (t3.out.neMB t2.out))); have y3 := hid hM4; have yB := hid (tB.out.trans hb4); clear hM4 hb4 hold t1 t2 t3 tB hR))
          go_roundw
          case rel => exact ⟨q + 1, by omega, by go_num, y1.out, y2.out, by rw [hsn.out, ← List.append_assoc]; have h := y3.out; rw [List.length_append] at h; exact h, yB.out⟩
          case measure => simp [intOf]; omega
        · obtain rfl : s = q := by omega
          go_wp2
          go_ret
          exact ⟨_, rfl, r3.out, rB.out⟩
end Go.Proofs.Ytbmkkaecfogmoaa

/- What a call holds of its memory: parts that lie apart, carried as one fact. -/
namespace Go.Proofs.Ytbmkkaecfogmoaa
open Go.RowKit
set_option linter.unusedVariables false
set_option linter.unusedSimpArgs false

/-- A part of the memory: the blocks that it has, and what they hold. -/
structure Asn where
  foot : Nat → Prop
  holds : World → Prop
  keep : ∀ {w w' : World}, holds w → (∀ k, foot k → w'.heap[k]? = w.heap[k]?) → holds w'
  lt : ∀ {w : World}, holds w → ∀ k, foot k → k < w.heap.size

def Asn.own (base e : Nat) (v : Value) (cs : List Value) : Asn := ⟨fun k => v.ownBlock = some k, fun w => Own w base e v cs, fun h hk => h.keep hk, fun h k hk => (h.lt k hk).2⟩
def Asn.mb (t b : Nat) (m : Mach) : Asn := ⟨fun k => k = b, fun w => MB w t b m, fun h hk => World.rowIs.of_block h (hk b rfl), fun h k hk => hk ▸ h.lt⟩
def Asn.blk (b : Nat) (cs : Array Value) (t : Nat) : Asn := ⟨fun k => k = b, fun w => w.heap[b]? = some (.cells cs t (0, 0)), fun h hk => (hk b rfl).trans h, fun h k hk => hk ▸ (Array.getElem?_eq_some_iff.1 h).1⟩
/-- A slice of slices of numbers. -/
def Asn.mat (base : Nat) (v : Value) (rows : List Value) (M : List (List Int)) : Asn :=
  ⟨fun k => v.ownBlock = some k ∨ ∃ r ∈ rows, r.ownBlock = some k,
   fun w => Own w base 29 v rows ∧ rows.length = M.length ∧ ∀ (i : Nat) (r : Value) (l : List Int), rows[i]? = some r → M[i]? = some l → Own w base 2 r (ints l),
   fun h hk => ⟨h.1.keep fun k hk' => hk k (.inl hk'), h.2.1, fun i r l hr hl => (h.2.2 i r l hr hl).keep fun k hk' => hk k (.inr ⟨r, List.mem_of_getElem? hr, hk'⟩)⟩,
   fun h k hk => by
    rcases hk with hk | ⟨r, hr, hk⟩
    · exact (h.1.lt k hk).2
    · obtain ⟨i, hi, rfl⟩ := List.getElem_of_mem hr
      exact ((h.2.2 i _ _ (List.getElem?_eq_getElem hi) (List.getElem?_eq_getElem (by rw [← h.2.1]; exact hi))).lt k hk).2⟩

def Foot : List Asn → Nat → Prop
  | [], _ => False
  | a :: L, k => a.foot k ∨ Foot L k
def Star : List Asn → World → Prop
  | [], _ => True
  | a :: L, w => a.holds w ∧ (∀ k, a.foot k → ¬ Foot L k) ∧ Star L w

section
variable {w w' w0 : World} {L : List Asn} {a a' b c d e f g : Asn} {base : Nat}
theorem Star.lt : ∀ {L : List Asn}, Star L w → ∀ k, Foot L k → k < w.heap.size
  | [], _, _, h => h.elim
  | a :: L, h, k, hk => hk.elim (fun hk => a.lt h.1 k hk) (fun hk => Star.lt h.2.2 k hk)
theorem Star.keep : ∀ {L : List Asn}, Star L w → (∀ k, Foot L k → w'.heap[k]? = w.heap[k]?) → Star L w'
  | [], _, _ => trivial
  | a :: L, h, hk => ⟨a.keep h.1 fun k h' => hk k (.inl h'), h.2.1, Star.keep h.2.2 fun k h' => hk k (.inr h')⟩

/-- What a call holds: what was there below 'base' is as it was, and the parts lie apart. -/
structure St (base : Nat) (w0 : World) (L : List Asn) (w : World) : Prop where
  bel : Below base w0 w
  le : base ≤ w.heap.size
  star : Star L w

theorem St.start (w0 : World) : St w0.heap.size w0 [] w0 := ⟨Below.refl _ _, Nat.le_refl _, trivial⟩
theorem St.alloc (h : St base w0 L w) (o : Obj) : St base w0 L (w.alloc o) :=
  ⟨h.bel.alloc h.le o, by rw [heap_alloc_size]; exact Nat.le_succ_of_le h.le, h.star.keep fun k hk => Below.heap_alloc w o k (h.star.lt k hk)⟩
theorem St.drew (h : St base w0 L w) : St base w0 L w.drew := ⟨h.bel.drew, h.le, h.star.keep fun _ _ => rfl⟩
theorem St.drewN (h : St base w0 L w) (n : Nat) : St base w0 L (w.drewN n) := ⟨below_drewN h.bel n, h.le, h.star.keep fun _ _ => rfl⟩
theorem St.call (h : St base w0 L w) (hb : Below w.heap.size w w') : St base w0 L w' :=
  ⟨h.bel.trans (hb.mono h.le), Nat.le_trans h.le hb.size, h.star.keep fun k hk => hb.block k (h.star.lt k hk)⟩
theorem St.push (h : St base w0 L w) (ha : a.holds w) (hf : ∀ k, a.foot k → ¬ Foot L k) : St base w0 (a :: L) w := ⟨h.bel, h.le, ha, hf, h.star⟩
/-- A new part that a callee made. -/
theorem St.callPush (h : St base w0 L w) (hb : Below w.heap.size w w') (ha : a.holds w') (hf : ∀ k, a.foot k → w.heap.size ≤ k) : St base w0 (a :: L) w' :=
  (h.call hb).push ha fun k hk hL => by have h1 := h.star.lt k hL; have h2 := hf k hk; omega
theorem St.callOwn {t : Nat} {v : Value} {cs : List Value} (h : St base w0 L w) (hb : Below w.heap.size w w') (ha : Own w' w.heap.size t v cs) : St base w0 (Asn.own base t v cs :: L) w' :=
  h.callPush (a := Asn.own base t v cs) hb (ha.mono h.le) fun k hk => (ha.lt k hk).1
/-- A new block. -/
theorem St.allocPush (h : St base w0 L w) (o : Obj) (ha : a.holds (w.alloc o)) (hf : ∀ k, a.foot k → k = w.heap.size) : St base w0 (a :: L) (w.alloc o) :=
  (h.alloc o).push ha fun k hk hL => by have h1 := h.star.lt k hL; have h2 := hf k hk; omega
theorem St.newBlk (h : St base w0 L w) (cs : Array Value) (t : Nat) : St base w0 (Asn.blk w.heap.size cs t :: L) (w.alloc (.cells cs t)) :=
  h.allocPush (a := Asn.blk w.heap.size cs t) _ (heap_alloc_new w _) fun _ hk => hk
theorem St.newMB (h : St base w0 L w) (m : Mach) (t : Nat) : St base w0 (Asn.mb t w.heap.size m :: L) (w.alloc (.cells (mcells m) t)) :=
  h.allocPush (a := Asn.mb t w.heap.size m) _ (MB.new w m t) fun _ hk => hk
theorem St.nilOwn (h : St base w0 L w) (t : Nat) : St base w0 (Asn.own base t (.slice none 0 0) [] :: L) w := h.push (a := Asn.own base t _ []) (Own.nil _ _ _) fun k hk => by cases hk
theorem St.newOwn (h : St base w0 L w) (cs : List Value) (t : Nat) (hm : cs.length ≤ 1000000) : St base w0 (Asn.own base t (.slice (some ⟨w.heap.size, 0, none⟩) cs.length cs.length) cs :: L) (w.alloc (.cells cs.toArray t)) :=
  h.allocPush (a := Asn.own base t _ cs) _ (Own.lit w base t cs h.le hm) fun k hk => by
    have : w.heap.size = k := by simpa [Asn.own, Value.ownBlock] using hk
    exact this.symm
theorem St.newArr (h : St base w0 L w) (cs : Array Value) (n : Nat) (hn : cs.size = n) (t : Nat) (hm : n ≤ 1000000) : St base w0 (Asn.own base t (.slice (some ⟨w.heap.size, 0, none⟩) n n) cs.toList :: L) (w.alloc (.cells cs t)) := by
  subst hn
  have := h.newOwn cs.toList t (by rw [Array.length_toList]; exact hm)
  rw [Array.length_toList] at this
  exact this
/-- The part at hand turned: it has what it had, or new blocks; the rest is as it was. -/
theorem St.turn (h : St base w0 (a :: L) w) (ha : a'.holds w') (hf : ∀ k, a'.foot k → a.foot k ∨ w.heap.size ≤ k) (hb : ∀ k, a.foot k → base ≤ k)
    (hs : Below base w w') (hk : ∀ k, k < w.heap.size → ¬ a.foot k → w'.heap[k]? = w.heap[k]?) : St base w0 (a' :: L) w' :=
  ⟨h.bel.trans hs, Nat.le_trans h.le hs.size, ha, fun k hk' hL => by
    rcases hf k hk' with h1 | h1
    · exact h.star.2.1 k h1 hL
    · have := h.star.2.2.lt k hL; omega,
   h.star.2.2.keep fun k hL => hk k (h.star.2.2.lt k hL) fun h1 => h.star.2.1 k h1 hL⟩
theorem St.drop (h : St base w0 (a :: L) w) : St base w0 L w := ⟨h.bel, h.le, h.star.2.2⟩
theorem St.nothing (h : St base w0 L w) : St base w0 [] w := ⟨h.bel, h.le, trivial⟩
/-! Which part is at hand: 'fI' brings number I to the front, 'bI' lays the front at I. -/
theorem St.f1 (h : St base w0 (a :: b :: L) w) : St base w0 (b :: a :: L) w :=
  ⟨h.bel, h.le, h.star.2.2.1, fun k hk hL => hL.elim (fun ha => h.star.2.1 k ha (.inl hk)) (fun hL => h.star.2.2.2.1 k hk hL), h.star.1, fun k hk hL => h.star.2.1 k hk (.inr hL), h.star.2.2.2.2⟩
theorem St.under {L' : List Asn} (h : St base w0 (a :: L) w) (hL : St base w0 L w → St base w0 L' w) (hF : ∀ k, Foot L' k → Foot L k) : St base w0 (a :: L') w :=
  ⟨h.bel, h.le, h.star.1, fun k hk h' => h.star.2.1 k hk (hF k h'), (hL h.drop).star⟩
theorem foot1 {k : Nat} (h : Foot (b :: a :: L) k) : Foot (a :: b :: L) k := h.elim (fun h => .inr (.inl h)) fun h => h.elim .inl fun h => .inr (.inr h)
theorem St.s1 (h : St base w0 (a :: b :: c :: L) w) : St base w0 (a :: c :: b :: L) w := h.under (fun h => h.f1) fun _ h => foot1 h
theorem foot_under {L L' : List Asn} {k : Nat} (hL : Foot L' k → Foot L k) (h : Foot (a :: L') k) : Foot (a :: L) k := h.imp id hL
theorem St.s2 (h : St base w0 (a :: b :: c :: d :: L) w) : St base w0 (a :: b :: d :: c :: L) w := h.under (fun h => h.s1) fun _ h => foot_under foot1 h
theorem St.s3 (h : St base w0 (a :: b :: c :: d :: e :: L) w) : St base w0 (a :: b :: c :: e :: d :: L) w := h.under (fun h => h.s2) fun _ h => foot_under (foot_under foot1) h
theorem St.s4 (h : St base w0 (a :: b :: c :: d :: e :: f :: L) w) : St base w0 (a :: b :: c :: d :: f :: e :: L) w := h.under (fun h => h.s3) fun _ h => foot_under (foot_under (foot_under foot1)) h
theorem St.s5 (h : St base w0 (a :: b :: c :: d :: e :: f :: g :: L) w) : St base w0 (a :: b :: c :: d :: e :: g :: f :: L) w := h.under (fun h => h.s4) fun _ h => foot_under (foot_under (foot_under (foot_under foot1))) h
theorem St.f2 (h : St base w0 (a :: b :: c :: L) w) : St base w0 (c :: a :: b :: L) w := h.s1.f1
theorem St.f3 (h : St base w0 (a :: b :: c :: d :: L) w) : St base w0 (d :: a :: b :: c :: L) w := h.s2.f2
theorem St.f4 (h : St base w0 (a :: b :: c :: d :: e :: L) w) : St base w0 (e :: a :: b :: c :: d :: L) w := h.s3.f3
theorem St.f5 (h : St base w0 (a :: b :: c :: d :: e :: f :: L) w) : St base w0 (f :: a :: b :: c :: d :: e :: L) w := h.s4.f4
theorem St.f6 (h : St base w0 (a :: b :: c :: d :: e :: f :: g :: L) w) : St base w0 (g :: a :: b :: c :: d :: e :: f :: L) w := h.s5.f5
theorem St.b2 (h : St base w0 (c :: a :: b :: L) w) : St base w0 (a :: b :: c :: L) w := h.f1.s1
theorem St.b3 (h : St base w0 (d :: a :: b :: c :: L) w) : St base w0 (a :: b :: c :: d :: L) w := h.b2.s2
theorem St.b4 (h : St base w0 (e :: a :: b :: c :: d :: L) w) : St base w0 (a :: b :: c :: d :: e :: L) w := h.b3.s3
theorem St.b5 (h : St base w0 (f :: a :: b :: c :: d :: e :: L) w) : St base w0 (a :: b :: c :: d :: e :: f :: L) w := h.b4.s4
theorem St.b6 (h : St base w0 (g :: a :: b :: c :: d :: e :: f :: L) w) : St base w0 (a :: b :: c :: d :: e :: f :: g :: L) w := h.b5.s5
theorem St.g0 (h : St base w0 (a :: L) w) : a.holds w := h.star.1
theorem St.g1 (h : St base w0 (a :: b :: L) w) : b.holds w := h.star.2.2.1
theorem St.g2 (h : St base w0 (a :: b :: c :: L) w) : c.holds w := h.star.2.2.2.2.1
theorem St.g3 (h : St base w0 (a :: b :: c :: d :: L) w) : d.holds w := h.star.2.2.2.2.2.2.1
theorem St.g4 (h : St base w0 (a :: b :: c :: d :: e :: L) w) : e.holds w := h.star.2.2.2.2.2.2.2.2.1
theorem St.g5 (h : St base w0 (a :: b :: c :: d :: e :: f :: L) w) : f.holds w := h.star.2.2.2.2.2.2.2.2.2.2.1
theorem St.g6 (h : St base w0 (a :: b :: c :: d :: e :: f :: g :: L) w) : g.holds w := h.star.2.2.2.2.2.2.2.2.2.2.2.2.1
theorem St.m0 {t bm : Nat} {m : Mach} (h : St base w0 (Asn.mb t bm m :: L) w) : MB w t bm m := h.g0
theorem St.o0 {bs t : Nat} {v : Value} {cs : List Value} (h : St base w0 (Asn.own bs t v cs :: L) w) : Own w bs t v cs := h.g0
theorem St.k0 {bn t : Nat} {cs : Array Value} (h : St base w0 (Asn.blk bn cs t :: L) w) : w.heap[bn]? = some (.cells cs t (0, 0)) := h.g0
theorem St.m1 {t bm : Nat} {m : Mach} (h : St base w0 (a :: Asn.mb t bm m :: L) w) : MB w t bm m := h.g1
theorem St.o1 {bs t : Nat} {v : Value} {cs : List Value} (h : St base w0 (a :: Asn.own bs t v cs :: L) w) : Own w bs t v cs := h.g1
theorem St.k1 {bn t : Nat} {cs : Array Value} (h : St base w0 (a :: Asn.blk bn cs t :: L) w) : w.heap[bn]? = some (.cells cs t (0, 0)) := h.g1
theorem St.m2 {t bm : Nat} {m : Mach} (h : St base w0 (a :: b :: Asn.mb t bm m :: L) w) : MB w t bm m := h.g2
theorem St.o2 {bs t : Nat} {v : Value} {cs : List Value} (h : St base w0 (a :: b :: Asn.own bs t v cs :: L) w) : Own w bs t v cs := h.g2
theorem St.k2 {bn t : Nat} {cs : Array Value} (h : St base w0 (a :: b :: Asn.blk bn cs t :: L) w) : w.heap[bn]? = some (.cells cs t (0, 0)) := h.g2
theorem St.m3 {t bm : Nat} {m : Mach} (h : St base w0 (a :: b :: c :: Asn.mb t bm m :: L) w) : MB w t bm m := h.g3
theorem St.o3 {bs t : Nat} {v : Value} {cs : List Value} (h : St base w0 (a :: b :: c :: Asn.own bs t v cs :: L) w) : Own w bs t v cs := h.g3
theorem St.k3 {bn t : Nat} {cs : Array Value} (h : St base w0 (a :: b :: c :: Asn.blk bn cs t :: L) w) : w.heap[bn]? = some (.cells cs t (0, 0)) := h.g3
theorem St.m4 {t bm : Nat} {m : Mach} (h : St base w0 (a :: b :: c :: d :: Asn.mb t bm m :: L) w) : MB w t bm m := h.g4
theorem St.o4 {bs t : Nat} {v : Value} {cs : List Value} (h : St base w0 (a :: b :: c :: d :: Asn.own bs t v cs :: L) w) : Own w bs t v cs := h.g4
theorem St.k4 {bn t : Nat} {cs : Array Value} (h : St base w0 (a :: b :: c :: d :: Asn.blk bn cs t :: L) w) : w.heap[bn]? = some (.cells cs t (0, 0)) := h.g4
theorem St.m5 {t bm : Nat} {m : Mach} (h : St base w0 (a :: b :: c :: d :: e :: Asn.mb t bm m :: L) w) : MB w t bm m := h.g5
theorem St.o5 {bs t : Nat} {v : Value} {cs : List Value} (h : St base w0 (a :: b :: c :: d :: e :: Asn.own bs t v cs :: L) w) : Own w bs t v cs := h.g5
theorem St.k5 {bn t : Nat} {cs : Array Value} (h : St base w0 (a :: b :: c :: d :: e :: Asn.blk bn cs t :: L) w) : w.heap[bn]? = some (.cells cs t (0, 0)) := h.g5
/-- From an outer view to an inner one: what is kept from here on. -/
theorem St.inner (h : St base w0 L w) (hlt : base ≤ w.heap.size) : St w.heap.size w [] w := St.start w
theorem St.outer (h : St base w0 L w) {L' : List Asn} (h' : St w.heap.size w L' w') : St base w0 L w' := h.call h'.bel

/-- The one part at hand, turned by a callee that leaves all below 'base' as it was. -/
theorem St.only (h : St base w0 [a] w) (ha : a'.holds w') (hb : Below base w w') : St base w0 [a'] w' :=
  ⟨h.bel.trans hb, Nat.le_trans h.le hb.size, ha, fun _ _ hF => hF, trivial⟩

/-! Steps. -/
theorem St.setBlk {bn : Nat} {cs : Array Value} {t : Nat} (h : St base w0 (Asn.blk bn cs t :: L) w) (hb : base ≤ bn) (i : Nat) (u : Value) : St base w0 (Asn.blk bn (cs.setIfInBounds i u) t :: L) (w.setCell ⟨bn, i, none⟩ u) :=
  h.turn (a' := Asn.blk bn (cs.setIfInBounds i u) t) (heap_setCell_same w bn i _ _ _ h.star.1) (fun k hk => .inl hk) (fun k hk => (show k = bn from hk) ▸ hb) ((Below.refl _ _).setCell hb u)
    fun k _ hk => heap_setCell_other w ⟨bn, i, none⟩ k u hk
theorem St.setOwn {t gn n cap : Nat} {cs : List Value} (h : St base w0 (Asn.own base t (.slice (some ⟨gn, 0, none⟩) n cap) cs :: L) w) (hn : cs.length = n) (i : Nat) (u : Value) (hi : i < n) : St base w0 (Asn.own base t (.slice (some ⟨gn, 0, none⟩) n cap) (cs.set i u) :: L) (w.setCell ⟨gn, i, none⟩ u) :=
  have hb : base ≤ gn := ((show Own w base t _ cs from h.star.1).lt gn rfl).1
  h.turn (a' := Asn.own base t _ (cs.set i u)) (Own.set h.star.1 hn i u hi) (fun k hk => .inl hk) (fun k hk => ((show Own w base t _ cs from h.star.1).lt k hk).1) ((Below.refl _ _).setCell hb u)
    fun k _ hk => heap_setCell_other w ⟨gn, i, none⟩ k u fun e => hk (show Value.ownBlock _ = some k by rw [e]; rfl)
theorem St.setNx {t bn : Nat} {m : Mach} (h : St base w0 (Asn.mb t bn m :: L) w) (hb : base ≤ bn) (q x v : Nat) (hq : q < 16) (hx : x < 3) : St base w0 (Asn.mb t bn { m with nx := upd m.nx (q * 3 + x) v } :: L) (w.setCell ⟨bn, 2 + q * 3 + x, none⟩ (.int .u8 (v : Nat))) :=
  h.turn (a' := Asn.mb t bn _) (MB.setNx h.star.1 q x v hq hx) (fun k hk => .inl hk) (fun k hk => (show k = bn from hk) ▸ hb) ((Below.refl _ _).setCell hb _) fun k _ hk => heap_setCell_other w ⟨bn, _, none⟩ k _ hk
theorem St.setOt {t bn : Nat} {m : Mach} (h : St base w0 (Asn.mb t bn m :: L) w) (hb : base ≤ bn) (q x v : Nat) (hq : q < 16) (hx : x < 3) : St base w0 (Asn.mb t bn { m with ot := upd m.ot (q * 3 + x) v } :: L) (w.setCell ⟨bn, 50 + q * 3 + x, none⟩ (.int .u8 (v : Nat))) :=
  h.turn (a' := Asn.mb t bn _) (MB.setOt h.star.1 q x v hq hx) (fun k hk => .inl hk) (fun k hk => (show k = bn from hk) ▸ hb) ((Below.refl _ _).setCell hb _) fun k _ hk => heap_setCell_other w ⟨bn, _, none⟩ k _ hk
theorem St.setM {t bn : Nat} {m m' : Mach} (h : St base w0 (Asn.mb t bn m :: L) w) (hb : base ≤ bn) (p : MB w' t bn m') (ho : ∀ k, k ≠ bn → w'.heap[k]? = w.heap[k]?) (hbl : ∀ (B : Nat) (a : World), B ≤ bn → Below B a w → Below B a w') : St base w0 (Asn.mb t bn m' :: L) w' :=
  h.turn (a' := Asn.mb t bn m') p (fun k hk => .inl hk) (fun k hk => (show k = bn from hk) ▸ hb) (hbl base w hb (Below.refl _ _)) fun k _ hk => ho k hk
/-- Behind an append of one element. -/
theorem St.appd {t gn n cap : Nat} {v : Value} {cs cs' : List Value} (h : St base w0 (Asn.own base t v cs :: L) w) (hO : Own w' base t (.slice (some ⟨gn, 0, none⟩) n cap) cs') (hb : Below base w w') (hold : ∀ k, k < w.heap.size → v.ownBlock ≠ some k → w'.heap[k]? = w.heap[k]?)
    (hg : v.ownBlock = some gn ∨ w.heap.size ≤ gn) : St base w0 (Asn.own base t (.slice (some ⟨gn, 0, none⟩) n cap) cs' :: L) w' :=
  h.turn (a' := Asn.own base t _ cs') hO (fun k hk => by
    have e : gn = k := by simpa [Asn.own, Value.ownBlock] using hk
    subst e
    exact hg) (fun k hk => ((show Own w base t v cs from h.star.1).lt k hk).1) hb fun k hk hne => hold k hk hne
/-- A row appended to a slice of slices; the row's part goes into it. -/
theorem St.appdM {gn n cap : Nat} {v r : Value} {rows : List Value} {M : List (List Int)} {l : List Int} (h : St base w0 (Asn.mat base v rows M :: Asn.own base 2 r (ints l) :: L) w)
    (hO : Own w' base 29 (.slice (some ⟨gn, 0, none⟩) n cap) (rows ++ [r])) (hb : Below base w w') (hold : ∀ k, k < w.heap.size → v.ownBlock ≠ some k → w'.heap[k]? = w.heap[k]?)
    (hg : v.ownBlock = some gn ∨ w.heap.size ≤ gn) : St base w0 (Asn.mat base (.slice (some ⟨gn, 0, none⟩) n cap) (rows ++ [r]) (M ++ [l]) :: L) w' := by
  obtain ⟨⟨h1, h2, h3⟩, hf, hr, hf2, hL⟩ := h.star
  have keepR : ∀ (i : Nat) (r' : Value) (l' : List Int), rows[i]? = some r' → M[i]? = some l' → Own w' base 2 r' (ints l') := fun i r' l' hr' hl' =>
    (h3 i r' l' hr' hl').keep fun k hk => hold k ((h3 i r' l' hr' hl').lt k hk).2 ((h3 i r' l' hr' hl').ne h1 (by decide) k hk)
  have keepN : Own w' base 2 r (ints l) := Own.keep hr fun k hk => hold k (Own.lt hr k hk).2 (Own.ne hr h1 (by decide) k hk)
  have hold2 : ∀ k, k < w.heap.size → ¬ v.ownBlock = some k → w'.heap[k]? = w.heap[k]? := hold
  refine ⟨h.bel.trans hb, Nat.le_trans h.le hb.size, ⟨hO, by simp [h2], fun i r' l' e1 e2 => ?_⟩, fun k hk hF => ?_, hL.keep fun k hk => hold2 k (hL.lt k hk) fun e => hf k (.inl e) (.inr hk)⟩
  · by_cases hi : i < rows.length
    · rw [List.getElem?_append_left hi] at e1
      rw [List.getElem?_append_left (by omega)] at e2
      exact keepR i r' l' e1 e2
    · have hi2 : i = rows.length := by
        have := (List.getElem?_eq_some_iff.1 e1).1
        simp at this; omega
      subst hi2
      rw [List.getElem?_append_right (Nat.le_refl _)] at e1
      rw [List.getElem?_append_right (by omega)] at e2
      simp at e1
      simp [h2] at e2
      subst e1; subst e2
      exact keepN
  · have hlt := hL.lt k hF
    rcases hk with hk | ⟨r', hr', hk⟩
    · have e : gn = k := by simpa [Value.ownBlock] using hk
      subst e
      rcases hg with hg | hg
      · exact hf gn (.inl hg) (.inr hF)
      · omega
    · rcases List.mem_append.1 hr' with hr' | hr'
      · exact hf k (.inr ⟨r', hr', hk⟩) (.inr hF)
      · rw [List.mem_singleton.1 hr'] at hk
        exact hf2 k hk hF
end

section
variable {ops : Array Oper} {rest : List Oper} {o : Oper} {act : Act} {W w0 : World} {Q : Exit → Act → World → Prop} {L : List Asn} {base : Nat}
/-- One number appended to the part at hand, as the walk meets it (behind its box). -/
theorem St.app (t e : TypeId) (z : Value) (bytes : Nat)
    (ht : Try.prog.underlying t = some (.slice e)) (hinfo : (Try.prog.info? e).map (fun i => (i.zero, i.size, i.bytes)) = some (some z, 1, bytes)) (hz : z.cells.size = 1) (hb : bytes ≤ 64)
    (hgd : o.guard = none) (s x : Operand) (ho : o.op = .call { callee := .builtin .append, args := #[s, x], argTypes := #[t, t] })
    (v : Value) (cs : List Value) (hs : act.eval s = v) (hS : St base w0 (Asn.own base e v cs :: L) W) (c : Value) (hc1 : c.oneCell' = true)
    (hx : act.eval x = .slice (some ⟨W.heap.size, 0, none⟩) 1 1) (n : Nat) (hn : cs.length = n) (hlen : n ≤ 1000000000)
    (h : ∀ g cap w', St base w0 (Asn.own base e (.slice (some ⟨g, 0, none⟩) (n + 1) cap) (cs ++ [c]) :: L) w' → wpList Try.prog ops Q rest (act.put o.dst (.slice (some ⟨g, 0, none⟩) (n + 1) cap)) w') :
    wpList Try.prog ops Q (o :: rest) act (W.alloc (.cells #[c] e)) := by
  subst hn
  refine app1 t e z bytes ht hinfo hz hb hgd s x ho base v cs hs hS.star.1 hS.le c hc1 hx hlen ?_
  intro g cap w' h1 h2 h3 h4 h5
  exact h g cap w' (hS.appd h1 h2 h3 (h5.imp id Nat.le_of_lt))
/-- A row appended. -/
theorem St.appM (hgd : o.guard = none) (s x : Operand) (ho : o.op = .call { callee := .builtin .append, args := #[s, x], argTypes := #[43, 43] })
    (v r : Value) (rows : List Value) (M : List (List Int)) (l : List Int) (hs : act.eval s = v) (hS : St base w0 (Asn.mat base v rows M :: Asn.own base 2 r (ints l) :: L) W)
    (hx : act.eval x = .slice (some ⟨W.heap.size, 0, none⟩) 1 1) (n : Nat) (hn : M.length = n) (hlen : n ≤ 1000000000)
    (h : ∀ g cap w', St base w0 (Asn.mat base (.slice (some ⟨g, 0, none⟩) (n + 1) cap) (rows ++ [r]) (M ++ [l]) :: L) w' → wpList Try.prog ops Q rest (act.put o.dst (.slice (some ⟨g, 0, none⟩) (n + 1) cap)) w') :
    wpList Try.prog ops Q (o :: rest) act (W.alloc (.cells #[r] 29)) := by
  have hl := hS.star.1.2.1
  obtain rfl : rows.length = n := hl.trans hn
  have hr1 : r.oneCell' = true := Own.oneCell hS.star.2.2.1
  refine app1 43 29 (.slice none 0 0) 24 Try.underlying43 info_ints rfl (by omega) hgd s x ho base v rows hs hS.star.1.1 hS.le r hr1 hx hlen ?_
  intro g cap w' h1 h2 h3 h4 h5
  exact h g cap w' (hS.appdM h1 h2 h3 (h5.imp id Nat.le_of_lt))
end
section
variable {ops : Array Oper} {o : Oper} {act : Act} {W w0 : World} {K : Act → World → Prop} {Q : Exit → Act → World → Prop} {E : Prop} {L : List Asn} {base : Nat}
/-- One element appended at a step of a region that draws: it lies in a box. -/
theorem St.step1 (t e tb : TypeId) (z : Value) (bytes : Nat)
    (ht : Try.prog.underlying t = some (.slice e)) (hinfo : (Try.prog.info? e).map (fun i => (i.zero, i.size, i.bytes)) = some (some z, 1, bytes)) (hz : z.cells.size = 1) (hb : bytes ≤ 64)
    (hgd : o.guard = none) (s x : Operand) (ho : o.op = .call { callee := .builtin .append, args := #[s, x], argTypes := #[t, t] })
    (v : Value) (cs : List Value) (hs : act.eval s = v) {B : Nat} {c : Value} (hS : St base w0 (Asn.own base e v cs :: Asn.blk B #[c] tb :: L) W) (hc1 : c.oneCell' = true)
    (hx : act.eval x = .slice (some ⟨B, 0, none⟩) 1 1) (n : Nat) (hn : cs.length = n) (hlen : n ≤ 1000000)
    (h : ∀ g cap w', St base w0 (Asn.own base e (.slice (some ⟨g, 0, none⟩) (n + 1) cap) (cs ++ [c]) :: Asn.blk B #[c] tb :: L) w' → K (act.put o.dst (.slice (some ⟨g, 0, none⟩) (n + 1) cap)) w') :
    if Region.wanted o (yielded ops act.tmps) = true then Oper.wp Try.prog o act W K Q else E := by
  subst hn
  have hB : W.cell? ⟨B, 0, none⟩ = some c := cell_of_row W B 0 _ _ _ hS.star.2.2.1
  refine step_app1 t e z bytes ht hinfo hz hb hgd s x ho base v cs hs hS.star.1 hS.le B c hc1 hB hx (by omega) ?_
  intro g cap w' h1 h2 h3 h4
  exact h g cap w' (hS.appd h1 h2 h3 (h4.imp id (fun e => Nat.le_of_eq e.symm)))
/-- A row appended at a step of a region that draws: it lies in a box. -/
theorem St.stepM (tb : TypeId) (hgd : o.guard = none) (s x : Operand) (ho : o.op = .call { callee := .builtin .append, args := #[s, x], argTypes := #[43, 43] })
    (v r : Value) (rows : List Value) (M : List (List Int)) (l : List Int) (hs : act.eval s = v) {B : Nat} (hS : St base w0 (Asn.mat base v rows M :: Asn.own base 2 r (ints l) :: Asn.blk B #[r] tb :: L) W) (B' : Nat)
    (hx : act.eval x = .slice (some ⟨B, 0, none⟩) 1 1) (n : Nat) (hn : M.length = n) (hlen : n ≤ 1000000)
    (h : ∀ g cap w', St base w0 (Asn.mat base (.slice (some ⟨g, 0, none⟩) (n + 1) cap) (rows ++ [r]) (M ++ [l]) :: Asn.blk B #[r] tb :: L) w' → K (act.put o.dst (.slice (some ⟨g, 0, none⟩) (n + 1) cap)) w') :
    if Region.wanted o (yielded ops act.tmps) = true then Oper.wp Try.prog o act W K Q else E := by
  have hl := hS.star.1.2.1
  obtain rfl : rows.length = n := hl.trans hn
  have hr1 : r.oneCell' = true := Own.oneCell hS.star.2.2.1
  have hB : W.cell? ⟨B, 0, none⟩ = some r := cell_of_row W B 0 _ _ _ hS.star.2.2.2.2.1
  refine step_app1 43 29 (.slice none 0 0) 24 Try.underlying43 info_ints rfl (by omega) hgd s x ho base v rows hs hS.star.1.1 hS.le B r hr1 hB hx (by omega) ?_
  intro g cap w' h1 h2 h3 h4
  exact h g cap w' (hS.appdM h1 h2 h3 (h4.imp id (fun e => Nat.le_of_eq e.symm)))
end
/-- One row of a slice of slices. -/
theorem Asn.row {base g n cap : Nat} {rows : List Value} {M : List (List Int)} {w : World} (h : (Asn.mat base (.slice (some ⟨g, 0, none⟩) n cap) rows M).holds w) (i : Nat) (l : List Int) (hl : M[i]? = some l) :
    ∃ r, w.cell? ⟨g, i, none⟩ = some r ∧ Own w base 2 r (ints l) := by
  have hi : i < rows.length := by rw [h.2.1]; exact (List.getElem?_eq_some_iff.1 hl).1
  obtain ⟨r, hr⟩ : ∃ r, rows[i]? = some r := ⟨_, List.getElem?_eq_getElem hi⟩
  exact ⟨r, h.1.cellAt i r hr, h.2.2 i r l hr hl⟩
theorem Asn.ofMat {w : World} {base : Nat} {v : Value} {M : List (List Int)} (h : Mat w base v M) : ∃ rows, (Asn.mat base v rows M).holds w := h
theorem Asn.toMat {w : World} {base : Nat} {v : Value} {M : List (List Int)} {rows : List Value} (h : (Asn.mat base v rows M).holds w) : Mat w base v M := ⟨rows, h⟩
theorem Asn.mat_ge {w : World} {base : Nat} {v : Value} {M : List (List Int)} {rows : List Value} (h : (Asn.mat base v rows M).holds w) : ∀ k, (Asn.mat base v rows M).foot k → base ≤ k := fun k hk => by
  rcases hk with hk | ⟨r, hr, hk⟩
  · exact (h.1.lt k hk).1
  · obtain ⟨i, hi, rfl⟩ := List.getElem_of_mem hr
    exact ((h.2.2 i _ _ (List.getElem?_eq_getElem hi) (List.getElem?_eq_getElem (by rw [← h.2.1]; exact hi))).lt k hk).1
theorem St.callMat {base : Nat} {w0 w w' : World} {L : List Asn} {v : Value} {M : List (List Int)} (h : St base w0 L w) (hb : Below w.heap.size w w') (ha : Mat w' w.heap.size v M) : ∃ rows, St base w0 (Asn.mat base v rows M :: L) w' := by
  obtain ⟨rows, hr⟩ := Asn.ofMat ha
  exact ⟨rows, h.callPush (a := Asn.mat base v rows M) hb ⟨hr.1.mono h.le, hr.2.1, fun i r l h1 h2 => (hr.2.2 i r l h1 h2).mono h.le⟩ fun k hk => Asn.mat_ge hr k hk⟩
end Go.Proofs.Ytbmkkaecfogmoaa

/- Tables: a machine as lists of rows, made by the program. -/
namespace Go.Proofs.Ytbmkkaecfogmoaa
open Go.RowKit
set_option linter.unusedVariables false
set_option linter.unusedSimpArgs false

def rwI (f : Nat → Nat → Nat) (q L : Nat) : List Int := (List.range L).map fun x => ((f q x : Nat) : Int)
theorem rwI_snoc (f : Nat → Nat → Nat) (q L : Nat) : rwI f q (L + 1) = rwI f q L ++ [((f q L : Nat) : Int)] := by simp [rwI, List.range_succ]
theorem rwI_length (f : Nat → Nat → Nat) (q L : Nat) : (rwI f q L).length = L := by simp [rwI]
theorem rwI_get (f : Nat → Nat → Nat) (q L x : Nat) (h : x < L) : (rwI f q L)[x]? = some ((f q x : Nat) : Int) := by simp [rwI, h]
def tbL (f : Nat → Nat → Nat) (n L : Nat) : List (List Int) := (List.range n).map fun q => rwI f q L
theorem tbL_snoc (f : Nat → Nat → Nat) (n L : Nat) : tbL f (n + 1) L = tbL f n L ++ [rwI f n L] := by simp [tbL, List.range_succ]
theorem tbL_length (f : Nat → Nat → Nat) (n L : Nat) : (tbL f n L).length = n := by simp [tbL]
theorem tbL_get (f : Nat → Nat → Nat) (n L q : Nat) (h : q < n) : (tbL f n L)[q]? = some (rwI f q L) := by simp [tbL, h]

/-- A machine as a table. -/
def tabOf (m : Mach) (l s : Nat) : Tab := ⟨s, l, fun q x => m.nx (q * 3 + x), fun q x => m.ot (q * 3 + x)⟩
theorem tabOf_ok {m : Mach} {l s : Nat} (g : Good m l s) : (tabOf m l s).Ok := ⟨g.s1, fun q x hq hx => g.nx q x hq hx⟩

/-- A table in its block. -/
def TB (w : World) (G : Nat) (vN vO : Value) (T : Tab) : Prop :=
  w.heap[G]? = some (.cells #[vN, vO] 189 (0, 0)) ∧ Mat w G vN (tbL T.nx T.n T.L) ∧ Mat w G vO (tbL T.ot T.n T.L)
section
variable {w w' : World} {G : Nat} {vN vO : Value} {T : Tab}
theorem TB.lt (h : TB w G vN vO T) : G < w.heap.size := (Array.getElem?_eq_some_iff.1 h.1).1
theorem TB.below (h : TB w G vN vO T) (hb : Below w.heap.size w w') : TB w' G vN vO T := ⟨(hb.block G h.lt).trans h.1, h.2.1.below hb, h.2.2.below hb⟩
theorem TB.c0 (h : TB w G vN vO T) : w.cell? ⟨G, 0, none⟩ = some vN := cell_of_row w G 0 _ _ _ h.1
theorem TB.c1 (h : TB w G vN vO T) : w.cell? ⟨G, 1, none⟩ = some vO := cell_of_row w G 1 _ _ _ h.1
end

set_option maxHeartbeats 4000000 in
set_option maxRecDepth 100000 in
theorem table_any (b : Nat) (w : World) (m : Mach) (hm : MB w 27 b m) (l s : Nat) (g : Good m l s) :
    Calls Try.prog 82 #[.pointer (some ⟨b, 0, none⟩)] w fun e w' => ∃ vN vO, e = .returned (.pointer (some ⟨w.heap.size, 0, none⟩)) ∧ TB w' w.heap.size vN vO (tabOf m l s) ∧ Below w.heap.size w w' := by
  have hblt := hm.lt
  have cS := (hm.alloc (.cells #[.slice none 0 0, .slice none 0 0] 189)).cS
  rw [g.S] at cS
  have gL := hid g.L
  have l2 := g.l2
  have l3 := g.l3
  have s16 := g.s16
  have hlt256 := hid (fun q x (hq : q < s) (hx : x < l) => (show m.nx (q * 3 + x) < 256 ∧ m.ot (q * 3 + x) < 256 from ⟨by have := g.nx q x hq hx; omega, by have := g.ot q x hq hx; omega⟩))
  have hS := (St.start w).newBlk #[.slice none 0 0, .slice none 0 0] 189
  have hS2 := hid (show St w.heap.size w [Asn.blk w.heap.size #[.slice none 0 0, .slice none 0 0] 189, Asn.mat w.heap.size (.slice none 0 0) [] [], Asn.mat w.heap.size (.slice none 0 0) [] []] _ from
    ((hS.push (a := Asn.mat w.heap.size (.slice none 0 0) [] []) ⟨Own.nil _ _ _, rfl, fun i r l h => by simp at h⟩ (fun k hk => by rcases hk with hk | ⟨r, hr, _⟩ <;> simp [Value.ownBlock] at *)).push (a := Asn.mat w.heap.size (.slice none 0 0) [] []) ⟨Own.nil _ _ _, rfl, fun i r l h => by simp at h⟩ (fun k hk => by rcases hk with hk | ⟨r, hr, _⟩ <;> simp [Value.ownBlock] at *)).f2)
  clear hS
  have hS := hS2
  clear hS2
  have hnx : (fun q x => m.nx (q * 3 + x)) = (tabOf m l s).nx := rfl
  have hot : (fun q x => m.ot (q * 3 + x)) = (tabOf m l s).ot := rfl
  replace hm := hid hm
  replace g := hid g
  replace hnx := hid hnx; replace hot := hid hot
  generalize hN : (fun q x => m.nx (q * 3 + x)) = fN at *
  generalize hO : (fun q x => m.ot (q * 3 + x)) = fO at *
  have eN := hid (fun q x => (show fN q x = m.nx (q * 3 + x) by rw [← hN]))
  have eO := hid (fun q x => (show fO q x = m.ot (q * 3 + x) by rw [← hO]))
  clear hN hO
  go_enter Try.func82, Try.ntmps82
  go_wp2
  clear cS
  go_loopw [14] (fun i wr => ∃ q : Nat, q ≤ s ∧ i = .int .i64 q ∧ ∃ vN vO rN rO, St w.heap.size w [Asn.blk w.heap.size #[vN, vO] 189, Asn.mat w.heap.size vN rN (tbL fN q l), Asn.mat w.heap.size vO rO (tbL fO q l)] wr) (fun i _ => s - (intOf i).toNat)
  case atStart => exact ⟨0, Nat.zero_le _, rfl, _, _, _, _, hS.out⟩
  case round =>
    obtain ⟨q, hq, rfl, vN, vO, rN, rO, rS⟩ := hrel
    clear hS
    have cL := (hm.out.below rS.bel hblt).cL
    rw [gL.out] at cL
    have rS2 := hid ((rS.nilOwn 2).nilOwn 2)
    replace rS := hid rS
    by_cases hqs : q < s
    · go_wp2
      clear cL
      go_loopw [5, 6, 21] (fun a b i wr => ∃ x : Nat, x ≤ l ∧ i = .int .i64 x ∧ St w.heap.size w [Asn.own w.heap.size 2 a (ints (rwI fN q x)), Asn.own w.heap.size 2 b (ints (rwI fO q x)), Asn.blk w.heap.size #[vN, vO] 189, Asn.mat w.heap.size vN rN (tbL fN q l), Asn.mat w.heap.size vO rO (tbL fO q l)] wr) (fun _ _ i _ => l - (intOf i).toNat)
      case atStart => exact ⟨0, Nat.zero_le _, rfl, rS2.out⟩
      case round =>
        obtain ⟨x, hx, rfl, yS⟩ := hrel
        clear rS rS2
        replace yS := hid yS
        have hlN := hid (show (ints (rwI fN q x)).length = x by rw [ints_length, rwI_length])
        have hlO := hid (show (ints (rwI fO q x)).length = x by rw [ints_length, rwI_length])
        by_cases hxl : x < l
        · have hn := hid (fun W hW => next_any b W m hW q x (by omega) (by omega) (hlt256.out q x hqs hxl).1)
          have ho := hid (fun W hW => out_any b W m hW q x (by omega) (by omega) (hlt256.out q x hqs hxl).2)
          have hsN := hid (rwI_snoc fN q x)
          have hsO := hid (rwI_snoc fO q x)
          rw [← eN.out q x] at hn
          rw [← eO.out q x] at ho
          go_wp2_with (first
            | (go_at_call 184; (with_reducible refine (hn.out _ (hm.out.below yS.out.bel hblt)).mono ?_); rintro e w3 ⟨rfl, rfl⟩)
            | (go_at_call 185; (with_reducible refine (ho.out _ (hm.out.below yS.out.bel hblt)).mono ?_); rintro e w3 ⟨rfl, rfl⟩)
            | ((with_reducible refine gate (N := 30) rfl ?_); refine St.app 29 2 (.int .i64 0) 8 Try.underlying29 info_i64 rfl (by omega) rfl _ _ rfl _ _ rfl yS.out _ rfl rfl x hlN.out (by omega) ?_; intro gn cn w4 yS'; replace yS := hid yS'.f1; clear yS')
            | ((with_reducible refine gate (N := 37) rfl ?_); refine St.app 29 2 (.int .i64 0) 8 Try.underlying29 info_i64 rfl (by omega) rfl _ _ rfl _ _ rfl yS.out _ rfl rfl x hlO.out (by omega) ?_; intro go co w5 yS'; replace yS := hid yS'.f1; clear yS'))
          go_roundw
          case rel => exact ⟨x + 1, by omega, by go_num, by rw [hsN.out, hsO.out, ints_snoc, ints_snoc]; exact yS.out⟩
          case measure => simp [intOf]; omega
        · obtain rfl : l = x := by omega
          obtain ⟨g1, c1, rfl, _, _⟩ := yS.out.o0.blk (fun e => by have h1 := congrArg List.length e; rw [hlN.out] at h1; simp at h1; omega)
          obtain ⟨g2, c2, rfl, _, _⟩ := yS.out.o1.blk (fun e => by have h1 := congrArg List.length e; rw [hlO.out] at h1; simp at h1; omega)
          rw [hlN.out, hlO.out] at yS ⊢
          have hg := hid yS.out.f2.s2.s1.s3
          have hle := hid (Nat.le_refl w.heap.size)
          have hsN := hid (tbL_snoc fN q l)
          have hsO := hid (tbL_snoc fO q l)
          clear yS
          go_upto_region 11 with (fail)
          have hg' := hid hg.out.drew; clear hg; have hg := hg'; clear hg'
          refine wp_region_heldL (L := [(8, (fun w' : World => w'.cell? ⟨w.heap.size, 0, none⟩ = some vN)), (15, (fun w' : World => w'.cell? ⟨w.heap.size, 1, none⟩ = some vO))]) (by kernel_rfl) (HeldL.cons (fun _ => (cell_of_row _ _ 0 _ _ _ hg.out.k0)) (HeldL.cons (fun _ => (cell_of_row _ _ 1 _ _ _ hg.out.k0)) HeldL.nil)) (fun hHeld => ?_)
          generalize wr.drew = wd at *
          refine wpAnyL_take0 (i := 0) (v := ?_) rfl (by kernel_rfl) (by kernel_rfl) (by kernel_rfl) (by rfl) (fun _ _ _ h => h) (Or.inl ⟨by rfl, ?_⟩) (by assumption) ?_
          rotate_left
          · (intro W _; go_simp; (with_reducible rfl))
          intro hHeld'
          clear hHeld; have hHeld := hHeld'; clear hHeld'
          try simp only [Act.put, List.setIfInBounds_toArray, List.set_cons_zero, List.set_cons_succ]
          refine wpAnyL_take0 (i := 1) (v := ?_) rfl (by kernel_rfl) (by kernel_rfl) (by kernel_rfl) (by rfl) (fun _ _ _ h => h) (Or.inl ⟨by rfl, ?_⟩) (by assumption) ?_
          rotate_left
          · (intro W _; go_simp; (with_reducible rfl))
          intro hHeld'
          clear hHeld; have hHeld := hHeld'; clear hHeld'
          try simp only [Act.put, List.setIfInBounds_toArray, List.set_cons_zero, List.set_cons_succ]
          refine wpAnyL_take0 (i := 2) (v := ?_) rfl (by kernel_rfl) (by kernel_rfl) (by kernel_rfl) (by rfl) (fun _ _ _ h => h) (Or.inl ⟨by rfl, ?_⟩) (by assumption) ?_
          rotate_left
          · (intro W _; go_simp; (with_reducible rfl))
          intro hHeld'
          clear hHeld; have hHeld := hHeld'; clear hHeld'
          try simp only [Act.put, List.setIfInBounds_toArray, List.set_cons_zero, List.set_cons_succ]
          refine wpAnyL_take0 (i := 3) (v := ?_) rfl (by kernel_rfl) (by kernel_rfl) (by kernel_rfl) (by rfl) (fun _ _ _ h => h) (Or.inl ⟨by rfl, ?_⟩) (by assumption) ?_
          rotate_left
          · (intro W _; go_simp; (with_reducible rfl))
          intro hHeld'
          clear hHeld; have hHeld := hHeld'; clear hHeld'
          try simp only [Act.put, List.setIfInBounds_toArray, List.set_cons_zero, List.set_cons_succ]
          refine wpAnyL_take0 (i := 4) (v := ?_) rfl (by kernel_rfl) (by kernel_rfl) (by kernel_rfl) (by rfl) (fun _ _ _ h => h) (Or.inl ⟨by rfl, ?_⟩) (by assumption) ?_
          rotate_left
          · (intro W _; go_simp; (with_reducible rfl))
          intro hHeld'
          clear hHeld; have hHeld := hHeld'; clear hHeld'
          try simp only [Act.put, List.setIfInBounds_toArray, List.set_cons_zero, List.set_cons_succ]
          refine wpAnyL_takeT (i := 5) 8 (v := vN) (fun w' : World => w'.cell? ⟨w.heap.size, 0, none⟩ = some vN) rfl rfl (by kernel_rfl) (by kernel_rfl) (by kernel_rfl) (by rfl) (by decide +kernel) (by decide +kernel) (by decide +kernel) (by simp) (fun _ _ _ h => h) (Or.inl ⟨by rfl, ?_⟩) (by assumption) ?_
          · (intro W hW; (try dsimp only at hW); go_simp)
          intro hHeld'
          clear hHeld; have hHeld := hHeld'; clear hHeld'
          try simp only [Act.put, List.setIfInBounds_toArray, List.set_cons_zero, List.set_cons_succ]
          refine wpAnyL_take0 (i := 6) (v := ?_) rfl (by kernel_rfl) (by kernel_rfl) (by kernel_rfl) (by rfl) (fun _ _ _ h => h) (Or.inl ⟨by rfl, ?_⟩) (by assumption) ?_
          rotate_left
          · (intro W _; go_simp; (with_reducible rfl))
          intro hHeld'
          clear hHeld; have hHeld := hHeld'; clear hHeld'
          try simp only [Act.put, List.setIfInBounds_toArray, List.set_cons_zero, List.set_cons_succ]
          refine wpAnyL_take0 (i := 9) (v := ?_) rfl (by kernel_rfl) (by kernel_rfl) (by kernel_rfl) (by rfl) (fun _ _ _ h => h) (Or.inl ⟨by rfl, ?_⟩) (by assumption) ?_
          rotate_left
          · (intro W _; go_simp; (with_reducible rfl))
          intro hHeld'
          clear hHeld; have hHeld := hHeld'; clear hHeld'
          try simp only [Act.put, List.setIfInBounds_toArray, List.set_cons_zero, List.set_cons_succ]
          refine wpAnyL_take0 (i := 10) (v := ?_) rfl (by kernel_rfl) (by kernel_rfl) (by kernel_rfl) (by rfl) (fun _ _ _ h => h) (Or.inl ⟨by rfl, ?_⟩) (by assumption) ?_
          rotate_left
          · (intro W _; go_simp; (with_reducible rfl))
          intro hHeld'
          clear hHeld; have hHeld := hHeld'; clear hHeld'
          try simp only [Act.put, List.setIfInBounds_toArray, List.set_cons_zero, List.set_cons_succ]
          refine wpAnyL_take0 (i := 11) (v := ?_) rfl (by kernel_rfl) (by kernel_rfl) (by kernel_rfl) (by rfl) (fun _ _ _ h => h) (Or.inl ⟨by rfl, ?_⟩) (by assumption) ?_
          rotate_left
          · (intro W _; go_simp; (with_reducible rfl))
          intro hHeld'
          clear hHeld; have hHeld := hHeld'; clear hHeld'
          try simp only [Act.put, List.setIfInBounds_toArray, List.set_cons_zero, List.set_cons_succ]
          refine wpAnyL_takeT (i := 12) 15 (v := vO) (fun w' : World => w'.cell? ⟨w.heap.size, 1, none⟩ = some vO) rfl rfl (by kernel_rfl) (by kernel_rfl) (by kernel_rfl) (by rfl) (by decide +kernel) (by decide +kernel) (by decide +kernel) (by simp) (fun _ _ _ h => h) (Or.inl ⟨by rfl, ?_⟩) (by assumption) ?_
          · (intro W hW; (try dsimp only at hW); go_simp)
          intro hHeld'
          clear hHeld; have hHeld := hHeld'; clear hHeld'
          try simp only [Act.put, List.setIfInBounds_toArray, List.set_cons_zero, List.set_cons_succ]
          refine wpAnyL_take0 (i := 13) (v := ?_) rfl (by kernel_rfl) (by kernel_rfl) (by kernel_rfl) (by rfl) (fun _ _ _ h => h) (Or.inl ⟨by rfl, ?_⟩) (by assumption) ?_
          rotate_left
          · (intro W _; go_simp; (with_reducible rfl))
          intro hHeld'
          clear hHeld; have hHeld := hHeld'; clear hHeld'
          try simp only [Act.put, List.setIfInBounds_toArray, List.set_cons_zero, List.set_cons_succ]
          refine wpAnyL_ready (rs := [7, 14]) (by kernel_rfl) (by simp) ?_
          refine AllReadyL.cons rfl (fun K hK => ?_) ?_
          · skip
            go_simp
            have hg' := hid (hg.out.newBlk #[(Value.slice (some ⟨g1, 0, none⟩) l c1)] 29); clear hg; have hg := hg'; clear hg'
            generalize wd.heap.size = bA at *
            generalize wd.alloc (.cells #[(Value.slice (some ⟨g1, 0, none⟩) l c1)] 29) = we at *
            refine hK.out _ _ (HeldL.cons (fun _ => (cell_of_row _ _ 0 _ _ _ hg.out.k1)) (HeldL.cons (fun _ => (cell_of_row _ _ 1 _ _ _ hg.out.k1)) HeldL.nil)) (fun hHeld' => ?_)
            clear hK K hHeld; have hHeld := hHeld'; clear hHeld'
            try simp only [Act.put, List.setIfInBounds_toArray, List.set_cons_zero, List.set_cons_succ]
            refine wpAnyL_ready (rs := [8, 14]) (by kernel_rfl) (by simp) ?_
            refine AllReadyL.cons rfl (fun K hK => ?_) ?_
            · skip
              refine St.stepM 29 rfl _ _ rfl _ _ _ _ _ rfl (hg.out.f2.f3.f1) bA rfl _ (tbL_length _ _ _) (by omega) ?_
              intro ga ca wf hg'
              replace hg := hid hg'.f1.drop; clear hg'
              refine hK.out _ _ (HeldL.cons (fun _ => (cell_of_row _ _ 0 _ _ _ hg.out.k1)) (HeldL.cons (fun _ => (cell_of_row _ _ 1 _ _ _ hg.out.k1)) HeldL.nil)) (fun hHeld' => ?_)
              clear hK K hHeld; have hHeld := hHeld'; clear hHeld'
              try simp only [Act.put, List.setIfInBounds_toArray, List.set_cons_zero, List.set_cons_succ]
              refine wpAnyL_ready (rs := [14]) (by kernel_rfl) (by simp) ?_
              refine AllReadyL.cons rfl (fun K hK => ?_) AllReadyL.nil
              go_simp
              have hg' := hid (hg.out.newBlk #[(Value.slice (some ⟨g2, 0, none⟩) l c2)] 29); clear hg; have hg := hg'; clear hg'
              generalize wf.heap.size = bB at *
              generalize wf.alloc (.cells #[(Value.slice (some ⟨g2, 0, none⟩) l c2)] 29) = wg at *
              refine hK.out _ _ (HeldL.cons (fun _ => (cell_of_row _ _ 0 _ _ _ hg.out.k2)) (HeldL.cons (fun _ => (cell_of_row _ _ 1 _ _ _ hg.out.k2)) HeldL.nil)) (fun hHeld' => ?_)
              clear hK K hHeld; have hHeld := hHeld'; clear hHeld'
              try simp only [Act.put, List.setIfInBounds_toArray, List.set_cons_zero, List.set_cons_succ]
              refine wpAnyL_ready (rs := [15]) (by kernel_rfl) (by simp) ?_
              refine AllReadyL.cons rfl (fun K hK => ?_) AllReadyL.nil
              refine St.stepM 29 rfl _ _ rfl _ _ _ _ _ rfl (hg.out.f3.f4.f1) bB rfl _ (tbL_length _ _ _) (by omega) ?_
              intro gb cb wx hg'
              replace hg := hid hg'.f1.drop; clear hg'
              replace hg := hid hg.out.f2
              refine hK.out _ _ (HeldL.cons (fun _ => (cell_of_row _ _ 0 _ _ _ hg.out.k0)) (HeldL.cons (fun _ => (cell_of_row _ _ 1 _ _ _ hg.out.k0)) HeldL.nil)) (fun hHeld' => ?_)
              clear hK K hHeld; have hHeld := hHeld'; clear hHeld'
              try simp only [Act.put, List.setIfInBounds_toArray, List.set_cons_zero, List.set_cons_succ]
              refine wpAnyL_take0 (i := 16) (v := ?_) rfl (by kernel_rfl) (by kernel_rfl) (by kernel_rfl) (by rfl) (fun _ _ _ h => h) (Or.inl ⟨by rfl, ?_⟩) (by assumption) ?_
              rotate_left
              · (intro W _; go_simp; (with_reducible rfl))
              intro hHeld'
              clear hHeld; have hHeld := hHeld'; clear hHeld'
              try simp only [Act.put, List.setIfInBounds_toArray, List.set_cons_zero, List.set_cons_succ]
              refine wpAnyL_take0 (i := 17) (v := ?_) rfl (by kernel_rfl) (by kernel_rfl) (by kernel_rfl) (by rfl) (fun _ _ _ h => h) (Or.inl ⟨by rfl, ?_⟩) (by assumption) ?_
              rotate_left
              · (intro W _; go_simp; (with_reducible rfl))
              intro hHeld'
              clear hHeld; have hHeld := hHeld'; clear hHeld'
              try simp only [Act.put, List.setIfInBounds_toArray, List.set_cons_zero, List.set_cons_succ]
              have q1 := (cell_of_row _ _ 0 _ _ _ hg.out.k0)
              have q2 := frozen_of_row _ _ 0 _ _ hg.out.k0
              refine wpAnyL_ready (rs := [18]) (by kernel_rfl) (by simp) ?_
              refine AllReadyL.cons rfl (fun K hK => ?_) AllReadyL.nil
              go_simp
              replace hg := hid (hg.out.setBlk (hle.out) 0 (.slice (some ⟨ga, 0, none⟩) (q + 1) ca)); clear q1 q2
              refine hK.out _ _ (HeldL.cons (fun h => absurd h (by decide +kernel)) (HeldL.cons (fun h => absurd h (by decide +kernel)) HeldL.nil)) (fun hHeld' => ?_)
              clear hK K hHeld; have hHeld := hHeld'; clear hHeld'
              try simp only [Act.put, List.setIfInBounds_toArray, List.set_cons_zero, List.set_cons_succ]
              refine wpAnyL_take0 (i := 19) (v := ?_) rfl (by kernel_rfl) (by kernel_rfl) (by kernel_rfl) (by rfl) (fun _ _ _ h => h) (Or.inl ⟨by rfl, ?_⟩) (by assumption) ?_
              rotate_left
              · (intro W _; go_simp; (with_reducible rfl))
              intro hHeld'
              clear hHeld; have hHeld := hHeld'; clear hHeld'
              try simp only [Act.put, List.setIfInBounds_toArray, List.set_cons_zero, List.set_cons_succ]
              refine wpAnyL_take0 (i := 20) (v := ?_) rfl (by kernel_rfl) (by kernel_rfl) (by kernel_rfl) (by rfl) (fun _ _ _ h => h) (Or.inl ⟨by rfl, ?_⟩) (by assumption) ?_
              rotate_left
              · (intro W _; go_simp; (with_reducible rfl))
              intro hHeld'
              clear hHeld; have hHeld := hHeld'; clear hHeld'
              try simp only [Act.put, List.setIfInBounds_toArray, List.set_cons_zero, List.set_cons_succ]
              have q1 := (cell_of_row _ _ 1 _ _ _ hg.out.k0)
              have q2 := frozen_of_row _ _ 1 _ _ hg.out.k0
              refine wpAnyL_ready (rs := [21]) (by kernel_rfl) (by simp) ?_
              refine AllReadyL.cons rfl (fun K hK => ?_) AllReadyL.nil
              go_simp
              replace hg := hid (hg.out.setBlk (hle.out) 1 (.slice (some ⟨gb, 0, none⟩) (q + 1) cb)); clear q1 q2
              refine hK.out _ _ (HeldL.cons (fun h => absurd h (by decide +kernel)) (HeldL.cons (fun h => absurd h (by decide +kernel)) HeldL.nil)) (fun hHeld' => ?_)
              clear hK K hHeld; have hHeld := hHeld'; clear hHeld'
              try simp only [Act.put, List.setIfInBounds_toArray, List.set_cons_zero, List.set_cons_succ]
              refine wpAnyL_done (by kernel_rfl) ?_ _
              replace hg := hid (show St _ _ (Asn.blk w.heap.size #[(.slice (some ⟨ga, 0, none⟩) (q + 1) ca), (.slice (some ⟨gb, 0, none⟩) (q + 1) cb)] 189 :: _) _ from hg.out)
              try simp only [List.setIfInBounds_toArray, List.set_cons_zero, List.set_cons_succ] at hg
              go_wp2
              go_roundw
              case rel => exact ⟨q + 1, by omega, by go_num, _, _, _, _, by rw [hsN.out, hsO.out]; exact hg.out.s1⟩
              case measure => simp [intOf]; omega
            refine AllReadyL.cons rfl (fun K hK => ?_) AllReadyL.nil
            go_simp
            have hg' := hid (hg.out.newBlk #[(Value.slice (some ⟨g2, 0, none⟩) l c2)] 29); clear hg; have hg := hg'; clear hg'
            generalize we.heap.size = bB at *
            generalize we.alloc (.cells #[(Value.slice (some ⟨g2, 0, none⟩) l c2)] 29) = wf at *
            refine hK.out _ _ (HeldL.cons (fun _ => (cell_of_row _ _ 0 _ _ _ hg.out.k2)) (HeldL.cons (fun _ => (cell_of_row _ _ 1 _ _ _ hg.out.k2)) HeldL.nil)) (fun hHeld' => ?_)
            clear hK K hHeld; have hHeld := hHeld'; clear hHeld'
            try simp only [Act.put, List.setIfInBounds_toArray, List.set_cons_zero, List.set_cons_succ]
            refine wpAnyL_ready (rs := [8]) (by kernel_rfl) (by simp) ?_
            refine AllReadyL.cons rfl (fun K hK => ?_) AllReadyL.nil
            refine St.stepM 29 rfl _ _ rfl _ _ _ _ _ rfl (hg.out.f3.f4.f1.s2) bA rfl _ (tbL_length _ _ _) (by omega) ?_
            intro ga ca wg hg'
            replace hg := hid hg'.f1.drop; clear hg'
            refine hK.out _ _ (HeldL.cons (fun _ => (cell_of_row _ _ 0 _ _ _ hg.out.k2)) (HeldL.cons (fun _ => (cell_of_row _ _ 1 _ _ _ hg.out.k2)) HeldL.nil)) (fun hHeld' => ?_)
            clear hK K hHeld; have hHeld := hHeld'; clear hHeld'
            try simp only [Act.put, List.setIfInBounds_toArray, List.set_cons_zero, List.set_cons_succ]
            refine wpAnyL_ready (rs := [15]) (by kernel_rfl) (by simp) ?_
            refine AllReadyL.cons rfl (fun K hK => ?_) AllReadyL.nil
            refine St.stepM 29 rfl _ _ rfl _ _ _ _ _ rfl (hg.out.f3.f4.f1.s2) bB rfl _ (tbL_length _ _ _) (by omega) ?_
            intro gb cb wx hg'
            replace hg := hid hg'.f1.drop; clear hg'
            replace hg := hid hg.out.f2
            refine hK.out _ _ (HeldL.cons (fun _ => (cell_of_row _ _ 0 _ _ _ hg.out.k0)) (HeldL.cons (fun _ => (cell_of_row _ _ 1 _ _ _ hg.out.k0)) HeldL.nil)) (fun hHeld' => ?_)
            clear hK K hHeld; have hHeld := hHeld'; clear hHeld'
            try simp only [Act.put, List.setIfInBounds_toArray, List.set_cons_zero, List.set_cons_succ]
            refine wpAnyL_take0 (i := 16) (v := ?_) rfl (by kernel_rfl) (by kernel_rfl) (by kernel_rfl) (by rfl) (fun _ _ _ h => h) (Or.inl ⟨by rfl, ?_⟩) (by assumption) ?_
            rotate_left
            · (intro W _; go_simp; (with_reducible rfl))
            intro hHeld'
            clear hHeld; have hHeld := hHeld'; clear hHeld'
            try simp only [Act.put, List.setIfInBounds_toArray, List.set_cons_zero, List.set_cons_succ]
            refine wpAnyL_take0 (i := 17) (v := ?_) rfl (by kernel_rfl) (by kernel_rfl) (by kernel_rfl) (by rfl) (fun _ _ _ h => h) (Or.inl ⟨by rfl, ?_⟩) (by assumption) ?_
            rotate_left
            · (intro W _; go_simp; (with_reducible rfl))
            intro hHeld'
            clear hHeld; have hHeld := hHeld'; clear hHeld'
            try simp only [Act.put, List.setIfInBounds_toArray, List.set_cons_zero, List.set_cons_succ]
            have q1 := (cell_of_row _ _ 0 _ _ _ hg.out.k0)
            have q2 := frozen_of_row _ _ 0 _ _ hg.out.k0
            refine wpAnyL_ready (rs := [18]) (by kernel_rfl) (by simp) ?_
            refine AllReadyL.cons rfl (fun K hK => ?_) AllReadyL.nil
            go_simp
            replace hg := hid (hg.out.setBlk (hle.out) 0 (.slice (some ⟨ga, 0, none⟩) (q + 1) ca)); clear q1 q2
            refine hK.out _ _ (HeldL.cons (fun h => absurd h (by decide +kernel)) (HeldL.cons (fun h => absurd h (by decide +kernel)) HeldL.nil)) (fun hHeld' => ?_)
            clear hK K hHeld; have hHeld := hHeld'; clear hHeld'
            try simp only [Act.put, List.setIfInBounds_toArray, List.set_cons_zero, List.set_cons_succ]
            refine wpAnyL_take0 (i := 19) (v := ?_) rfl (by kernel_rfl) (by kernel_rfl) (by kernel_rfl) (by rfl) (fun _ _ _ h => h) (Or.inl ⟨by rfl, ?_⟩) (by assumption) ?_
            rotate_left
            · (intro W _; go_simp; (with_reducible rfl))
            intro hHeld'
            clear hHeld; have hHeld := hHeld'; clear hHeld'
            try simp only [Act.put, List.setIfInBounds_toArray, List.set_cons_zero, List.set_cons_succ]
            refine wpAnyL_take0 (i := 20) (v := ?_) rfl (by kernel_rfl) (by kernel_rfl) (by kernel_rfl) (by rfl) (fun _ _ _ h => h) (Or.inl ⟨by rfl, ?_⟩) (by assumption) ?_
            rotate_left
            · (intro W _; go_simp; (with_reducible rfl))
            intro hHeld'
            clear hHeld; have hHeld := hHeld'; clear hHeld'
            try simp only [Act.put, List.setIfInBounds_toArray, List.set_cons_zero, List.set_cons_succ]
            have q1 := (cell_of_row _ _ 1 _ _ _ hg.out.k0)
            have q2 := frozen_of_row _ _ 1 _ _ hg.out.k0
            refine wpAnyL_ready (rs := [21]) (by kernel_rfl) (by simp) ?_
            refine AllReadyL.cons rfl (fun K hK => ?_) AllReadyL.nil
            go_simp
            replace hg := hid (hg.out.setBlk (hle.out) 1 (.slice (some ⟨gb, 0, none⟩) (q + 1) cb)); clear q1 q2
            refine hK.out _ _ (HeldL.cons (fun h => absurd h (by decide +kernel)) (HeldL.cons (fun h => absurd h (by decide +kernel)) HeldL.nil)) (fun hHeld' => ?_)
            clear hK K hHeld; have hHeld := hHeld'; clear hHeld'
            try simp only [Act.put, List.setIfInBounds_toArray, List.set_cons_zero, List.set_cons_succ]
            refine wpAnyL_done (by kernel_rfl) ?_ _
            replace hg := hid (show St _ _ (Asn.blk w.heap.size #[(.slice (some ⟨ga, 0, none⟩) (q + 1) ca), (.slice (some ⟨gb, 0, none⟩) (q + 1) cb)] 189 :: _) _ from hg.out)
            try simp only [List.setIfInBounds_toArray, List.set_cons_zero, List.set_cons_succ] at hg
            go_wp2
            go_roundw
            case rel => exact ⟨q + 1, by omega, by go_num, _, _, _, _, by rw [hsN.out, hsO.out]; exact hg.out.s1⟩
            case measure => simp [intOf]; omega
          refine AllReadyL.cons rfl (fun K hK => ?_) AllReadyL.nil
          go_simp
          have hg' := hid (hg.out.newBlk #[(Value.slice (some ⟨g2, 0, none⟩) l c2)] 29); clear hg; have hg := hg'; clear hg'
          generalize wd.heap.size = bB at *
          generalize wd.alloc (.cells #[(Value.slice (some ⟨g2, 0, none⟩) l c2)] 29) = we at *
          refine hK.out _ _ (HeldL.cons (fun _ => (cell_of_row _ _ 0 _ _ _ hg.out.k1)) (HeldL.cons (fun _ => (cell_of_row _ _ 1 _ _ _ hg.out.k1)) HeldL.nil)) (fun hHeld' => ?_)
          clear hK K hHeld; have hHeld := hHeld'; clear hHeld'
          try simp only [Act.put, List.setIfInBounds_toArray, List.set_cons_zero, List.set_cons_succ]
          refine wpAnyL_ready (rs := [7]) (by kernel_rfl) (by simp) ?_
          refine AllReadyL.cons rfl (fun K hK => ?_) AllReadyL.nil
          go_simp
          have hg' := hid (hg.out.newBlk #[(Value.slice (some ⟨g1, 0, none⟩) l c1)] 29); clear hg; have hg := hg'; clear hg'
          generalize we.heap.size = bA at *
          generalize we.alloc (.cells #[(Value.slice (some ⟨g1, 0, none⟩) l c1)] 29) = wf at *
          refine hK.out _ _ (HeldL.cons (fun _ => (cell_of_row _ _ 0 _ _ _ hg.out.k2)) (HeldL.cons (fun _ => (cell_of_row _ _ 1 _ _ _ hg.out.k2)) HeldL.nil)) (fun hHeld' => ?_)
          clear hK K hHeld; have hHeld := hHeld'; clear hHeld'
          try simp only [Act.put, List.setIfInBounds_toArray, List.set_cons_zero, List.set_cons_succ]
          refine wpAnyL_ready (rs := [8]) (by kernel_rfl) (by simp) ?_
          refine AllReadyL.cons rfl (fun K hK => ?_) AllReadyL.nil
          refine St.stepM 29 rfl _ _ rfl _ _ _ _ _ rfl (hg.out.f3.f4.f1) bA rfl _ (tbL_length _ _ _) (by omega) ?_
          intro ga ca wg hg'
          replace hg := hid hg'.f1.drop; clear hg'
          refine hK.out _ _ (HeldL.cons (fun _ => (cell_of_row _ _ 0 _ _ _ hg.out.k2)) (HeldL.cons (fun _ => (cell_of_row _ _ 1 _ _ _ hg.out.k2)) HeldL.nil)) (fun hHeld' => ?_)
          clear hK K hHeld; have hHeld := hHeld'; clear hHeld'
          try simp only [Act.put, List.setIfInBounds_toArray, List.set_cons_zero, List.set_cons_succ]
          refine wpAnyL_ready (rs := [15]) (by kernel_rfl) (by simp) ?_
          refine AllReadyL.cons rfl (fun K hK => ?_) AllReadyL.nil
          refine St.stepM 29 rfl _ _ rfl _ _ _ _ _ rfl (hg.out.f3.f4.f1.s2) bB rfl _ (tbL_length _ _ _) (by omega) ?_
          intro gb cb wx hg'
          replace hg := hid hg'.f1.drop; clear hg'
          replace hg := hid hg.out.f2
          refine hK.out _ _ (HeldL.cons (fun _ => (cell_of_row _ _ 0 _ _ _ hg.out.k0)) (HeldL.cons (fun _ => (cell_of_row _ _ 1 _ _ _ hg.out.k0)) HeldL.nil)) (fun hHeld' => ?_)
          clear hK K hHeld; have hHeld := hHeld'; clear hHeld'
          try simp only [Act.put, List.setIfInBounds_toArray, List.set_cons_zero, List.set_cons_succ]
          refine wpAnyL_take0 (i := 16) (v := ?_) rfl (by kernel_rfl) (by kernel_rfl) (by kernel_rfl) (by rfl) (fun _ _ _ h => h) (Or.inl ⟨by rfl, ?_⟩) (by assumption) ?_
          rotate_left
          · (intro W _; go_simp; (with_reducible rfl))
          intro hHeld'
          clear hHeld; have hHeld := hHeld'; clear hHeld'
          try simp only [Act.put, List.setIfInBounds_toArray, List.set_cons_zero, List.set_cons_succ]
          refine wpAnyL_take0 (i := 17) (v := ?_) rfl (by kernel_rfl) (by kernel_rfl) (by kernel_rfl) (by rfl) (fun _ _ _ h => h) (Or.inl ⟨by rfl, ?_⟩) (by assumption) ?_
          rotate_left
          · (intro W _; go_simp; (with_reducible rfl))
          intro hHeld'
          clear hHeld; have hHeld := hHeld'; clear hHeld'
          try simp only [Act.put, List.setIfInBounds_toArray, List.set_cons_zero, List.set_cons_succ]
          have q1 := (cell_of_row _ _ 0 _ _ _ hg.out.k0)
          have q2 := frozen_of_row _ _ 0 _ _ hg.out.k0
          refine wpAnyL_ready (rs := [18]) (by kernel_rfl) (by simp) ?_
          refine AllReadyL.cons rfl (fun K hK => ?_) AllReadyL.nil
          go_simp
          replace hg := hid (hg.out.setBlk (hle.out) 0 (.slice (some ⟨ga, 0, none⟩) (q + 1) ca)); clear q1 q2
          refine hK.out _ _ (HeldL.cons (fun h => absurd h (by decide +kernel)) (HeldL.cons (fun h => absurd h (by decide +kernel)) HeldL.nil)) (fun hHeld' => ?_)
          clear hK K hHeld; have hHeld := hHeld'; clear hHeld'
          try simp only [Act.put, List.setIfInBounds_toArray, List.set_cons_zero, List.set_cons_succ]
          refine wpAnyL_take0 (i := 19) (v := ?_) rfl (by kernel_rfl) (by kernel_rfl) (by kernel_rfl) (by rfl) (fun _ _ _ h => h) (Or.inl ⟨by rfl, ?_⟩) (by assumption) ?_
          rotate_left
          · (intro W _; go_simp; (with_reducible rfl))
          intro hHeld'
          clear hHeld; have hHeld := hHeld'; clear hHeld'
          try simp only [Act.put, List.setIfInBounds_toArray, List.set_cons_zero, List.set_cons_succ]
          refine wpAnyL_take0 (i := 20) (v := ?_) rfl (by kernel_rfl) (by kernel_rfl) (by kernel_rfl) (by rfl) (fun _ _ _ h => h) (Or.inl ⟨by rfl, ?_⟩) (by assumption) ?_
          rotate_left
          · (intro W _; go_simp; (with_reducible rfl))
          intro hHeld'
          clear hHeld; have hHeld := hHeld'; clear hHeld'
          try simp only [Act.put, List.setIfInBounds_toArray, List.set_cons_zero, List.set_cons_succ]
          have q1 := (cell_of_row _ _ 1 _ _ _ hg.out.k0)
          have q2 := frozen_of_row _ _ 1 _ _ hg.out.k0
          refine wpAnyL_ready (rs := [21]) (by kernel_rfl) (by simp) ?_
          refine AllReadyL.cons rfl (fun K hK => ?_) AllReadyL.nil
          go_simp
          replace hg := hid (hg.out.setBlk (hle.out) 1 (.slice (some ⟨gb, 0, none⟩) (q + 1) cb)); clear q1 q2
          refine hK.out _ _ (HeldL.cons (fun h => absurd h (by decide +kernel)) (HeldL.cons (fun h => absurd h (by decide +kernel)) HeldL.nil)) (fun hHeld' => ?_)
          clear hK K hHeld; have hHeld := hHeld'; clear hHeld'
          try simp only [Act.put, List.setIfInBounds_toArray, List.set_cons_zero, List.set_cons_succ]
          refine wpAnyL_done (by kernel_rfl) ?_ _
          replace hg := hid (show St _ _ (Asn.blk w.heap.size #[(.slice (some ⟨ga, 0, none⟩) (q + 1) ca), (.slice (some ⟨gb, 0, none⟩) (q + 1) cb)] 189 :: _) _ from hg.out)
          try simp only [List.setIfInBounds_toArray, List.set_cons_zero, List.set_cons_succ] at hg
          go_wp2
          go_roundw
          case rel => exact ⟨q + 1, by omega, by go_num, _, _, _, _, by rw [hsN.out, hsO.out]; exact hg.out.s1⟩
          case measure => simp [intOf]; omega
    · obtain rfl : s = q := by omega
      have h1 := hid (show TB wr w.heap.size vN vO (tabOf m l s) from ⟨rS.out.k0, ⟨_, by have h := rS.out.g1; rw [hnx.out] at h; exact h⟩, ⟨_, by have h := rS.out.g2; rw [hot.out] at h; exact h⟩⟩)
      go_wp2
      go_ret
      exact ⟨vN, vO, rfl, h1.out, rS.out.bel⟩
end Go.Proofs.Ytbmkkaecfogmoaa

/- The library's searches in slices of numbers: Equal, Index, Contains. -/
namespace Go.Proofs.Ytbmkkaecfogmoaa
open Go.RowKit
set_option linter.unusedVariables false
set_option linter.unusedSimpArgs false

theorem quiet_same {P : Program} {f : FuncId} {args : Array Value} {w : World} {n : Nat} {v : Value} (h : Calls P f args (w.drewN n) fun e w' => e = .returned v ∧ w.drewN n = w') : Calls P f args (w.drewN n) fun e w'' => e = .returned v ∧ ∃ m, w'' = w.drewN m :=
  h.mono fun _ _ ⟨he, hm⟩ => ⟨he, n, hm.symm⟩
theorem drewN_add (w : World) (a b : Nat) : (w.drewN a).drewN b = w.drewN (a + b) := World.drewN_drewN w a b

set_option maxHeartbeats 1000000 in
theorem slEqual_any (w : World) (b1 b2 : Nat) (v1 v2 : Value) (x y : List Int) (h1 : Own w b1 2 v1 (ints x)) (h2 : Own w b2 2 v2 (ints y)) (hx : x.length < 1000000) (hy : y.length < 1000000) (r : Bool) (hr : Tells r (x = y)) :
    Calls Try.prog 192 #[v1, v2] w fun e w' => e = .returned (.bool r) ∧ ∃ d, w' = w.drewN d := by
  replace hr := hid hr
  by_cases hne : x.length = y.length
  · by_cases h0 : x = []
    · subst h0
      have hy0 : y = [] := List.eq_nil_of_length_eq_zero hne.symm
      subst hy0
      have hrt : r = true := hr.out.out.2 rfl
      subst hrt
      obtain ⟨A1, c1, rfl, _, _⟩ := h1.form
      obtain ⟨A2, c2, rfl, _, _⟩ := h2.form
      rw [ints_length]
      clear h1 h2 hr hne
      go_enter Try.func192, Try.ntmps192
      go_wp2
      go_loop [13] (fun i => i = .int .i64 0) (fun _ => 0)
      case atStart => rfl
      case round =>
        obtain rfl := hrel
        go_wp2
        go_ret
        exact ⟨rfl, 0, rfl⟩
    · have hy0 : y ≠ [] := fun e => h0 (List.eq_nil_of_length_eq_zero (by rw [hne, e]; rfl))
      obtain ⟨g1, c1, rfl, _, _⟩ := h1.blk (fun e => h0 (by simpa [ints] using e))
      obtain ⟨g2, c2, rfl, _, _⟩ := h2.blk (fun e => hy0 (by simpa [ints] using e))
      rw [ints_length] at h1 h2 ⊢
      rw [ints_length]
      rw [← hne] at h2 ⊢
      have hgx := hid (fun (k : Nat) (z : Int) (hz : x[k]? = some z) => (show (ints x)[k]? = some (.int .i64 z) by simp [ints, hz]))
      have hgy := hid (fun (k : Nat) (z : Int) (hz : y[k]? = some z) => (show (ints y)[k]? = some (.int .i64 z) by simp [ints, hz]))
      have hlx := hid (show x.length = x.length from rfl)
      replace h1 := hid h1
      replace h2 := hid h2
      replace hne := hid hne
      clear h0 hy0 hlx
      generalize hn : x.length = n at *
      have hn' := hid hn
      clear hn
      have hfalse : (n != n) = false := by simp
      go_enter Try.func192, Try.ntmps192
      go_wp2
      go_loopw [13] (fun i wr => ∃ k d : Nat, k ≤ n ∧ i = .int .i64 k ∧ wr = w.drewN d ∧ Hid (∀ j, j < k → x[j]? = y[j]?)) (fun i _ => n - (intOf i).toNat)
      case atStart => exact ⟨0, 0, Nat.zero_le _, rfl, rfl, fun j hj => by omega⟩
      case round =>
        obtain ⟨k, d, hk, rfl, rfl, hall⟩ := hrel
        by_cases hlt : k < n
        · obtain ⟨a, ha⟩ : ∃ a, x[k]? = some a := ⟨_, List.getElem?_eq_getElem (by have := hn'.out; omega)⟩
          obtain ⟨b, hb⟩ : ∃ b, y[k]? = some b := ⟨_, List.getElem?_eq_getElem (by have := hn'.out; have := hne.out; omega)⟩
          have d1 := h1.out.cellAt k _ (hgx.out k a ha)
          have d2 := h2.out.cellAt k _ (hgy.out k b hb)
          by_cases hab : a = b
          · subst hab
            have hz : (a != a) = false := by simp
            have hnext : Hid (∀ j, j < k + 1 → x[j]? = y[j]?) := fun j hj => by
              by_cases e : j = k
              · subst e; rw [ha, hb]
              · exact hall.out j (by omega)
            clear ha hb
            go_upto_region 6 with (fail)
            go_quiet (fail)
            go_wp2
            go_roundw
            case rel => exact ⟨k + 1, _, by omega, by go_num, rfl, hnext⟩
            case measure => simp [intOf]; omega
          · have hz : (a != b) = true := by rw [bne_iff_ne]; exact hab
            have hrf : r = false := by
              cases hr' : r with
              | false => rfl
              | true =>
                have := hr.out.out.1 hr'
                subst this
                rw [ha] at hb
                exact absurd (Option.some.inj hb) hab
            subst hrf
            clear ha hb
            go_upto_region 6 with (fail)
            go_quiet (fail)
            go_wp2
            go_ret
            exact ⟨rfl, _, drewN_add _ _ _⟩
        · obtain rfl : k = n := by omega
          have hrt : r = true := hr.out.out.2 (List.ext_getElem? fun j => by
            by_cases hj : j < k
            · exact hall.out j hj
            · have h1 := hn'.out; have h2 := hne.out
              rw [List.getElem?_eq_none (by omega), List.getElem?_eq_none (by omega)])
          subst hrt
          go_wp2
          go_ret
          exact ⟨rfl, _, rfl⟩
  · have hrf : r = false := by
      cases hr' : r with
      | false => rfl
      | true => exact absurd (congrArg List.length (hr.out.out.1 hr')) hne
    subst hrf
    obtain ⟨A1, c1, rfl, _, _⟩ := h1.form
    obtain ⟨A2, c2, rfl, _, _⟩ := h2.form
    rw [ints_length, ints_length]
    have hz : ((x.length : Int) != (y.length : Int)) = true := bne_iff_ne.2 fun e => hne (Int.ofNat.inj e)
    clear h1 h2 hr hne
    go_enter Try.func192, Try.ntmps192
    go_wp2
    go_ret
    exact ⟨rfl, 0, rfl⟩

/-- Where a number is first met, or -1. -/
def idxZ (l : List Int) (x : Int) : Int := if x ∈ l then ((l.idxOf x : Nat) : Int) else -1
theorem idxZ_ge (l : List Int) (x : Int) : -1 ≤ idxZ l x ∧ idxZ l x ≤ l.length := by
  unfold idxZ; split
  · have := List.idxOf_le_length (a := x) (l := l); omega
  · omega
theorem idxZ_at {l : List Int} {x : Int} {k : Nat} (h : l[k]? = some x) (hno : ∀ j, j < k → l[j]? ≠ some x) : idxZ l x = (k : Int) := by
  have hm : x ∈ l := List.mem_of_getElem? h
  have hlt := List.idxOf_lt_length_of_mem hm
  have h1 : l[l.idxOf x]? = some x := by rw [List.getElem?_eq_getElem hlt, List.getElem_idxOf hlt]
  unfold idxZ
  rw [if_pos hm]
  have h2 : ¬ l.idxOf x < k := fun h' => hno _ h' h1
  have h3 : ¬ k < l.idxOf x := fun h' => by
    have := List.not_of_lt_findIdx (p := (· == x)) (xs := l) h'
    obtain ⟨hk, e⟩ := List.getElem?_eq_some_iff.1 h
    simp [e] at this
  omega
theorem idxZ_none {l : List Int} {x : Int} (hno : ∀ j, j < l.length → l[j]? ≠ some x) : idxZ l x = -1 := by
  unfold idxZ
  rw [if_neg]
  intro hm
  obtain ⟨j, hj, e⟩ := List.getElem_of_mem hm
  exact hno j hj (by rw [List.getElem?_eq_getElem hj, e])

set_option maxHeartbeats 1000000 in
theorem slIndex_any (w : World) (b1 : Nat) (v1 : Value) (l : List Int) (x : Int) (h1 : Own w b1 2 v1 (ints l)) (hl : l.length < 1000000) :
    Calls Try.prog 182 #[v1, .int .i64 x] w fun e w' => e = .returned (.int .i64 (idxZ l x)) ∧ w = w' := by
  by_cases h0 : l = []
  · subst h0
    obtain ⟨A1, c1, rfl, _, _⟩ := h1.form
    rw [ints_length]
    clear h1
    have hz := hid (idxZ_none (l := []) (x := x) (fun j hj => by simp))
    go_enter Try.func182, Try.ntmps182
    go_wp2
    go_loop [8] (fun i => i = .int .i64 0) (fun _ => 0)
    case atStart => rfl
    case round =>
      obtain rfl := hrel
      go_wp2
      go_ret
      exact ⟨retI hz.out.symm, rfl⟩
  · obtain ⟨g1, c1, rfl, _, _⟩ := h1.blk (fun e => h0 (by simpa [ints] using e))
    rw [ints_length] at h1 ⊢
    have hg := hid (fun (k : Nat) (z : Int) (hz : l[k]? = some z) => (show (ints l)[k]? = some (.int .i64 z) by simp [ints, hz]))
    replace h1 := hid h1
    clear h0
    generalize hn : l.length = n at *
    replace hn := hid hn
    go_enter Try.func182, Try.ntmps182
    go_wp2
    go_loop [8] (fun i => ∃ k : Nat, k ≤ n ∧ i = .int .i64 k ∧ Hid (∀ j, j < k → l[j]? ≠ some x)) (fun i => n - (intOf i).toNat)
    case atStart => exact ⟨0, Nat.zero_le _, rfl, fun j hj => by omega⟩
    case round =>
      obtain ⟨k, hk, rfl, hall⟩ := hrel
      by_cases hlt : k < n
      · obtain ⟨a, ha⟩ : ∃ a, l[k]? = some a := ⟨_, List.getElem?_eq_getElem (by have := hn.out; omega)⟩
        have d1 := h1.out.cellAt k _ (hg.out k a ha)
        by_cases hab : x = a
        · subst hab
          have hz := hid (idxZ_at ha hall.out)
          clear ha
          go_wp2
          go_ret
          exact ⟨retI hz.out.symm, rfl⟩
        · have hz : (x == a) = false := by simpa using hab
          have hnext : Hid (∀ j, j < k + 1 → l[j]? ≠ some x) := fun j hj => by
            by_cases e : j = k
            · subst e; rw [ha]; intro e; exact hab (Option.some.inj e).symm
            · exact hall.out j (by omega)
          clear ha hab
          go_wp2
          go_round
          case rel => exact ⟨k + 1, by omega, by go_num, hnext⟩
          case measure => simp [intOf]; omega
      · obtain rfl : k = n := by omega
        have hz := hid (idxZ_none (l := l) (x := x) (fun j hj => hall.out j (by have := hn.out; omega)))
        go_wp2
        go_ret
        exact ⟨retI hz.out.symm, rfl⟩

theorem slContains_any (w : World) (b1 : Nat) (v1 : Value) (l : List Int) (x : Int) (h1 : Own w b1 2 v1 (ints l)) (hl : l.length < 1000000) (r : Bool) (hr : Tells r (x ∈ l)) :
    Calls Try.prog 212 #[v1, .int .i64 x] w fun e w' => e = .returned (.bool r) ∧ w = w' := by
  have hi := hid (slIndex_any w b1 v1 l x h1 hl)
  have hz := hid (show idxZ l x = if x ∈ l then ((l.idxOf x : Nat) : Int) else -1 from rfl)
  have hb := (idxZ_ge l x).2
  have hb2 := (idxZ_ge l x).1
  clear h1
  generalize idxZ l x = z at *
  replace hr := hid hr
  go_enter Try.func212, Try.ntmps212
  go_wp2_with (first
    | (go_at_call 182; (with_reducible refine (hi.out).mono ?_); rintro e w1 ⟨rfl, rfl⟩))
  go_ret
  refine ⟨retB ?_, rfl⟩
  have h2 := hz.out
  by_cases hm : x ∈ l
  · rw [if_pos hm] at h2
    rw [hr.out.out.2 hm]; simp; omega
  · rw [if_neg hm] at h2
    have : r = false := by cases hr' : r with
      | false => rfl
      | true => exact absurd (hr.out.out.1 hr') hm
    rw [this]; simp; omega
end Go.Proofs.Ytbmkkaecfogmoaa
