/- What the proof of FnTop leans on, part 11 of 28. -/
import Derived.Test.YthmcdfjijkecfaaGreatZFnTopJ
/- Slices of elements of several cells that a function made itself. -/
namespace Go.Proofs.YthmcdfjijkecfaaGreat
open Go.RowKit
set_option linter.unusedVariables false
set_option linter.unusedSimpArgs false

/-- The slice value v holds n elements of sz cells each: just the cells cs, in a block of its own from 'base' on. -/
def OwnN (w : World) (base e sz : Nat) (v : Value) (n : Nat) (cs : List Value) : Prop := w.ownsRow base e sz v n cs
section
variable {w w' : World} {base e sz n : Nat} {v : Value} {cs : List Value}
theorem OwnN.len (h : OwnN w base e sz v n cs) : cs.length = n * sz := h.1
theorem OwnN.nil (w : World) (base e sz : Nat) : OwnN w base e sz (.slice none 0 0) 0 [] := World.ownsRow_nil w base e sz
theorem OwnN.new (w : World) (base e sz : Nat) (hb : base ≤ w.heap.size) : OwnN (w.alloc (.cells #[] e)) base e sz (.slice (some ⟨w.heap.size, 0, none⟩) 0 0) 0 [] := by
  have := World.ownsRow_lit (base := base) (e := e) (size := sz) w #[] 0 hb (by simp [maxLen]) (by simp)
  exact this
theorem OwnN.keep (h : OwnN w base e sz v n cs) (hk : ∀ k, v.ownBlock = some k → w'.heap[k]? = w.heap[k]?) : OwnN w' base e sz v n cs := by
  refine ⟨h.1, ?_⟩
  rcases h.2 with hn | ⟨g, cap, cur, rfl, hb, hg, rest⟩
  · exact .inl hn
  · exact .inr ⟨g, cap, cur, rfl, hb, (hk g rfl).trans hg, rest⟩
theorem OwnN.lt (h : OwnN w base e sz v n cs) : ∀ k, v.ownBlock = some k → base ≤ k ∧ k < w.heap.size := World.ownsRow.lt h
theorem OwnN.mono {b' : Nat} (h : OwnN w base e sz v n cs) (hb : b' ≤ base) : OwnN w b' e sz v n cs := by
  refine ⟨h.1, ?_⟩
  rcases h.2 with hn | ⟨g, cap, cur, rfl, hg0, rest⟩
  · exact .inl hn
  · exact .inr ⟨g, cap, cur, rfl, Nat.le_trans hb hg0, rest⟩
theorem OwnN.form (h : OwnN w base e sz v n cs) : (v = .slice none 0 0 ∧ n = 0) ∨ ∃ g cap, v = .slice (some ⟨g, 0, none⟩) n cap := by
  rcases h.2 with h | ⟨g, cap, cur, rfl, _⟩
  · exact .inl h
  · exact .inr ⟨g, cap, rfl⟩
theorem OwnN.blk (h : OwnN w base e sz v n cs) (hn : 0 < n) : ∃ g cap, v = .slice (some ⟨g, 0, none⟩) n cap := by
  rcases h.form with ⟨_, h0⟩ | h
  · omega
  · exact h
theorem OwnN.cellAt {g cap : Nat} (h : OwnN w base e sz (.slice (some ⟨g, 0, none⟩) n cap) n cs) (j : Nat) (u : Value) (hu : cs[j]? = some u) : w.cell? ⟨g, j, none⟩ = some u := by
  have hj : j < n * sz := by rw [← h.len]; exact (List.getElem?_eq_some_iff.1 hu).1
  rw [World.ownsRow.cellAt h j hj]; exact hu
theorem OwnN.frozenAt {g cap : Nat} (h : OwnN w base e sz (.slice (some ⟨g, 0, none⟩) n cap) n cs) (j : Nat) : w.frozen? ⟨g, j, none⟩ = false := World.ownsRow.frozenAt h j
theorem OwnN.set {g cap : Nat} (h : OwnN w base e sz (.slice (some ⟨g, 0, none⟩) n cap) n cs) (j : Nat) (u : Value) : OwnN (w.setCell ⟨g, j, none⟩ u) base e sz (.slice (some ⟨g, 0, none⟩) n cap) n (cs.set j u) := (World.ownsRow.stored h j u).1
/-- One element's cells, as a load of it wants them. -/
theorem OwnN.range {g cap : Nat} (h : OwnN w base e sz (.slice (some ⟨g, 0, none⟩) n cap) n cs) (o : Nat) (l : List Value) (hl : ∀ j, j < l.length → cs[o + j]? = l[j]?) : w.rangeAt g o l := fun j u hu => by
  have hj := (List.getElem?_eq_some_iff.1 hu).1
  exact h.cellAt (o + j) u ((hl j hj).trans hu)
end
def Asn.ownN (base e sz : Nat) (v : Value) (n : Nat) (cs : List Value) : Asn := ⟨fun k => v.ownBlock = some k, fun w => OwnN w base e sz v n cs, fun h hk => h.keep hk, fun h k hk => (h.lt k hk).2⟩

/-- One element appended, as the walk meets it: behind its box. -/
theorem appN {P : Program} {ops : Array Oper} {rest : List Oper} {o : Oper} {a : Act} {W : World} {Q : Exit → Act → World → Prop} (t e : TypeId) (z : Value) (sz bytes : Nat)
    (ht : P.underlying t = some (.slice e)) (hinfo : (P.info? e).map (fun i => (i.zero, i.size, i.bytes)) = some (some z, sz, bytes)) (hz : z.cells.size = sz) (hsz : 0 < sz) (hb : bytes ≤ 64)
    (hgd : o.guard = none) (s x : Operand) (ho : o.op = .call { callee := .builtin .append, args := #[s, x], argTypes := #[t, t] })
    (base : Nat) (v : Value) (n : Nat) (cs : List Value) (hs : a.eval s = v) (hown : OwnN W base e sz v n cs) (hbase : base ≤ W.heap.size) (news : List Value) (hnl : news.length = sz) (hc1 : ∀ u ∈ news, u.oneCell' = true)
    (hx : a.eval x = .slice (some ⟨W.heap.size, 0, none⟩) 1 1) (hlen : n ≤ 1000000000)
    (h : ∀ g cap w', OwnN w' base e sz (.slice (some ⟨g, 0, none⟩) (n + 1) cap) (n + 1) (cs ++ news) → Below base W w' → (∀ k, k < W.heap.size → v.ownBlock ≠ some k → w'.heap[k]? = W.heap[k]?) → W.heap.size < w'.heap.size → (v.ownBlock = some g ∨ W.heap.size < g) →
      wpList P ops Q rest (a.put o.dst (.slice (some ⟨g, 0, none⟩) (n + 1) cap)) w') :
    wpList P ops Q (o :: rest) a (W.alloc (.cells news.toArray e)) := by
  obtain ⟨i, hi, hz0, hz1, hz2⟩ := info_parts hinfo
  refine wpList_plain hgd fun K hK => ?_
  refine wp_append_lies (W.alloc (.cells news.toArray e)) s x t ho base e i z sz bytes ht hi hz0 hz1 hz2 hz hsz v n cs hs (World.ownsRow.alloc hown _) ⟨W.heap.size, 0, none⟩ 1 1 news hx (by rw [hnl, Nat.one_mul])
    (fun j u hu => ?_) hc1 (by omega) (by simp only [maxLen]; omega) (Nat.le_trans (Nat.mul_le_mul_left _ hb) (by omega)) (by simp; omega) (W.heap.size + 1) (by simp) ?_
  · rw [Addr.add_mid, Nat.zero_add, cell_of_row _ W.heap.size j _ _ _ (heap_alloc_new W _)]
    simpa using hu
  · intro g cap w' h1 h2 h3 h4
    have hsz' : W.heap.size < w'.heap.size := by have := h2.size; simp at this; omega
    have hold : ∀ k, k < W.heap.size → v.ownBlock ≠ some k → w'.heap[k]? = W.heap[k]? := fun k hk hne => by
      rw [h2.block k (by simp; omega) (fun e => hne e.symm)]
      exact Below.heap_alloc W _ k hk
    exact hK _ _ (h g cap w' h1 ⟨h2.os, h2.tape, h2.output, by omega, fun k hk => hold k (by omega) (fun e => by have := (hown.lt k e).1; omega)⟩ hold hsz' (h3.imp id (fun e => by omega)))

section
variable {w w' W w0 : World} {L : List Asn} {base : Nat} {a b c d e f : Asn}
theorem St.n0 {bs t sz n : Nat} {v : Value} {cs : List Value} (h : St base w0 (Asn.ownN bs t sz v n cs :: L) w) : OwnN w bs t sz v n cs := h.g0
theorem St.n1 {bs t sz n : Nat} {v : Value} {cs : List Value} (h : St base w0 (a :: Asn.ownN bs t sz v n cs :: L) w) : OwnN w bs t sz v n cs := h.g1
theorem St.n2 {bs t sz n : Nat} {v : Value} {cs : List Value} (h : St base w0 (a :: b :: Asn.ownN bs t sz v n cs :: L) w) : OwnN w bs t sz v n cs := h.g2
theorem St.n3 {bs t sz n : Nat} {v : Value} {cs : List Value} (h : St base w0 (a :: b :: c :: Asn.ownN bs t sz v n cs :: L) w) : OwnN w bs t sz v n cs := h.g3
theorem St.n4 {bs t sz n : Nat} {v : Value} {cs : List Value} (h : St base w0 (a :: b :: c :: d :: Asn.ownN bs t sz v n cs :: L) w) : OwnN w bs t sz v n cs := h.g4
theorem St.n5 {bs t sz n : Nat} {v : Value} {cs : List Value} (h : St base w0 (a :: b :: c :: d :: e :: Asn.ownN bs t sz v n cs :: L) w) : OwnN w bs t sz v n cs := h.g5
theorem St.nilN (h : St base w0 L w) (t sz : Nat) : St base w0 (Asn.ownN base t sz (.slice none 0 0) 0 [] :: L) w := h.push (a := Asn.ownN base t sz _ 0 []) (OwnN.nil _ _ _ _) fun k hk => by cases hk
theorem St.newN (h : St base w0 L w) (t sz : Nat) : St base w0 (Asn.ownN base t sz (.slice (some ⟨w.heap.size, 0, none⟩) 0 0) 0 [] :: L) (w.alloc (.cells #[] t)) :=
  h.allocPush (a := Asn.ownN base t sz _ 0 []) _ (OwnN.new w base t sz h.le) fun k hk => by
    have : w.heap.size = k := by simpa [Asn.ownN, Value.ownBlock] using hk
    exact this.symm
theorem St.appdN {t sz n n' gn m cap : Nat} {v : Value} {cs cs' : List Value} (h : St base w0 (Asn.ownN base t sz v n cs :: L) w) (hO : OwnN w' base t sz (.slice (some ⟨gn, 0, none⟩) m cap) n' cs') (hb : Below base w w') (hold : ∀ k, k < w.heap.size → v.ownBlock ≠ some k → w'.heap[k]? = w.heap[k]?)
    (hg : v.ownBlock = some gn ∨ w.heap.size ≤ gn) : St base w0 (Asn.ownN base t sz (.slice (some ⟨gn, 0, none⟩) m cap) n' cs' :: L) w' :=
  h.turn (a' := Asn.ownN base t sz _ n' cs') hO (fun k hk => by
    have e : gn = k := by simpa [Asn.ownN, Value.ownBlock] using hk
    subst e
    exact hg) (fun k hk => ((show OwnN w base t sz v n cs from h.star.1).lt k hk).1) hb fun k hk hne => hold k hk hne
theorem St.setN {t sz gn n cap : Nat} {cs : List Value} (h : St base w0 (Asn.ownN base t sz (.slice (some ⟨gn, 0, none⟩) n cap) n cs :: L) w) (i : Nat) (u : Value) : St base w0 (Asn.ownN base t sz (.slice (some ⟨gn, 0, none⟩) n cap) n (cs.set i u) :: L) (w.setCell ⟨gn, i, none⟩ u) :=
  have hb : base ≤ gn := ((show OwnN w base t sz _ n cs from h.star.1).lt gn rfl).1
  h.turn (a' := Asn.ownN base t sz _ n (cs.set i u)) (OwnN.set h.star.1 i u) (fun k hk => .inl hk) (fun k hk => ((show OwnN w base t sz _ n cs from h.star.1).lt k hk).1) ((Below.refl _ _).setCell hb u)
    fun k _ hk => heap_setCell_other w ⟨gn, i, none⟩ k u fun e => hk (show Value.ownBlock _ = some k by rw [e]; rfl)
theorem St.callN {t sz n : Nat} {v : Value} {cs : List Value} (h : St base w0 L w) (hb : Below w.heap.size w w') (ha : OwnN w' w.heap.size t sz v n cs) : St base w0 (Asn.ownN base t sz v n cs :: L) w' :=
  h.callPush (a := Asn.ownN base t sz v n cs) hb (ha.mono h.le) fun k hk => (ha.lt k hk).1
theorem St.appNw {ops : Array Oper} {rest : List Oper} {o : Oper} {act : Act} {Q : Exit → Act → World → Prop} (t e : TypeId) (z : Value) (sz bytes : Nat)
    (ht : Tryz.prog.underlying t = some (.slice e)) (hinfo : (Tryz.prog.info? e).map (fun i => (i.zero, i.size, i.bytes)) = some (some z, sz, bytes)) (hz : z.cells.size = sz) (hsz : 0 < sz) (hb : bytes ≤ 64)
    (hgd : o.guard = none) (s x : Operand) (ho : o.op = .call { callee := .builtin .append, args := #[s, x], argTypes := #[t, t] })
    (v : Value) (n : Nat) (cs : List Value) (hs : act.eval s = v) (hS : St base w0 (Asn.ownN base e sz v n cs :: L) W) (news : List Value) (hnl : news.length = sz) (hc1 : ∀ u ∈ news, u.oneCell' = true)
    (hx : act.eval x = .slice (some ⟨W.heap.size, 0, none⟩) 1 1) (hlen : n ≤ 1000000000)
    (h : ∀ g cap w', St base w0 (Asn.ownN base e sz (.slice (some ⟨g, 0, none⟩) (n + 1) cap) (n + 1) (cs ++ news) :: L) w' → wpList Tryz.prog ops Q rest (act.put o.dst (.slice (some ⟨g, 0, none⟩) (n + 1) cap)) w') :
    wpList Tryz.prog ops Q (o :: rest) act (W.alloc (.cells news.toArray e)) := by
  refine appN t e z sz bytes ht hinfo hz hsz hb hgd s x ho base v n cs hs hS.star.1 hS.le news hnl hc1 hx hlen ?_
  intro g cap w' h1 h2 h3 h4 h5
  exact h g cap w' (hS.appdN h1 h2 h3 (h5.imp id Nat.le_of_lt))
end
end Go.Proofs.YthmcdfjijkecfaaGreat

/- LevelPermutation: the program's and the reference's come to the same; the law's body. -/
namespace Go.Proofs.YthmcdfjijkecfaaGreat
open Go.RowKit
set_option linter.unusedVariables false
set_option linter.unusedSimpArgs false

open Classical in
/-- What LevelPermutation answers. -/
noncomputable def levelAns (m : Mach) (q n : Int) : List Int × Int :=
  if IsM m then if (0 ≤ q ∧ q < m.S) ∧ 0 ≤ n ∧ n ≤ 5 then ((perm m m.L.toNat q.toNat n.toNat).map Int.ofNat, 0) else ([], 2) else ([], 1)
theorem levelAns_1 {m : Mach} {q n : Int} (h : ¬ IsM m) : levelAns m q n = ([], 1) := by unfold levelAns; rw [if_neg h]
theorem levelAns_2 {m : Mach} {q n : Int} {l s : Nat} (g : Good m l s) (h : ¬ ((0 ≤ q ∧ q < (s : Int)) ∧ 0 ≤ n ∧ n ≤ 5)) : levelAns m q n = ([], 2) := by unfold levelAns; rw [if_pos g.isM, g.S, if_neg h]
theorem levelAns_0 {m : Mach} {l s : Nat} (g : Good m l s) (q n : Nat) (hq : q < s) (hn : n ≤ 5) : levelAns m q n = ((perm m l q n).map Int.ofNat, 0) := by
  unfold levelAns
  rw [if_pos g.isM, g.S, g.L, if_pos (by omega)]
  rfl

theorem levelAns_len (m : Mach) (q n : Int) : (levelAns m q n).1.length < 999999 := by
  by_cases hm : IsM m
  · obtain ⟨l, s, g⟩ := hm.good
    by_cases h : (0 ≤ q ∧ q < (s : Int)) ∧ 0 ≤ n ∧ n ≤ 5
    · obtain ⟨q, rfl⟩ := Int.eq_ofNat_of_zero_le h.1.1
      obtain ⟨n, rfl⟩ := Int.eq_ofNat_of_zero_le h.2.1
      rw [levelAns_0 g q n (by omega) (by omega)]
      have := pw_small l n g.l3 (by omega)
      rw [List.length_map, perm_length]; omega
    · rw [levelAns_2 g h]; simp
  · rw [levelAns_1 hm]; simp
/-- Two that answer alike. -/
def AnsL (w : World) (A : List Int × Int) (e : Ending) (w' : World) : Prop := ∃ v, e = .returned (.tuple #[v, .int .i64 A.2]) ∧ Own w' w.heap.size 2 v (ints A.1) ∧ Below w.heap.size w w'


theorem codeI_one {m : Mach} {l s : Nat} {q : Int} (g : Good m l s) (hq : 0 ≤ q ∧ q < (s : Int)) : codeI m { data := #[] } [q] = 0 := codeI_0 g (isWd_nil _) (fun x hx => by simp at hx; subst hx; exact hq)
theorem codeI_bad {m : Mach} {l s : Nat} {q : Int} (g : Good m l s) (hq : ¬ (0 ≤ q ∧ q < (s : Int))) : codeI m { data := #[] } [q] = 2 := codeI_2 g (isWd_nil _) (fun h => hq (h q (by simp)))
theorem codeOf_one (w : World) (m : Mach) (hk : m.Ok) (q c : Int) (hc : codeI m { data := #[] } [q] = c) :
    Calls Tryz.prog 85 #[.agg (mcells m), .string { data := #[] }, .slice (some ⟨w.heap.size + 1, 0, none⟩) 1 1] ((w.alloc (.cells (mcells m) 27)).alloc (.cells #[.int .i64 q] 2)) fun e w' =>
      e = .returned (.int .i64 c) ∧ MB w' 27 w.heap.size m ∧ Below w.heap.size w w' := by
  subst hc
  have hO := Own.lit (w.alloc (.cells (mcells m) 27)) w.heap.size 2 [Value.int .i64 q] (by rw [heap_alloc_size]; omega) (by simp)
  rw [heap_alloc_size] at hO
  have hM := (MB.new w m 27).alloc (.cells #[.int .i64 q] 2)
  have hB := below_alloc (below_alloc (Below.refl w.heap.size w) (Nat.le_refl _) (.cells (mcells m) 27)) (Nat.le_refl _) (.cells #[.int .i64 q] 2)
  exact (codeOf_any _ m hk { data := #[] } (by decide) _ _ [q] hO (by simp)).mono fun e w' ⟨he, hb⟩ => ⟨he, hM.below hb hM.lt, hB.trans (hb.mono hB.size)⟩
set_option maxHeartbeats 2000000 in
set_option maxRecDepth 100000 in
theorem implLevel_any (w : World) (m : Mach) (hk : m.Ok) (q n : Int) :
    Calls Tryz.prog 77 #[.agg (mcells m), .int .i64 q, .int .i64 n] w (AnsL w (levelAns m q n)) := by
  have hM := hid (MB.new w m 27)
  have hB := hid (below_alloc (Below.refl w.heap.size w) (Nat.le_refl _) (.cells (mcells m) 27))
  have hcode := hid (fun (c : Int) (hc : codeI m { data := #[] } [q] = c) => codeOf_one w m hk q c hc)
  by_cases hm : IsM m
  · obtain ⟨l, s, g⟩ := hm.good
    have s1 := g.s1
    have s16 := g.s16
    have l3 := g.l3
    by_cases hq : 0 ≤ q ∧ q < (s : Int)
    · have hc := hid (hcode.out 0 (codeI_one g hq))
      clear hcode
      by_cases hn : 0 ≤ n ∧ n ≤ 5
      · obtain ⟨q, rfl⟩ := Int.eq_ofNat_of_zero_le hq.1
        obtain ⟨n, rfl⟩ := Int.eq_ofNat_of_zero_le hn.1
        have hin2 := hid (fun W => within_any (n : Int) 0 5 true (decide_eq_true (by omega)).symm W)
        rw [levelAns_0 g q n (by omega) (by omega)]
        have hlev := hid (fun W hW => ofState_any w.heap.size W m hW l s g q (by omega) n (by omega) (Nat.le_trans (pw_small l n (by omega) (by omega)) (by omega)))
        replace hk := hid hk; replace g := hid g; clear hm hq hn
        go_enter Tryz.func77, Tryz.ntmps77
        go_wp2_with (first
          | ((with_reducible refine gate (N := 9) rfl ?_); refine load_mach rfl _ rfl w.heap.size rfl m hM.out ?_)
          | (go_at_call 85; (with_reducible refine (hc.out).mono ?_); rintro e w1 ⟨rfl, hM2, hB2⟩; replace hM2 := hid hM2; replace hB2 := hid hB2; clear hM hB hc)
          | (go_at_call 86; (with_reducible refine (hin2.out _).mono ?_); rintro e w3 ⟨rfl, rfl⟩)
          | (go_at_call 103; (with_reducible refine (hlev.out _ hM2.out).mono ?_); rintro e w4 ⟨v, rfl, hO, hb⟩; replace hO := hid hO; replace hb := hid hb))
        go_ret2
        exact ⟨_, rfl, by rw [← nats_ints]; exact hO.out.mono hB2.out.size, hB2.out.trans (hb.out.mono hB2.out.size)⟩
      · rw [levelAns_2 g (fun h => hn h.2)]
        have hin2 := hid (fun W => within_any n 0 5 false (decide_eq_false hn).symm W)
        replace hk := hid hk; replace g := hid g; clear hm hq hn
        go_enter Tryz.func77, Tryz.ntmps77
        go_wp2_with (first
          | ((with_reducible refine gate (N := 9) rfl ?_); refine load_mach rfl _ rfl w.heap.size rfl m hM.out ?_)
          | (go_at_call 85; (with_reducible refine (hc.out).mono ?_); rintro e w1 ⟨rfl, hM2, hB2⟩; replace hM2 := hid hM2; replace hB2 := hid hB2; clear hM hB hc)
          | (go_at_call 86; (with_reducible refine (hin2.out _).mono ?_); rintro e w3 ⟨rfl, rfl⟩))
        go_ret2
        exact ⟨_, rfl, Own.nil _ _ _, hB2.out⟩
    · rw [levelAns_2 g (fun h => hq h.1)]
      have hc := hid (hcode.out 2 (codeI_bad g hq))
      replace hk := hid hk; replace g := hid g; clear hm hq hcode
      go_enter Tryz.func77, Tryz.ntmps77
      go_wp2_with (first
        | ((with_reducible refine gate (N := 9) rfl ?_); refine load_mach rfl _ rfl w.heap.size rfl m hM.out ?_)
        | (go_at_call 85; (with_reducible refine (hc.out).mono ?_); rintro e w1 ⟨rfl, hM2, hB2⟩; replace hM2 := hid hM2; replace hB2 := hid hB2; clear hM hB hc))
      go_ret2
      exact ⟨_, rfl, Own.nil _ _ _, hB2.out⟩
  · rw [levelAns_1 hm]
    have hc := hid (hcode.out 1 (codeI_1 hm))
    replace hk := hid hk; clear hm hcode
    go_enter Tryz.func77, Tryz.ntmps77
    go_wp2_with (first
      | ((with_reducible refine gate (N := 9) rfl ?_); refine load_mach rfl _ rfl w.heap.size rfl m hM.out ?_)
      | (go_at_call 85; (with_reducible refine (hc.out).mono ?_); rintro e w1 ⟨rfl, hM2, hB2⟩; replace hM2 := hid hM2; replace hB2 := hid hB2; clear hM hB hc))
    go_ret2
    exact ⟨_, rfl, Own.nil _ _ _, hB2.out⟩

end Go.Proofs.YthmcdfjijkecfaaGreat

/- Maps that respect beginnings: how often they bring all words back. -/
namespace Go.Proofs.YthmcdfjijkecfaaGreat
open Go.RowKit
set_option linter.unusedVariables false
set_option linter.unusedSimpArgs false

/-- F leads words to words of the same length, common beginnings to common beginnings, different words to different ones. -/
structure Aut (d : Nat) (F : List Nat → List Nat) (n : Nat) : Prop where
  len : ∀ u, (∀ x ∈ u, x < d) → u.length ≤ n → (F u).length = u.length
  lt : ∀ u, (∀ x ∈ u, x < d) → u.length ≤ n → ∀ y ∈ F u, y < d
  pre : ∀ u x, (∀ y ∈ u, y < d) → x < d → u.length < n → ∃ y, F (u ++ [x]) = F u ++ [y]
  inj : ∀ u v, (∀ x ∈ u, x < d) → (∀ x ∈ v, x < d) → u.length ≤ n → u.length = v.length → F u = F v → u = v
def itF (F : List Nat → List Nat) : Nat → List Nat → List Nat
  | 0, u => u
  | j + 1, u => F (itF F j u)
theorem itF_add (F : List Nat → List Nat) (i : Nat) (u : List Nat) : ∀ j, itF F (j + i) u = itF F j (itF F i u)
  | 0 => by rw [Nat.zero_add]; rfl
  | j + 1 => by rw [show j + 1 + i = (j + i) + 1 by omega]; show F _ = F _; rw [itF_add F i u j]
theorem itF_mul (F : List Nat → List Nat) (c : Nat) (u : List Nat) : ∀ j, itF F (j * c) u = itF (itF F c) j u
  | 0 => by rw [Nat.zero_mul]; rfl
  | j + 1 => by rw [Nat.succ_mul, Nat.add_comm, itF_add]; show _ = itF F c (itF (itF F c) j u); rw [itF_mul F c u j]
theorem Aut.id (d n : Nat) : Aut d (fun u => u) n := ⟨fun _ _ _ => rfl, fun _ h _ => h, fun _ x _ _ _ => ⟨x, rfl⟩, fun _ _ _ _ _ _ h => h⟩
theorem Aut.comp {d n : Nat} {F G : List Nat → List Nat} (hF : Aut d F n) (hG : Aut d G n) : Aut d (fun u => F (G u)) n where
  len := fun u h hl => by rw [hF.len _ (hG.lt u h hl) (by rw [hG.len u h hl]; exact hl), hG.len u h hl]
  lt := fun u h hl => hF.lt _ (hG.lt u h hl) (by rw [hG.len u h hl]; exact hl)
  pre := fun u x h hx hl => by
    obtain ⟨y, hy⟩ := hG.pre u x h hx hl
    have h1 : ∀ z ∈ G (u ++ [x]), z < d := hG.lt _ (fun z hz => (List.mem_append.1 hz).elim (h z) fun hz => by rw [List.mem_singleton.1 hz]; exact hx) (by simp; omega)
    rw [hy] at h1
    obtain ⟨z, hz⟩ := hF.pre (G u) y (fun a ha => h1 a (List.mem_append.2 (.inl ha))) (h1 y (by simp)) (by rw [hG.len u h (by omega)]; exact hl)
    exact ⟨z, by rw [hy, hz]⟩
  inj := fun u v hu hv hl he e => hG.inj u v hu hv hl he (hF.inj _ _ (hG.lt u hu hl) (hG.lt v hv (by omega)) (by rw [hG.len u hu hl]; exact hl) (by rw [hG.len u hu hl, hG.len v hv (by omega), he]) e)
theorem Aut.it {d n : Nat} {F : List Nat → List Nat} (h : Aut d F n) : ∀ j, Aut d (itF F j) n
  | 0 => Aut.id d n
  | j + 1 => h.comp (h.it j)
def itN (t : Nat → Nat) : Nat → Nat → Nat
  | 0, x => x
  | j + 1, x => t (itN t j x)
theorem two_back (t : Nat → Nat) (hl : ∀ x, x < 2 → t x < 2) (hi : ∀ x y, x < 2 → y < 2 → t x = t y → x = y) (x : Nat) (hx : x < 2) : itN t 2 x = x := by
  have h0 := hl 0 (by omega); have h1 := hl 1 (by omega)
  have h01 : t 0 ≠ t 1 := fun e => absurd (hi 0 1 (by omega) (by omega) e) (by decide)
  have hx' : x = 0 ∨ x = 1 := by omega
  have c : (t 0 = 0 ∧ t 1 = 1) ∨ (t 0 = 1 ∧ t 1 = 0) := by omega
  rcases c with ⟨a, b⟩ | ⟨a, b⟩ <;> rcases hx' with rfl | rfl <;> simp [itN, a, b]
theorem three_back (t : Nat → Nat) (hl : ∀ x, x < 3 → t x < 3) (hi : ∀ x y, x < 3 → y < 3 → t x = t y → x = y) (x : Nat) (hx : x < 3) : itN t 6 x = x := by
  have h0 := hl 0 (by omega); have h1 := hl 1 (by omega); have h2 := hl 2 (by omega)
  have h01 : t 0 ≠ t 1 := fun e => absurd (hi 0 1 (by omega) (by omega) e) (by decide)
  have h02 : t 0 ≠ t 2 := fun e => absurd (hi 0 2 (by omega) (by omega) e) (by decide)
  have h12 : t 1 ≠ t 2 := fun e => absurd (hi 1 2 (by omega) (by omega) e) (by decide)
  have hx' : x = 0 ∨ x = 1 ∨ x = 2 := by omega
  have c : (t 0 = 0 ∧ t 1 = 1 ∧ t 2 = 2) ∨ (t 0 = 0 ∧ t 1 = 2 ∧ t 2 = 1) ∨ (t 0 = 1 ∧ t 1 = 0 ∧ t 2 = 2) ∨ (t 0 = 1 ∧ t 1 = 2 ∧ t 2 = 0) ∨ (t 0 = 2 ∧ t 1 = 0 ∧ t 2 = 1) ∨ (t 0 = 2 ∧ t 1 = 1 ∧ t 2 = 0) := by omega
  rcases c with ⟨a, b, c⟩ | ⟨a, b, c⟩ | ⟨a, b, c⟩ | ⟨a, b, c⟩ | ⟨a, b, c⟩ | ⟨a, b, c⟩ <;> rcases hx' with rfl | rfl | rfl <;> simp [itN, a, b, c]
/-- A number of times that brings each of d letters back. -/
def bk (d : Nat) : Nat := if d = 2 then 2 else 6
theorem let_back {d : Nat} (hd : d = 2 ∨ d = 3) (t : Nat → Nat) (hl : ∀ x, x < d → t x < d) (hi : ∀ x y, x < d → y < d → t x = t y → x = y) (x : Nat) (hx : x < d) : itN t (bk d) x = x := by
  rcases hd with rfl | rfl
  · exact two_back t hl hi x hx
  · exact three_back t hl hi x hx
theorem aut_last {d n : Nat} {G : List Nat → List Nat} (hd : d = 2 ∨ d = 3) (hG : Aut d G n) (v : List Nat) (hv : ∀ y ∈ v, y < d) (hl : v.length < n) (hf : G v = v) (x : Nat) (hx : x < d) : itF G (bk d) (v ++ [x]) = v ++ [x] := by
  obtain ⟨t, ht⟩ : ∃ t : Nat → Nat, ∀ x, x < d → G (v ++ [x]) = v ++ [t x] := by
    refine ⟨fun x => (G (v ++ [x])).getD v.length 0, fun x hx => ?_⟩
    obtain ⟨y, hy⟩ := hG.pre v x hv hx hl
    rw [hf] at hy
    show G (v ++ [x]) = v ++ [(G (v ++ [x])).getD v.length 0]
    rw [hy]
    simp
  have hm : ∀ x, x < d → ∀ z ∈ v ++ [x], z < d := fun x hx z hz => (List.mem_append.1 hz).elim (hv z) fun hz => by rw [List.mem_singleton.1 hz]; exact hx
  have htl : ∀ x, x < d → t x < d := fun x hx => by
    have := hG.lt (v ++ [x]) (hm x hx) (by simp; omega)
    rw [ht x hx] at this
    exact this (t x) (by simp)
  have hti : ∀ x y, x < d → y < d → t x = t y → x = y := fun x y hx hy e => by
    have := hG.inj (v ++ [x]) (v ++ [y]) (hm x hx) (hm y hy) (by simp; omega) (by simp) (by rw [ht x hx, ht y hy, e])
    simpa using this
  have hit : ∀ j, itF G j (v ++ [x]) = v ++ [itN t j x] ∧ itN t j x < d := fun j => by
    induction j with
    | zero => exact ⟨rfl, hx⟩
    | succ j ih => exact ⟨by show G _ = _; rw [ih.1, ht _ ih.2]; rfl, htl _ ih.2⟩
  rw [(hit _).1, let_back hd t htl hti x hx]
theorem aut_back {d n : Nat} {F : List Nat → List Nat} (hd : d = 2 ∨ d = 3) (h : Aut d F n) : ∀ (k : Nat) (u : List Nat), u.length = k → k ≤ n → (∀ y ∈ u, y < d) → itF F (bk d ^ k) u = u
  | 0, u, hl, _, _ => by
    obtain rfl := List.length_eq_zero_iff.1 hl
    have h1 := (h.it (bk d ^ 0)).len [] (by simp) (by simp)
    exact List.length_eq_zero_iff.1 h1
  | k + 1, u, hl, hk, hu => by
    obtain ⟨v, x, rfl⟩ : ∃ v x, u = v ++ [x] := ⟨u.dropLast, u.getLast (by intro e; rw [e] at hl; simp at hl), (List.dropLast_concat_getLast _).symm⟩
    have hv : v.length = k := by simpa using hl
    have ih := aut_back hd h k v hv (by omega) fun y hy => hu y (List.mem_append.2 (.inl hy))
    rw [Nat.pow_succ, Nat.mul_comm, itF_mul]
    exact aut_last hd (h.it _) v (fun y hy => hu y (List.mem_append.2 (.inl hy))) (by omega) ih x (hu x (by simp))
/-- What F makes of a level, in numbers. -/
def pmF (d : Nat) (F : List Nat → List Nat) (n : Nat) : List Nat := (List.range (pw d n)).map fun k => num d (F (wrd d n k))
theorem pmF_length (d : Nat) (F : List Nat → List Nat) (n : Nat) : (pmF d F n).length = pw d n := by simp [pmF]
theorem pmF_get {d : Nat} {F : List Nat → List Nat} {n k : Nat} (hk : k < pw d n) : (pmF d F n).getD k 0 = num d (F (wrd d n k)) := by
  simp [pmF, List.getD_eq_getElem?_getD, hk]
theorem pmF_it {d n : Nat} {F : List Nat → List Nat} (hd : 0 < d) (h : Aut d F n) {k : Nat} (hk : k < pw d n) : ∀ j, itp (pmF d F n) j k = num d (itF F j (wrd d n k))
  | 0 => (num_wrd d hd n k hk).symm
  | j + 1 => by
    have ih := pmF_it hd h hk j
    have hl : (itF F j (wrd d n k)).length = n := by rw [(h.it j).len _ (wrd_lt d hd n k) (by rw [wrd_length]; exact Nat.le_refl n), wrd_length]
    have hm := (h.it j).lt _ (wrd_lt d hd n k) (by rw [wrd_length]; exact Nat.le_refl n)
    show (pmF d F n).getD (itp (pmF d F n) j k) 0 = _
    rw [ih, pmF_get (num_lt d n _ hl hm), wrd_num d hd n _ hl hm]
    rfl
theorem pmF_pm {d n : Nat} {F : List Nat → List Nat} (hd : 0 < d) (h : Aut d F n) : IsPm (pmF d F n) where
  lt := fun k hk => by
    rw [pmF_length] at hk ⊢
    rw [pmF_get hk]
    exact num_lt d n _ (by rw [h.len _ (wrd_lt d hd n k) (by rw [wrd_length]; exact Nat.le_refl n), wrd_length]) (h.lt _ (wrd_lt d hd n k) (by rw [wrd_length]; exact Nat.le_refl n))
  inj := fun i j hi hj e => by
    rw [pmF_length] at hi hj
    rw [pmF_get hi, pmF_get hj] at e
    have hn := fun k => (show (F (wrd d n k)).length = n by rw [h.len _ (wrd_lt d hd n k) (by rw [wrd_length]; exact Nat.le_refl n), wrd_length])
    have hm := fun k => h.lt _ (wrd_lt d hd n k) (by rw [wrd_length]; exact Nat.le_refl n)
    have e2 : F (wrd d n i) = F (wrd d n j) := by rw [← wrd_num d hd n _ (hn i) (hm i), ← wrd_num d hd n _ (hn j) (hm j), e]
    have e3 := h.inj _ _ (wrd_lt d hd n i) (wrd_lt d hd n j) (by rw [wrd_length]; exact Nat.le_refl n) (by rw [wrd_length, wrd_length]) e2
    rw [← num_wrd d hd n i hi, ← num_wrd d hd n j hj, e3]
theorem pmF_back {d n : Nat} {F : List Nat → List Nat} (hd : d = 2 ∨ d = 3) (h : Aut d F n) {k : Nat} (hk : k < pw d n) : itp (pmF d F n) (bk d ^ n) k = k := by
  rw [pmF_it (by omega) h hk, aut_back hd h n _ (wrd_length d n k) (Nat.le_refl n) (wrd_lt d (by omega) n k), num_wrd d (by omega) n k hk]
end Go.Proofs.YthmcdfjijkecfaaGreat

/- States are maps that respect beginnings. -/
namespace Go.Proofs.YthmcdfjijkecfaaGreat
open Go.RowKit
set_option linter.unusedVariables false
set_option linter.unusedSimpArgs false

theorem img_inj {m : Mach} {l s : Nat} (gd : Good m l s) : ∀ (u v : List Nat) (q : Nat), q < s → (∀ x ∈ u, x < l) → (∀ x ∈ v, x < l) → u.length = v.length → img m q u = img m q v → u = v
  | [], [], _, _, _, _, _, _ => rfl
  | [], y :: v, _, _, _, _, hl, _ => by simp at hl
  | x :: u, [], _, _, _, _, hl, _ => by simp at hl
  | x :: u, y :: v, q, hq, hu, hv, hl, e => by
    have hx := hu x (by simp)
    have hy := hv y (by simp)
    have e1 : m.ot (q * 3 + x) :: img m (m.nx (q * 3 + x)) u = m.ot (q * 3 + y) :: img m (m.nx (q * 3 + y)) v := e
    injection e1 with e2 e3
    have exy : x = y := by
      apply Classical.byContradiction
      intro hn
      rcases Nat.lt_or_gt_of_ne hn with h | h
      · exact gd.inj q hq x y h hy e2
      · exact gd.inj q hq y x h hx e2.symm
    subst exy
    rw [img_inj gd u v _ (gd.nx q x hq hx) (fun z hz => hu z (by simp [hz])) (fun z hz => hv z (by simp [hz])) (by simpa using hl) e3]
theorem aut_img {m : Mach} {l s : Nat} (gd : Good m l s) {q : Nat} (hq : q < s) (n : Nat) : Aut l (img m q) n where
  len := fun u _ _ => img_length m u q
  lt := fun u hu _ => img_lt gd u q hq hu
  pre := fun u x _ _ _ => ⟨_, img_snoc m x u q⟩
  inj := fun u v hu hv _ hl e => img_inj gd u v q hq hu hv hl e
theorem perm_pmF (m : Mach) (l q n : Nat) : perm m l q n = pmF l (img m q) n := rfl
end Go.Proofs.YthmcdfjijkecfaaGreat

/- The graph of a level: what all states make of it, forward and backward. -/
namespace Go.Proofs.YthmcdfjijkecfaaGreat
open Go.RowKit
set_option linter.unusedVariables false
set_option linter.unusedSimpArgs false

/-- A graph that grows: its block, the slices at hand, and the two rows that come next. -/
structure GS (w0 W : World) (G M : Nat) (cA cB vA vB rA rB : Value) (A B : List (List Int)) (la lb : List Int) : Prop where
  bel : Below G w0 W
  blk : W.heap[G]? = some (.cells #[.int .i64 (M : Int), cA, cB] 139 (0, 0))
  mA : Mat W (G + 1) vA A
  mB : Mat W (G + 1) vB B
  dis : ∀ k, vA.ownBlock = some k → vB.ownBlock ≠ some k
  oA : Own W (G + 1) 2 rA (ints la)
  oB : Own W (G + 1) 2 rB (ints lb)

section
variable {w0 W : World} {G M : Nat} {cA cB vA vB rA rB : Value} {A B : List (List Int)} {la lb : List Int}
theorem GS.lt (h : GS w0 W G M cA cB vA vB rA rB A B la lb) : G < W.heap.size := (Array.getElem?_eq_some_iff.1 h.blk).1
theorem GS.alloc (h : GS w0 W G M cA cB vA vB rA rB A B la lb) (hG : G ≤ w0.heap.size) (o : Obj) : GS w0 (W.alloc o) G M cA cB vA vB rA rB A B la lb :=
  ⟨below_alloc h.bel hG o, (Below.heap_alloc W o G h.lt).trans h.blk, h.mA.alloc o, h.mB.alloc o, h.dis, h.oA.alloc o, h.oB.alloc o⟩
theorem GS.drew (h : GS w0 W G M cA cB vA vB rA rB A B la lb) : GS w0 W.drew G M cA cB vA vB rA rB A B la lb := ⟨h.bel.drew, h.blk, h.mA, h.mB, h.dis, h.oA, h.oB⟩
theorem GS.c1 (h : GS w0 W G M cA cB vA vB rA rB A B la lb) : W.cell? ⟨G, 1, none⟩ = some cA := cell_of_row W G 1 _ _ _ h.blk
theorem GS.c2 (h : GS w0 W G M cA cB vA vB rA rB A B la lb) : W.cell? ⟨G, 2, none⟩ = some cB := cell_of_row W G 2 _ _ _ h.blk
theorem GS.fr (h : GS w0 W G M cA cB vA vB rA rB A B la lb) (i : Nat) : W.frozen? ⟨G, i, none⟩ = false := frozen_of_row W G i _ _ h.blk
theorem GS.set1 (h : GS w0 W G M cA cB vA vB rA rB A B la lb) (x : Value) : GS w0 (W.setCell ⟨G, 1, none⟩ x) G M x cB vA vB rA rB A B la lb := by
  have ho : ∀ k, k ≠ G → (W.setCell ⟨G, 1, none⟩ x).heap[k]? = W.heap[k]? := fun k hk => heap_setCell_other W ⟨G, 1, none⟩ k x hk
  refine ⟨h.bel.setCell (Nat.le_refl _) _, heap_setCell_same W G 1 _ _ _ h.blk, h.mA.keep fun k hk _ => ho k (by omega), h.mB.keep fun k hk _ => ho k (by omega), h.dis, h.oA.keep fun k hk => ho k (by have := h.oA.lt k hk; omega), h.oB.keep fun k hk => ho k (by have := h.oB.lt k hk; omega)⟩
theorem GS.set2 (h : GS w0 W G M cA cB vA vB rA rB A B la lb) (x : Value) : GS w0 (W.setCell ⟨G, 2, none⟩ x) G M cA x vA vB rA rB A B la lb := by
  have ho : ∀ k, k ≠ G → (W.setCell ⟨G, 2, none⟩ x).heap[k]? = W.heap[k]? := fun k hk => heap_setCell_other W ⟨G, 2, none⟩ k x hk
  refine ⟨h.bel.setCell (Nat.le_refl _) _, heap_setCell_same W G 2 _ _ _ h.blk, h.mA.keep fun k hk _ => ho k (by omega), h.mB.keep fun k hk _ => ho k (by omega), h.dis, h.oA.keep fun k hk => ho k (by have := h.oA.lt k hk; omega), h.oB.keep fun k hk => ho k (by have := h.oB.lt k hk; omega)⟩

/-- What is of other make, or has another block, is as it was behind an append. -/
theorem Mat.keepApp {w w' : World} {base : Nat} {v x : Value} {M : List (List Int)} {rows : List Value} (h : Mat w base x M) (hv : Own w base 32 v rows) (hdis : ∀ k, v.ownBlock = some k → x.ownBlock ≠ some k)
    (hold : ∀ k, k < w.heap.size → v.ownBlock ≠ some k → w'.heap[k]? = w.heap[k]?) : Mat w' base x M := by
  obtain ⟨rs, h1, h2, h3⟩ := h
  exact ⟨rs, h1.keep fun k hk => hold k (h1.lt k hk).2 (fun e => hdis k e hk), h2, fun i r l hr hl => (h3 i r l hr hl).keep fun k hk => hold k ((h3 i r l hr hl).lt k hk).2 ((h3 i r l hr hl).ne hv (by decide) k hk)⟩

section
variable {ops : Array Oper} {o : Oper} {a : Act} {K : Act → World → Prop} {Q : Exit → Act → World → Prop} {E : Prop}
theorem GS.appA (h : GS w0 W G M cA cB vA vB rA rB A B la lb) (hgd : o.guard = none) (s x : Operand) (ho : o.op = .call { callee := .builtin .append, args := #[s, x], argTypes := #[43, 43] })
    (hs : a.eval s = vA) (b : Nat) (hB : W.cell? ⟨b, 0, none⟩ = some rA) (hx : a.eval x = .slice (some ⟨b, 0, none⟩) 1 1) (hlen : A.length ≤ 1000000)
    (k : ∀ g cap w', GS w0 w' G M cA cB (.slice (some ⟨g, 0, none⟩) (A.length + 1) cap) vB rA rB (A ++ [la]) B la lb → W.heap.size ≤ w'.heap.size → (∀ k, k < W.heap.size → vA.ownBlock ≠ some k → w'.heap[k]? = W.heap[k]?) → K (a.put o.dst (.slice (some ⟨g, 0, none⟩) (A.length + 1) cap)) w') :
    if Region.wanted o (yielded ops a.tmps) = true then Oper.wp Tryz.prog o a W K Q else E := by
  obtain ⟨rows, h1, h2, h3⟩ := h.mA
  refine step_app1 43 32 (.slice none 0 0) 24 Tryz.underlying43 info_ints rfl (by omega) hgd s x ho (G + 1) vA rows hs h1 h.lt b rA h.oA.oneCell hB hx (by omega) ?_
  intro g cap w' k1 k2 k3 k4
  rw [h2] at k1 ⊢
  refine k g cap w' ⟨h.bel.trans (k2.mono (Nat.le_succ G)), ?_, Mat.snoc h1 h2 h3 h.oA k1 k3, h.mB.keepApp h1 h.dis k3, ?_, h.oA.keep fun k hk => k3 k (h.oA.lt k hk).2 (h.oA.ne h1 (by decide) k hk), h.oB.keep fun k hk => k3 k (h.oB.lt k hk).2 (h.oB.ne h1 (by decide) k hk)⟩ k2.size k3
  · rw [k3 G h.lt (fun e => by have := (h1.lt G e).1; omega)]; exact h.blk
  · intro k hk hk'
    have e : g = k := by simpa [Value.ownBlock] using hk
    subst e
    rcases k4 with k4 | k4
    · exact h.dis g k4 hk'
    · have := (h.mB.lt g hk').2
      omega
theorem GS.appB (h : GS w0 W G M cA cB vA vB rA rB A B la lb) (hgd : o.guard = none) (s x : Operand) (ho : o.op = .call { callee := .builtin .append, args := #[s, x], argTypes := #[43, 43] })
    (hs : a.eval s = vB) (b : Nat) (hB : W.cell? ⟨b, 0, none⟩ = some rB) (hx : a.eval x = .slice (some ⟨b, 0, none⟩) 1 1) (hlen : B.length ≤ 1000000)
    (k : ∀ g cap w', GS w0 w' G M cA cB vA (.slice (some ⟨g, 0, none⟩) (B.length + 1) cap) rA rB A (B ++ [lb]) la lb → K (a.put o.dst (.slice (some ⟨g, 0, none⟩) (B.length + 1) cap)) w') :
    if Region.wanted o (yielded ops a.tmps) = true then Oper.wp Tryz.prog o a W K Q else E := by
  obtain ⟨rows, h1, h2, h3⟩ := h.mB
  refine step_app1 43 32 (.slice none 0 0) 24 Tryz.underlying43 info_ints rfl (by omega) hgd s x ho (G + 1) vB rows hs h1 h.lt b rB h.oB.oneCell hB hx (by omega) ?_
  intro g cap w' k1 k2 k3 k4
  rw [h2] at k1 ⊢
  refine k g cap w' ⟨h.bel.trans (k2.mono (Nat.le_succ G)), ?_, h.mA.keepApp h1 (fun k hk hk' => h.dis k hk' hk) k3, Mat.snoc h1 h2 h3 h.oB k1 k3, ?_, h.oA.keep fun k hk => k3 k (h.oA.lt k hk).2 (h.oA.ne h1 (by decide) k hk), h.oB.keep fun k hk => k3 k (h.oB.lt k hk).2 (h.oB.ne h1 (by decide) k hk)⟩
  · rw [k3 G h.lt (fun e => by have := (h1.lt G e).1; omega)]; exact h.blk
  · intro k hk hk'
    have e : g = k := by simpa [Value.ownBlock] using hk'
    subst e
    rcases k4 with k4 | k4
    · exact h.dis g hk k4
    · have := (h.mA.lt g hk).2
      omega
end
end

/-- What an inverse makes of a level, as far as it is known. -/
def bkw (P : Nat → Nat) (M j : Nat) : List Nat := (List.range M).map fun p => if P p < j then P p else 0
theorem bkw_length (P : Nat → Nat) (M j : Nat) : (bkw P M j).length = M := by simp [bkw]
theorem bkw_zero (P : Nat → Nat) (M : Nat) : nats (bkw P M 0) = List.replicate M (.int .i64 0) := by
  apply List.ext_getElem?
  intro i
  by_cases h : i < M
  · simp [nats, bkw, h]
  · simp [nats, bkw, h]
theorem bkw_step (P R : Nat → Nat) (M j : Nat) (h1 : ∀ p, p < M → R (P p) = p) (h2 : P (R j) = j) (hj : R j < M) : (nats (bkw P M j)).set (R j) (.int .i64 (j : Int)) = nats (bkw P M (j + 1)) := by
  apply List.ext_getElem?
  intro i
  rw [List.getElem?_set]
  by_cases hi : R j = i
  · subst hi
    rw [if_pos rfl, if_pos (by simp [nats, bkw]; exact hj)]
    simp [nats, bkw, hj, h2]
  · rw [if_neg hi]
    by_cases hM : i < M
    · have hne : P i ≠ j := fun e => hi (by rw [← e]; exact h1 i hM)
      simp only [nats, bkw, List.getElem?_map, List.getElem?_range hM, Option.map_some]
      by_cases hlt : P i < j
      · rw [if_pos hlt, if_pos (by omega)]
      · rw [if_neg hlt, if_neg (by omega)]
    · simp [nats, bkw, hM]
theorem bkw_all (P : Nat → Nat) (M : Nat) (h : ∀ p, p < M → P p < M) : bkw P M M = (List.range M).map P := by
  unfold bkw
  apply List.map_congr_left
  intro p hp
  rw [if_pos (h p (List.mem_range.1 hp))]

/-- A graph in its block. -/
def GB (w : World) (G M : Nat) (vA vB : Value) (A B : List (List Int)) : Prop :=
  w.heap[G]? = some (.cells #[.int .i64 (M : Int), vA, vB] 139 (0, 0)) ∧ Mat w (G + 1) vA A ∧ Mat w (G + 1) vB B
theorem GB.lt {w : World} {G M : Nat} {vA vB : Value} {A B : List (List Int)} (h : GB w G M vA vB A B) : G < w.heap.size := (Array.getElem?_eq_some_iff.1 h.1).1
theorem GB.below {w w' : World} {G M : Nat} {vA vB : Value} {A B : List (List Int)} (h : GB w G M vA vB A B) (hb : Below w.heap.size w w') : GB w' G M vA vB A B :=
  ⟨(hb.block G h.lt).trans h.1, h.2.1.below hb, h.2.2.below hb⟩
theorem GB.c0 {w : World} {G M : Nat} {vA vB : Value} {A B : List (List Int)} (h : GB w G M vA vB A B) : w.cell? ⟨G, 0, none⟩ = some (.int .i64 (M : Int)) := cell_of_row w G 0 _ _ _ h.1
theorem GB.c1 {w : World} {G M : Nat} {vA vB : Value} {A B : List (List Int)} (h : GB w G M vA vB A B) : w.cell? ⟨G, 1, none⟩ = some vA := cell_of_row w G 1 _ _ _ h.1
theorem GB.c2 {w : World} {G M : Nat} {vA vB : Value} {A B : List (List Int)} (h : GB w G M vA vB A B) : w.cell? ⟨G, 2, none⟩ = some vB := cell_of_row w G 2 _ _ _ h.1
def Dis (vA vB : Value) : Prop := ∀ k, vA.ownBlock = some k → vB.ownBlock ≠ some k

set_option maxHeartbeats 4000000 in
set_option maxRecDepth 100000 in
theorem graph_any (b : Nat) (w : World) (m : Mach) (hm : MB w 27 b m) (l s : Nat) (g : Good m l s) (n : Nat) (hn : n ≤ 40) (hb : pw l n ≤ 100000) :
    Calls Tryz.prog 109 #[.pointer (some ⟨b, 0, none⟩), .int .i64 n] w fun e w' => ∃ vA vB, e = .returned (.pointer (some ⟨w.heap.size, 0, none⟩)) ∧ GB w' w.heap.size (pw l n) vA vB (tabA m l n s) (tabA (inv m l s) l n s) ∧ Below w.heap.size w w' := by
  have hblt := hm.lt
  have cL := hm.cL
  rw [g.L] at cL
  have cS := (hm.alloc (.cells #[.int .i64 ((pw l n : Nat) : Int), .slice none 0 0, .slice none 0 0] 139)).cS
  rw [g.S] at cS
  have l2 := g.l2
  have s16 := g.s16
  have hpow := hid (fun W => power_any l n (by omega) (by omega) (by omega) W)
  have hst := hid (fun q (hq : q < s) W hW => ofState_any b W m hW l s g q hq n hn hb)
  have hnz := hid (fun m q => nats_ints (perm m l q n))
  have hB := hid (below_alloc (Below.refl w.heap.size w) (Nat.le_refl _) (.cells #[.int .i64 ((pw l n : Nat) : Int), .slice none 0 0, .slice none 0 0] 139))
  have hblk := hid (heap_alloc_new w (.cells #[.int .i64 ((pw l n : Nat) : Int), .slice none 0 0, .slice none 0 0] 139))
  have hget := hid (fun q k (hk : k < pw l n) => permZ_get m l q n k hk)
  have hplt := hid (fun q k (hq : q < s) => pf_lt g q n k hq)
  have hpos := pw_pos l (by omega) n
  have hbk := hid (fun q j (hq : q < s) (hj : j < pw l n) => bkw_step (pf (inv m l s) l q n) (pf m l q n) (pw l n) j (fun p hp => inv_pf g q n p hq hp) (pf_inv g q n j hq hj) (pf_lt g q n j hq))
  have hba := hid (fun q (hq : q < s) => bkw_all (pf (inv m l s) l q n) (pw l n) (fun p hp => pf_lt (inv_good g) q n p hq))
  have hpl := hid (fun q => permZ_length m l q n)
  generalize hI : inv m l s = I at *
  replace hI := hid hI
  replace hm := hid hm
  replace g := hid g
  generalize hM : pw l n = M at *
  replace hM := hid hM
  go_enter Tryz.func109, Tryz.ntmps109
  go_wp2_with (first
    | (go_at_call 171; (with_reducible refine (hpow.out _).mono ?_); rintro e w1 ⟨rfl, rfl⟩))
  have hdis0 : Dis (.slice none 0 0) (.slice none 0 0) := fun k hk => by cases hk
  go_loopw [23] (fun i wr => ∃ q : Nat, q ≤ s ∧ i = .int .i64 q ∧ ∃ vA vB, GB wr w.heap.size M vA vB (tabA m l n q) (tabA I l n q) ∧ Dis vA vB ∧ Below w.heap.size w wr) (fun i _ => s - (intOf i).toNat)
  case atStart => exact ⟨0, Nat.zero_le _, rfl, _, _, ⟨hblk.out, Mat.nil _ _, Mat.nil _ _⟩, hdis0, hB.out⟩
  case round =>
    obtain ⟨q, hq, rfl, vA, vB, r1, r2, rB⟩ := hrel
    clear cL cS hB hblk hdis0
    replace r1 := hid r1; replace r2 := hid r2; replace rB := hid rB
    by_cases hlq : q < s
    · have dq : decide ((q : Int) < (s : Int)) = true := decide_eq_true (by omega)
      have hsA := hid (tabA_snoc m l n q)
      have hsI := hid (tabA_snoc I l n q)
      have hMw := hid (hm.out.below rB.out hblt)
      have hmk := fun W : World => run_make_row' (P := Tryz.prog) 32 2 (.int .i64 0) 8 Tryz.underlying32 info_i64 rfl .i64 .i64 M (by omega) (by omega) W
      go_wp2_with (first
        | (go_at_call 103; (with_reducible refine (hst.out q hlq _ hMw.out).mono ?_); rintro e w3 ⟨r, rfl, hO, hb3⟩; rw [hnz.out] at hO; obtain ⟨g1, c1, rfl, _, _⟩ := hO.blk (fun e => by have h1 := congrArg List.length e; have h2 := hpl.out q; unfold permZ at h2; rw [ints_length, h2] at h1; simp at h1; omega); have hl := hpl.out q; unfold permZ at hl; rw [ints_length, hl] at hO ⊢; have hR := hid (hO.mono (Nat.succ_le_of_lt r1.out.lt)); have hmadeO := hid (Own.made w3 w3.heap.size 2 (.int .i64 0) M (Nat.le_refl _) (by omega)); have t1 := hid (r1.out.below hb3); have tB := hid (rB.out.trans (hb3.mono rB.out.size)); clear hl hO hb3 r1 rB hMw))
      clear hmk
      rw [← bkw_zero (pf I l q n) M] at hmadeO
      generalize madeCells #[.int .i64 0] M = mc at *
      have hBa := hid ((Below.refl w3.heap.size w3).alloc (Nat.le_refl _) (.cells mc 2))
      go_loopw [35] (fun i wi => ∃ k : Nat, k ≤ M ∧ i = .int .i64 k ∧ Own wi w3.heap.size 2 (.slice (some ⟨w3.heap.size, 0, none⟩) M M) (nats (bkw (pf I l q n) M k)) ∧ Below w3.heap.size w3 wi) (fun i _ => M - (intOf i).toNat)
      case atStart => exact ⟨0, Nat.zero_le _, rfl, hmadeO.out, hBa.out⟩
      case round =>
        obtain ⟨k, hk, rfl, y1, yB⟩ := hrel
        clear hmadeO hBa
        replace y1 := hid y1; replace yB := hid yB
        by_cases hlk : k < M
        · have hgk := hget.out q k hlk
          have ck := (hR.out.below yB.out).cellAt k (.int .i64 ((pf m l q n k : Nat) : Int)) (by show (ints (permZ m l q n))[k]? = _; simp [ints, hgk])
          have hpk := hplt.out q k hlq
          have hstep := hid (hbk.out q k hlq hlk)
          have hbl := hid (show (nats (bkw (pf I l q n) M k)).length = M by rw [nats_length, bkw_length])
          obtain ⟨vo, co⟩ : ∃ u, wr.cell? ⟨w3.heap.size, pf m l q n k, none⟩ = some u := ⟨_, y1.out.cellAt _ _ (List.getElem?_eq_getElem (by rw [hbl.out]; exact hpk))⟩
          have fo := y1.out.frozenAt hbl.out (pf m l q n k)
          have z1 := hid (y1.out.set hbl.out (pf m l q n k) (.int .i64 (k : Int)) hpk)
          have zB := hid (yB.out.setCell (p := ⟨w3.heap.size, pf m l q n k, none⟩) (Nat.le_refl _) (.int .i64 (k : Int)))
          clear hgk
          generalize pf m l q n k = pk at *
          go_wp2
          go_roundw
          case rel => exact ⟨k + 1, by omega, by go_num, by rw [← hstep.out]; exact z1.out, zB.out⟩
          case measure => simp [intOf]; omega
        · obtain rfl : M = k := by omega
          have hg := hid (show GS w wr w.heap.size M vA vB vA vB (.slice (some ⟨g1, 0, none⟩) M c1) (.slice (some ⟨w3.heap.size, 0, none⟩) M M) (tabA m l n q) (tabA I l n q) (permZ m l q n) (permZ I l q n) from
            ⟨tB.out.trans (yB.out.mono tB.out.size), (t1.out.below yB.out).1, (t1.out.below yB.out).2.1, (t1.out.below yB.out).2.2, r2.out, hR.out.below yB.out, by have h := y1.out; rw [hba.out q hlq, nats_ints] at h; exact (by unfold permZ; rw [perm_pf, hM.out]; exact h.mono (Nat.succ_le_of_lt t1.out.lt))⟩)
          clear y1 yB t1 tB r2 hR hst hpow hnz hget hplt hbk hba hpl hm
          go_upto_region 12 with (fail)
          refine wp_region_heldL (L := [(8, (fun w' : World => w'.cell? ⟨w.heap.size, 1, none⟩ = some vA)), (15, (fun w' : World => w'.cell? ⟨w.heap.size, 2, none⟩ = some vB))]) (by kernel_rfl) (HeldL.cons (fun _ => hg.out.drew.c1) (HeldL.cons (fun _ => hg.out.drew.c2) HeldL.nil)) (fun hHeld => ?_)
          have hg' := hid hg.out.drew
          have hh := hid (Nat.le_refl wr.drew.heap.size)
          have hvlt := hid (fun k hk => (hg'.out.mA.lt k hk).2)
          generalize hwd : wr.drew = wd at *
          clear hg
          have hg := hg'
          clear hg'
          generalize hh0 : wd.heap.size = h0 at hh hvlt
          have hh' := hid (show h0 ≤ wd.heap.size by omega)
          clear hh hh0 hwd
          have hh := hh'
          clear hh'
          refine wpAnyL_take0 (i := 0) (v := ?_) rfl (by kernel_rfl) (by kernel_rfl) (by kernel_rfl) (by rfl) (fun _ _ _ h => h) (Or.inl ⟨by rfl, ?_⟩) (by assumption) ?_
          rotate_left
          · (intro W _; go_simp; (with_reducible rfl))
          intro hHeld'
          clear hHeld; have hHeld := hHeld'; clear hHeld'
          try simp only [Act.put, List.setIfInBounds_toArray, List.set_cons_zero, List.set_cons_succ]
          refine wpAnyL_take0 (i := 1) (v := ?_) rfl (by kernel_rfl) (by kernel_rfl) (by kernel_rfl) (by rfl) (fun _ _ _ h => h) (Or.inl ⟨by rfl, ?_⟩) (by assumption) ?_
          rotate_left
          · (intro W _; go_simp; (with_reducible rfl))
          intro hHeld'
          clear hHeld; have hHeld := hHeld'; clear hHeld'
          try simp only [Act.put, List.setIfInBounds_toArray, List.set_cons_zero, List.set_cons_succ]
          refine wpAnyL_take0 (i := 2) (v := ?_) rfl (by kernel_rfl) (by kernel_rfl) (by kernel_rfl) (by rfl) (fun _ _ _ h => h) (Or.inl ⟨by rfl, ?_⟩) (by assumption) ?_
          rotate_left
          · (intro W _; go_simp; (with_reducible rfl))
          intro hHeld'
          clear hHeld; have hHeld := hHeld'; clear hHeld'
          try simp only [Act.put, List.setIfInBounds_toArray, List.set_cons_zero, List.set_cons_succ]
          refine wpAnyL_take0 (i := 3) (v := ?_) rfl (by kernel_rfl) (by kernel_rfl) (by kernel_rfl) (by rfl) (fun _ _ _ h => h) (Or.inl ⟨by rfl, ?_⟩) (by assumption) ?_
          rotate_left
          · (intro W _; go_simp; (with_reducible rfl))
          intro hHeld'
          clear hHeld; have hHeld := hHeld'; clear hHeld'
          try simp only [Act.put, List.setIfInBounds_toArray, List.set_cons_zero, List.set_cons_succ]
          refine wpAnyL_take0 (i := 4) (v := ?_) rfl (by kernel_rfl) (by kernel_rfl) (by kernel_rfl) (by rfl) (fun _ _ _ h => h) (Or.inl ⟨by rfl, ?_⟩) (by assumption) ?_
          rotate_left
          · (intro W _; go_simp; (with_reducible rfl))
          intro hHeld'
          clear hHeld; have hHeld := hHeld'; clear hHeld'
          try simp only [Act.put, List.setIfInBounds_toArray, List.set_cons_zero, List.set_cons_succ]
          refine wpAnyL_takeT (i := 5) 8 (v := vA) (fun w' : World => w'.cell? ⟨w.heap.size, 1, none⟩ = some vA) rfl rfl (by kernel_rfl) (by kernel_rfl) (by kernel_rfl) (by rfl) (by decide +kernel) (by decide +kernel) (by decide +kernel) (by simp) (fun _ _ _ h => h) (Or.inl ⟨by rfl, ?_⟩) (by assumption) ?_
          · (intro W hW; (try dsimp only at hW); go_simp)
          intro hHeld'
          clear hHeld; have hHeld := hHeld'; clear hHeld'
          try simp only [Act.put, List.setIfInBounds_toArray, List.set_cons_zero, List.set_cons_succ]
          refine wpAnyL_take0 (i := 6) (v := ?_) rfl (by kernel_rfl) (by kernel_rfl) (by kernel_rfl) (by rfl) (fun _ _ _ h => h) (Or.inl ⟨by rfl, ?_⟩) (by assumption) ?_
          rotate_left
          · (intro W _; go_simp; (with_reducible rfl))
          intro hHeld'
          clear hHeld; have hHeld := hHeld'; clear hHeld'
          try simp only [Act.put, List.setIfInBounds_toArray, List.set_cons_zero, List.set_cons_succ]
          refine wpAnyL_take0 (i := 9) (v := ?_) rfl (by kernel_rfl) (by kernel_rfl) (by kernel_rfl) (by rfl) (fun _ _ _ h => h) (Or.inl ⟨by rfl, ?_⟩) (by assumption) ?_
          rotate_left
          · (intro W _; go_simp; (with_reducible rfl))
          intro hHeld'
          clear hHeld; have hHeld := hHeld'; clear hHeld'
          try simp only [Act.put, List.setIfInBounds_toArray, List.set_cons_zero, List.set_cons_succ]
          refine wpAnyL_take0 (i := 10) (v := ?_) rfl (by kernel_rfl) (by kernel_rfl) (by kernel_rfl) (by rfl) (fun _ _ _ h => h) (Or.inl ⟨by rfl, ?_⟩) (by assumption) ?_
          rotate_left
          · (intro W _; go_simp; (with_reducible rfl))
          intro hHeld'
          clear hHeld; have hHeld := hHeld'; clear hHeld'
          try simp only [Act.put, List.setIfInBounds_toArray, List.set_cons_zero, List.set_cons_succ]
          refine wpAnyL_take0 (i := 11) (v := ?_) rfl (by kernel_rfl) (by kernel_rfl) (by kernel_rfl) (by rfl) (fun _ _ _ h => h) (Or.inl ⟨by rfl, ?_⟩) (by assumption) ?_
          rotate_left
          · (intro W _; go_simp; (with_reducible rfl))
          intro hHeld'
          clear hHeld; have hHeld := hHeld'; clear hHeld'
          try simp only [Act.put, List.setIfInBounds_toArray, List.set_cons_zero, List.set_cons_succ]
          refine wpAnyL_takeT (i := 12) 15 (v := vB) (fun w' : World => w'.cell? ⟨w.heap.size, 2, none⟩ = some vB) rfl rfl (by kernel_rfl) (by kernel_rfl) (by kernel_rfl) (by rfl) (by decide +kernel) (by decide +kernel) (by decide +kernel) (by simp) (fun _ _ _ h => h) (Or.inl ⟨by rfl, ?_⟩) (by assumption) ?_
          · (intro W hW; (try dsimp only at hW); go_simp)
          intro hHeld'
          clear hHeld; have hHeld := hHeld'; clear hHeld'
          try simp only [Act.put, List.setIfInBounds_toArray, List.set_cons_zero, List.set_cons_succ]
          refine wpAnyL_take0 (i := 13) (v := ?_) rfl (by kernel_rfl) (by kernel_rfl) (by kernel_rfl) (by rfl) (fun _ _ _ h => h) (Or.inl ⟨by rfl, ?_⟩) (by assumption) ?_
          rotate_left
          · (intro W _; go_simp; (with_reducible rfl))
          intro hHeld'
          clear hHeld; have hHeld := hHeld'; clear hHeld'
          try simp only [Act.put, List.setIfInBounds_toArray, List.set_cons_zero, List.set_cons_succ]
          refine wpAnyL_ready (rs := [7, 14]) (by kernel_rfl) (by simp) ?_
          refine AllReadyL.cons rfl (fun K hK => ?_) ?_
          · -- the box of the first row comes first
            go_simp
            have hg' := hid (hg.out.alloc (Nat.le_refl _) (.cells #[Value.slice (some ⟨g1, 0, none⟩) M c1] 32))
            have boxA' : (wd.alloc (.cells #[Value.slice (some ⟨g1, 0, none⟩) M c1] 32)).cell? ⟨wd.heap.size, 0, none⟩ = some (Value.slice (some ⟨g1, 0, none⟩) M c1) := by simp
            have hbA := hid (show h0 ≤ wd.heap.size ∧ wd.heap.size < (wd.alloc (.cells #[Value.slice (some ⟨g1, 0, none⟩) M c1] 32)).heap.size from ⟨hh.out, by simp⟩)
            have hh' := hid (show h0 ≤ (wd.alloc (.cells #[Value.slice (some ⟨g1, 0, none⟩) M c1] 32)).heap.size from by have := hh.out; simp; omega)
            generalize hbAe : wd.heap.size = bA at *
            generalize wd.alloc (.cells #[Value.slice (some ⟨g1, 0, none⟩) M c1] 32) = we at *
            clear hbAe hg hh
            have hg := hg'; have hh := hh'; have boxA := hid boxA'
            clear hg' hh' boxA'
            refine hK.out _ _ (HeldL.cons (fun _ => hg.out.c1) (HeldL.cons (fun _ => hg.out.c2) HeldL.nil)) (fun hHeld' => ?_)
            clear hK K hHeld; have hHeld := hHeld'; clear hHeld'
            try simp only [Act.put, List.setIfInBounds_toArray, List.set_cons_zero, List.set_cons_succ]
            refine wpAnyL_ready (rs := [8, 14]) (by kernel_rfl) (by simp) ?_
            refine AllReadyL.cons rfl (fun K hK => ?_) ?_
            · refine GS.appA hg.out rfl _ _ rfl rfl bA boxA.out rfl (by rw [tabA_length]; omega) ?_
              intro ga ca wf hg' hsz hold
              have hh' := hid (show h0 ≤ wf.heap.size from Nat.le_trans hh.out hsz)
              clear hg hh hold hsz boxA hbA
              have hg := hid hg'; have hh := hh'
              clear hg' hh'
              refine hK.out _ _ (HeldL.cons (fun _ => hg.out.c1) (HeldL.cons (fun _ => hg.out.c2) HeldL.nil)) (fun hHeld' => ?_)
              clear hK K hHeld; have hHeld := hHeld'; clear hHeld'
              try simp only [Act.put, List.setIfInBounds_toArray, List.set_cons_zero, List.set_cons_succ]
              refine wpAnyL_ready (rs := [14]) (by kernel_rfl) (by simp) ?_
              refine AllReadyL.cons rfl (fun K hK => ?_) AllReadyL.nil
              go_simp
              have hg' := hid (hg.out.alloc (Nat.le_refl _) (.cells #[Value.slice (some ⟨w3.heap.size, 0, none⟩) M M] 32))
              have boxB' : (wf.alloc (.cells #[Value.slice (some ⟨w3.heap.size, 0, none⟩) M M] 32)).cell? ⟨wf.heap.size, 0, none⟩ = some (Value.slice (some ⟨w3.heap.size, 0, none⟩) M M) := by simp
              have hbB := hid (show h0 ≤ wf.heap.size ∧ wf.heap.size < (wf.alloc (.cells #[Value.slice (some ⟨w3.heap.size, 0, none⟩) M M] 32)).heap.size from ⟨hh.out, by simp⟩)
              have hh' := hid (show h0 ≤ (wf.alloc (.cells #[Value.slice (some ⟨w3.heap.size, 0, none⟩) M M] 32)).heap.size from by have := hh.out; simp; omega)
              generalize hbBe : wf.heap.size = bB at *
              generalize wf.alloc (.cells #[Value.slice (some ⟨w3.heap.size, 0, none⟩) M M] 32) = wg at *
              clear hbBe hg hh
              have hg := hg'; have hh := hh'; have boxB := hid boxB'
              clear hg' hh' boxB'
              refine hK.out _ _ (HeldL.cons (fun _ => hg.out.c1) (HeldL.cons (fun _ => hg.out.c2) HeldL.nil)) (fun hHeld' => ?_)
              clear hK K hHeld; have hHeld := hHeld'; clear hHeld'
              try simp only [Act.put, List.setIfInBounds_toArray, List.set_cons_zero, List.set_cons_succ]
              refine wpAnyL_ready (rs := [15]) (by kernel_rfl) (by simp) ?_
              refine AllReadyL.cons rfl (fun K hK => ?_) AllReadyL.nil
              refine GS.appB hg.out rfl _ _ rfl rfl bB boxB.out rfl (by rw [tabA_length]; omega) ?_
              intro gb cb wx hg'
              clear hg boxB
              have hg := hid hg'
              clear hg'
              refine hK.out _ _ (HeldL.cons (fun _ => hg.out.c1) (HeldL.cons (fun _ => hg.out.c2) HeldL.nil)) (fun hHeld' => ?_)
              clear hK K hHeld; have hHeld := hHeld'; clear hHeld'
              try simp only [Act.put, List.setIfInBounds_toArray, List.set_cons_zero, List.set_cons_succ]
              refine wpAnyL_take0 (i := 16) (v := ?_) rfl (by kernel_rfl) (by kernel_rfl) (by kernel_rfl) (by rfl) (fun _ _ _ h => h) (Or.inl ⟨by rfl, ?_⟩) (by assumption) ?_
              rotate_left
              · (intro W _; go_simp; (with_reducible rfl))
              intro hHeld'
              clear hHeld; have hHeld := hHeld'; clear hHeld'
              try simp only [Act.put, List.setIfInBounds_toArray, List.set_cons_zero, List.set_cons_succ]
              refine wpAnyL_take0 (i := 17) (v := ?_) rfl (by kernel_rfl) (by kernel_rfl) (by kernel_rfl) (by rfl) (fun _ _ _ h => h) (Or.inl ⟨by rfl, ?_⟩) (by assumption) ?_
              rotate_left
              · (intro W _; go_simp; (with_reducible rfl))
              intro hHeld'
              clear hHeld; have hHeld := hHeld'; clear hHeld'
              try simp only [Act.put, List.setIfInBounds_toArray, List.set_cons_zero, List.set_cons_succ]
              have q1 := hg.out.c1
              have q2 := hg.out.fr 1
              refine wpAnyL_ready (rs := [18]) (by kernel_rfl) (by simp) ?_
              refine AllReadyL.cons rfl (fun K hK => ?_) AllReadyL.nil
              go_simp
              have hg' := hid (hg.out.set1 (.slice (some ⟨ga, 0, none⟩) ((tabA m l n q).length + 1) ca))
              clear q1 q2 hg
              have hg := hg'
              clear hg'
              refine hK.out _ _ (HeldL.cons (fun h => absurd h (by decide +kernel)) (HeldL.cons (fun h => absurd h (by decide +kernel)) HeldL.nil)) (fun hHeld' => ?_)
              clear hK K hHeld; have hHeld := hHeld'; clear hHeld'
              try simp only [Act.put, List.setIfInBounds_toArray, List.set_cons_zero, List.set_cons_succ]
              refine wpAnyL_take0 (i := 19) (v := ?_) rfl (by kernel_rfl) (by kernel_rfl) (by kernel_rfl) (by rfl) (fun _ _ _ h => h) (Or.inl ⟨by rfl, ?_⟩) (by assumption) ?_
              rotate_left
              · (intro W _; go_simp; (with_reducible rfl))
              intro hHeld'
              clear hHeld; have hHeld := hHeld'; clear hHeld'
              try simp only [Act.put, List.setIfInBounds_toArray, List.set_cons_zero, List.set_cons_succ]
              refine wpAnyL_take0 (i := 20) (v := ?_) rfl (by kernel_rfl) (by kernel_rfl) (by kernel_rfl) (by rfl) (fun _ _ _ h => h) (Or.inl ⟨by rfl, ?_⟩) (by assumption) ?_
              rotate_left
              · (intro W _; go_simp; (with_reducible rfl))
              intro hHeld'
              clear hHeld; have hHeld := hHeld'; clear hHeld'
              try simp only [Act.put, List.setIfInBounds_toArray, List.set_cons_zero, List.set_cons_succ]
              have q1 := hg.out.c2
              have q2 := hg.out.fr 2
              refine wpAnyL_ready (rs := [21]) (by kernel_rfl) (by simp) ?_
              refine AllReadyL.cons rfl (fun K hK => ?_) AllReadyL.nil
              go_simp
              have hg' := hid (hg.out.set2 (.slice (some ⟨gb, 0, none⟩) ((tabA I l n q).length + 1) cb))
              clear q1 q2 hg
              have hg := hg'
              clear hg'
              refine hK.out _ _ (HeldL.cons (fun h => absurd h (by decide +kernel)) (HeldL.cons (fun h => absurd h (by decide +kernel)) HeldL.nil)) (fun hHeld' => ?_)
              clear hK K hHeld; have hHeld := hHeld'; clear hHeld'
              try simp only [Act.put, List.setIfInBounds_toArray, List.set_cons_zero, List.set_cons_succ]
              refine wpAnyL_done (by kernel_rfl) ?_ _
              go_wp2
              go_roundw
              case rel =>
                have hx := hg.out
                exact ⟨q + 1, by omega, by go_num, _, _, ⟨hx.blk, by rw [hsA.out]; exact hx.mA, by rw [hsI.out]; exact hx.mB⟩, hx.dis, hx.bel⟩
              case measure => simp [intOf]; omega
            refine AllReadyL.cons rfl (fun K hK => ?_) AllReadyL.nil
            go_simp
            have hg' := hid (hg.out.alloc (Nat.le_refl _) (.cells #[Value.slice (some ⟨w3.heap.size, 0, none⟩) M M] 32))
            have boxB' : (we.alloc (.cells #[Value.slice (some ⟨w3.heap.size, 0, none⟩) M M] 32)).cell? ⟨we.heap.size, 0, none⟩ = some (Value.slice (some ⟨w3.heap.size, 0, none⟩) M M) := by simp
            have hbB := hid (show h0 ≤ we.heap.size ∧ we.heap.size < (we.alloc (.cells #[Value.slice (some ⟨w3.heap.size, 0, none⟩) M M] 32)).heap.size from ⟨hh.out, by simp⟩)
            have boxA' := (World.cell?_of_block (Below.heap_alloc we (.cells #[Value.slice (some ⟨w3.heap.size, 0, none⟩) M M] 32) bA hbA.out.2)).trans boxA.out
            have hbA' := hid (show h0 ≤ bA ∧ bA < (we.alloc (.cells #[Value.slice (some ⟨w3.heap.size, 0, none⟩) M M] 32)).heap.size from ⟨hbA.out.1, by have := hbA.out.2; simp; omega⟩)
            have hh' := hid (show h0 ≤ (we.alloc (.cells #[Value.slice (some ⟨w3.heap.size, 0, none⟩) M M] 32)).heap.size from by have := hh.out; simp; omega)
            generalize hbBe : we.heap.size = bB at *
            generalize we.alloc (.cells #[Value.slice (some ⟨w3.heap.size, 0, none⟩) M M] 32) = wf at *
            clear hbBe hg hh
            have hg := hg'; have hh := hh'; have boxB := hid boxB'
            clear hg' hh' boxB'
            clear boxA hbA
            have boxA := hid boxA'; have hbA := hbA'
            clear boxA' hbA'
            refine hK.out _ _ (HeldL.cons (fun _ => hg.out.c1) (HeldL.cons (fun _ => hg.out.c2) HeldL.nil)) (fun hHeld' => ?_)
            clear hK K hHeld; have hHeld := hHeld'; clear hHeld'
            try simp only [Act.put, List.setIfInBounds_toArray, List.set_cons_zero, List.set_cons_succ]
            refine wpAnyL_ready (rs := [8]) (by kernel_rfl) (by simp) ?_
            refine AllReadyL.cons rfl (fun K hK => ?_) AllReadyL.nil
            refine GS.appA hg.out rfl _ _ rfl rfl bA boxA.out rfl (by rw [tabA_length]; omega) ?_
            intro ga ca wg hg' hsz hold
            have boxB' := hid ((World.cell?_of_block (hold bB hbB.out.2 (fun e => by have h1 := hbB.out.1; have h2 := hvlt.out bB e; omega))).trans boxB.out)
            have hh' := hid (show h0 ≤ wg.heap.size from Nat.le_trans hh.out hsz)
            clear hg hh hold hsz boxA hbA
            have hg := hid hg'; have hh := hh'
            clear hg' hh'
            clear boxB hbB
            have boxB := boxB'
            clear boxB'
            refine hK.out _ _ (HeldL.cons (fun _ => hg.out.c1) (HeldL.cons (fun _ => hg.out.c2) HeldL.nil)) (fun hHeld' => ?_)
            clear hK K hHeld; have hHeld := hHeld'; clear hHeld'
            try simp only [Act.put, List.setIfInBounds_toArray, List.set_cons_zero, List.set_cons_succ]
            refine wpAnyL_ready (rs := [15]) (by kernel_rfl) (by simp) ?_
            refine AllReadyL.cons rfl (fun K hK => ?_) AllReadyL.nil
            refine GS.appB hg.out rfl _ _ rfl rfl bB boxB.out rfl (by rw [tabA_length]; omega) ?_
            intro gb cb wx hg'
            clear hg boxB
            have hg := hid hg'
            clear hg'
            refine hK.out _ _ (HeldL.cons (fun _ => hg.out.c1) (HeldL.cons (fun _ => hg.out.c2) HeldL.nil)) (fun hHeld' => ?_)
            clear hK K hHeld; have hHeld := hHeld'; clear hHeld'
            try simp only [Act.put, List.setIfInBounds_toArray, List.set_cons_zero, List.set_cons_succ]
            refine wpAnyL_take0 (i := 16) (v := ?_) rfl (by kernel_rfl) (by kernel_rfl) (by kernel_rfl) (by rfl) (fun _ _ _ h => h) (Or.inl ⟨by rfl, ?_⟩) (by assumption) ?_
            rotate_left
            · (intro W _; go_simp; (with_reducible rfl))
            intro hHeld'
            clear hHeld; have hHeld := hHeld'; clear hHeld'
            try simp only [Act.put, List.setIfInBounds_toArray, List.set_cons_zero, List.set_cons_succ]
            refine wpAnyL_take0 (i := 17) (v := ?_) rfl (by kernel_rfl) (by kernel_rfl) (by kernel_rfl) (by rfl) (fun _ _ _ h => h) (Or.inl ⟨by rfl, ?_⟩) (by assumption) ?_
            rotate_left
            · (intro W _; go_simp; (with_reducible rfl))
            intro hHeld'
            clear hHeld; have hHeld := hHeld'; clear hHeld'
            try simp only [Act.put, List.setIfInBounds_toArray, List.set_cons_zero, List.set_cons_succ]
            have q1 := hg.out.c1
            have q2 := hg.out.fr 1
            refine wpAnyL_ready (rs := [18]) (by kernel_rfl) (by simp) ?_
            refine AllReadyL.cons rfl (fun K hK => ?_) AllReadyL.nil
            go_simp
            have hg' := hid (hg.out.set1 (.slice (some ⟨ga, 0, none⟩) ((tabA m l n q).length + 1) ca))
            clear q1 q2 hg
            have hg := hg'
            clear hg'
            refine hK.out _ _ (HeldL.cons (fun h => absurd h (by decide +kernel)) (HeldL.cons (fun h => absurd h (by decide +kernel)) HeldL.nil)) (fun hHeld' => ?_)
            clear hK K hHeld; have hHeld := hHeld'; clear hHeld'
            try simp only [Act.put, List.setIfInBounds_toArray, List.set_cons_zero, List.set_cons_succ]
            refine wpAnyL_take0 (i := 19) (v := ?_) rfl (by kernel_rfl) (by kernel_rfl) (by kernel_rfl) (by rfl) (fun _ _ _ h => h) (Or.inl ⟨by rfl, ?_⟩) (by assumption) ?_
            rotate_left
            · (intro W _; go_simp; (with_reducible rfl))
            intro hHeld'
            clear hHeld; have hHeld := hHeld'; clear hHeld'
            try simp only [Act.put, List.setIfInBounds_toArray, List.set_cons_zero, List.set_cons_succ]
            refine wpAnyL_take0 (i := 20) (v := ?_) rfl (by kernel_rfl) (by kernel_rfl) (by kernel_rfl) (by rfl) (fun _ _ _ h => h) (Or.inl ⟨by rfl, ?_⟩) (by assumption) ?_
            rotate_left
            · (intro W _; go_simp; (with_reducible rfl))
            intro hHeld'
            clear hHeld; have hHeld := hHeld'; clear hHeld'
            try simp only [Act.put, List.setIfInBounds_toArray, List.set_cons_zero, List.set_cons_succ]
            have q1 := hg.out.c2
            have q2 := hg.out.fr 2
            refine wpAnyL_ready (rs := [21]) (by kernel_rfl) (by simp) ?_
            refine AllReadyL.cons rfl (fun K hK => ?_) AllReadyL.nil
            go_simp
            have hg' := hid (hg.out.set2 (.slice (some ⟨gb, 0, none⟩) ((tabA I l n q).length + 1) cb))
            clear q1 q2 hg
            have hg := hg'
            clear hg'
            refine hK.out _ _ (HeldL.cons (fun h => absurd h (by decide +kernel)) (HeldL.cons (fun h => absurd h (by decide +kernel)) HeldL.nil)) (fun hHeld' => ?_)
            clear hK K hHeld; have hHeld := hHeld'; clear hHeld'
            try simp only [Act.put, List.setIfInBounds_toArray, List.set_cons_zero, List.set_cons_succ]
            refine wpAnyL_done (by kernel_rfl) ?_ _
            go_wp2
            go_roundw
            case rel =>
              have hx := hg.out
              exact ⟨q + 1, by omega, by go_num, _, _, ⟨hx.blk, by rw [hsA.out]; exact hx.mA, by rw [hsI.out]; exact hx.mB⟩, hx.dis, hx.bel⟩
            case measure => simp [intOf]; omega
          refine AllReadyL.cons rfl (fun K hK => ?_) AllReadyL.nil
          go_simp
          have hg' := hid (hg.out.alloc (Nat.le_refl _) (.cells #[Value.slice (some ⟨w3.heap.size, 0, none⟩) M M] 32))
          have boxB' : (wd.alloc (.cells #[Value.slice (some ⟨w3.heap.size, 0, none⟩) M M] 32)).cell? ⟨wd.heap.size, 0, none⟩ = some (Value.slice (some ⟨w3.heap.size, 0, none⟩) M M) := by simp
          have hbB := hid (show h0 ≤ wd.heap.size ∧ wd.heap.size < (wd.alloc (.cells #[Value.slice (some ⟨w3.heap.size, 0, none⟩) M M] 32)).heap.size from ⟨hh.out, by simp⟩)
          have hh' := hid (show h0 ≤ (wd.alloc (.cells #[Value.slice (some ⟨w3.heap.size, 0, none⟩) M M] 32)).heap.size from by have := hh.out; simp; omega)
          generalize hbBe : wd.heap.size = bB at *
          generalize wd.alloc (.cells #[Value.slice (some ⟨w3.heap.size, 0, none⟩) M M] 32) = we at *
          clear hbBe hg hh
          have hg := hg'; have hh := hh'; have boxB := hid boxB'
          clear hg' hh' boxB'
          refine hK.out _ _ (HeldL.cons (fun _ => hg.out.c1) (HeldL.cons (fun _ => hg.out.c2) HeldL.nil)) (fun hHeld' => ?_)
          clear hK K hHeld; have hHeld := hHeld'; clear hHeld'
          try simp only [Act.put, List.setIfInBounds_toArray, List.set_cons_zero, List.set_cons_succ]
          refine wpAnyL_ready (rs := [7]) (by kernel_rfl) (by simp) ?_
          refine AllReadyL.cons rfl (fun K hK => ?_) AllReadyL.nil
          go_simp
          have hg' := hid (hg.out.alloc (Nat.le_refl _) (.cells #[Value.slice (some ⟨g1, 0, none⟩) M c1] 32))
          have boxA' : (we.alloc (.cells #[Value.slice (some ⟨g1, 0, none⟩) M c1] 32)).cell? ⟨we.heap.size, 0, none⟩ = some (Value.slice (some ⟨g1, 0, none⟩) M c1) := by simp
          have hbA := hid (show h0 ≤ we.heap.size ∧ we.heap.size < (we.alloc (.cells #[Value.slice (some ⟨g1, 0, none⟩) M c1] 32)).heap.size from ⟨hh.out, by simp⟩)
          have boxB' := (World.cell?_of_block (Below.heap_alloc we (.cells #[Value.slice (some ⟨g1, 0, none⟩) M c1] 32) bB hbB.out.2)).trans boxB.out
          have hbB' := hid (show h0 ≤ bB ∧ bB < (we.alloc (.cells #[Value.slice (some ⟨g1, 0, none⟩) M c1] 32)).heap.size from ⟨hbB.out.1, by have := hbB.out.2; simp; omega⟩)
          have hh' := hid (show h0 ≤ (we.alloc (.cells #[Value.slice (some ⟨g1, 0, none⟩) M c1] 32)).heap.size from by have := hh.out; simp; omega)
          generalize hbAe : we.heap.size = bA at *
          generalize we.alloc (.cells #[Value.slice (some ⟨g1, 0, none⟩) M c1] 32) = wf at *
          clear hbAe hg hh
          have hg := hg'; have hh := hh'; have boxA := hid boxA'
          clear hg' hh' boxA'
          clear boxB hbB
          have boxB := hid boxB'; have hbB := hbB'
          clear boxB' hbB'
          refine hK.out _ _ (HeldL.cons (fun _ => hg.out.c1) (HeldL.cons (fun _ => hg.out.c2) HeldL.nil)) (fun hHeld' => ?_)
          clear hK K hHeld; have hHeld := hHeld'; clear hHeld'
          try simp only [Act.put, List.setIfInBounds_toArray, List.set_cons_zero, List.set_cons_succ]
          refine wpAnyL_ready (rs := [8]) (by kernel_rfl) (by simp) ?_
          refine AllReadyL.cons rfl (fun K hK => ?_) AllReadyL.nil
          refine GS.appA hg.out rfl _ _ rfl rfl bA boxA.out rfl (by rw [tabA_length]; omega) ?_
          intro ga ca wg hg' hsz hold
          have boxB' := hid ((World.cell?_of_block (hold bB hbB.out.2 (fun e => by have h1 := hbB.out.1; have h2 := hvlt.out bB e; omega))).trans boxB.out)
          have hh' := hid (show h0 ≤ wg.heap.size from Nat.le_trans hh.out hsz)
          clear hg hh hold hsz boxA hbA
          have hg := hid hg'; have hh := hh'
          clear hg' hh'
          clear boxB hbB
          have boxB := boxB'
          clear boxB'
          refine hK.out _ _ (HeldL.cons (fun _ => hg.out.c1) (HeldL.cons (fun _ => hg.out.c2) HeldL.nil)) (fun hHeld' => ?_)
          clear hK K hHeld; have hHeld := hHeld'; clear hHeld'
          try simp only [Act.put, List.setIfInBounds_toArray, List.set_cons_zero, List.set_cons_succ]
          refine wpAnyL_ready (rs := [15]) (by kernel_rfl) (by simp) ?_
          refine AllReadyL.cons rfl (fun K hK => ?_) AllReadyL.nil
          refine GS.appB hg.out rfl _ _ rfl rfl bB boxB.out rfl (by rw [tabA_length]; omega) ?_
          intro gb cb wx hg'
          clear hg boxB
          have hg := hid hg'
          clear hg'
          refine hK.out _ _ (HeldL.cons (fun _ => hg.out.c1) (HeldL.cons (fun _ => hg.out.c2) HeldL.nil)) (fun hHeld' => ?_)
          clear hK K hHeld; have hHeld := hHeld'; clear hHeld'
          try simp only [Act.put, List.setIfInBounds_toArray, List.set_cons_zero, List.set_cons_succ]
          refine wpAnyL_take0 (i := 16) (v := ?_) rfl (by kernel_rfl) (by kernel_rfl) (by kernel_rfl) (by rfl) (fun _ _ _ h => h) (Or.inl ⟨by rfl, ?_⟩) (by assumption) ?_
          rotate_left
          · (intro W _; go_simp; (with_reducible rfl))
          intro hHeld'
          clear hHeld; have hHeld := hHeld'; clear hHeld'
          try simp only [Act.put, List.setIfInBounds_toArray, List.set_cons_zero, List.set_cons_succ]
          refine wpAnyL_take0 (i := 17) (v := ?_) rfl (by kernel_rfl) (by kernel_rfl) (by kernel_rfl) (by rfl) (fun _ _ _ h => h) (Or.inl ⟨by rfl, ?_⟩) (by assumption) ?_
          rotate_left
          · (intro W _; go_simp; (with_reducible rfl))
          intro hHeld'
          clear hHeld; have hHeld := hHeld'; clear hHeld'
          try simp only [Act.put, List.setIfInBounds_toArray, List.set_cons_zero, List.set_cons_succ]
          have q1 := hg.out.c1
          have q2 := hg.out.fr 1
          refine wpAnyL_ready (rs := [18]) (by kernel_rfl) (by simp) ?_
          refine AllReadyL.cons rfl (fun K hK => ?_) AllReadyL.nil
          go_simp
          have hg' := hid (hg.out.set1 (.slice (some ⟨ga, 0, none⟩) ((tabA m l n q).length + 1) ca))
          clear q1 q2 hg
          have hg := hg'
          clear hg'
          refine hK.out _ _ (HeldL.cons (fun h => absurd h (by decide +kernel)) (HeldL.cons (fun h => absurd h (by decide +kernel)) HeldL.nil)) (fun hHeld' => ?_)
          clear hK K hHeld; have hHeld := hHeld'; clear hHeld'
          try simp only [Act.put, List.setIfInBounds_toArray, List.set_cons_zero, List.set_cons_succ]
          refine wpAnyL_take0 (i := 19) (v := ?_) rfl (by kernel_rfl) (by kernel_rfl) (by kernel_rfl) (by rfl) (fun _ _ _ h => h) (Or.inl ⟨by rfl, ?_⟩) (by assumption) ?_
          rotate_left
          · (intro W _; go_simp; (with_reducible rfl))
          intro hHeld'
          clear hHeld; have hHeld := hHeld'; clear hHeld'
          try simp only [Act.put, List.setIfInBounds_toArray, List.set_cons_zero, List.set_cons_succ]
          refine wpAnyL_take0 (i := 20) (v := ?_) rfl (by kernel_rfl) (by kernel_rfl) (by kernel_rfl) (by rfl) (fun _ _ _ h => h) (Or.inl ⟨by rfl, ?_⟩) (by assumption) ?_
          rotate_left
          · (intro W _; go_simp; (with_reducible rfl))
          intro hHeld'
          clear hHeld; have hHeld := hHeld'; clear hHeld'
          try simp only [Act.put, List.setIfInBounds_toArray, List.set_cons_zero, List.set_cons_succ]
          have q1 := hg.out.c2
          have q2 := hg.out.fr 2
          refine wpAnyL_ready (rs := [21]) (by kernel_rfl) (by simp) ?_
          refine AllReadyL.cons rfl (fun K hK => ?_) AllReadyL.nil
          go_simp
          have hg' := hid (hg.out.set2 (.slice (some ⟨gb, 0, none⟩) ((tabA I l n q).length + 1) cb))
          clear q1 q2 hg
          have hg := hg'
          clear hg'
          refine hK.out _ _ (HeldL.cons (fun h => absurd h (by decide +kernel)) (HeldL.cons (fun h => absurd h (by decide +kernel)) HeldL.nil)) (fun hHeld' => ?_)
          clear hK K hHeld; have hHeld := hHeld'; clear hHeld'
          try simp only [Act.put, List.setIfInBounds_toArray, List.set_cons_zero, List.set_cons_succ]
          refine wpAnyL_done (by kernel_rfl) ?_ _
          go_wp2
          go_roundw
          case rel =>
            have hx := hg.out
            exact ⟨q + 1, by omega, by go_num, _, _, ⟨hx.blk, by rw [hsA.out]; exact hx.mA, by rw [hsI.out]; exact hx.mB⟩, hx.dis, hx.bel⟩
          case measure => simp [intOf]; omega
    · obtain rfl : s = q := by omega
      go_wp2
      go_ret
      exact ⟨vA, vB, rfl, r1.out, rB.out⟩
end Go.Proofs.YthmcdfjijkecfaaGreat

/- FixedWords: what the program and the reference answer. -/
namespace Go.Proofs.YthmcdfjijkecfaaGreat
open Go.RowKit
set_option linter.unusedVariables false
set_option linter.unusedSimpArgs false

theorem levelI_cases (m : Mach) (n : Int) : levelI m n = 0 ∨ levelI m n = 1 ∨ levelI m n = 2 := by
  by_cases hm : IsM m
  · obtain ⟨l, s, g⟩ := hm.good
    by_cases h : 0 ≤ n ∧ n ≤ 7 - (l : Int)
    · exact .inl (levelI_0 g h)
    · exact .inr (.inr (levelI_2 g h))
  · exact .inr (.inl (levelI_1 hm))
/-- A level that is asked for. -/
theorem levelI_good {m : Mach} {n : Int} (h : levelI m n = 0) : ∃ l s n', Good m l s ∧ n = ((n' : Nat) : Int) ∧ n' ≤ 5 ∧ n' + l ≤ 7 ∧ pw l n' ≤ 243 := by
  by_cases hm : IsM m
  · obtain ⟨l, s, g⟩ := hm.good
    by_cases hn : 0 ≤ n ∧ n ≤ 7 - (l : Int)
    · obtain ⟨n', rfl⟩ := Int.eq_ofNat_of_zero_le hn.1
      have l2 := g.l2
      have l3 := g.l3
      exact ⟨l, s, n', g, rfl, by omega, by omega, pw_small l n' l3 (by omega)⟩
    · rw [levelI_2 g hn] at h; cases h
  · rw [levelI_1 hm] at h; cases h

/-- How many numbers below j are left where they are. -/
def fixn (P : Nat → Nat) : Nat → Nat
  | 0 => 0
  | j + 1 => if P j = j then fixn P j + 1 else fixn P j
theorem fixn_le (P : Nat → Nat) : ∀ j, fixn P j ≤ j
  | 0 => Nat.le_refl _
  | j + 1 => by unfold fixn; split <;> have := fixn_le P j <;> omega
/-- For all states. -/
def fixL (m : Mach) (l n s : Nat) : List Int := (List.range s).map fun q => ((fixn (pf m l q n) (pw l n) : Nat) : Int)
theorem fixL_snoc (m : Mach) (l n s : Nat) : fixL m l n (s + 1) = fixL m l n s ++ [((fixn (pf m l s n) (pw l n) : Nat) : Int)] := by simp [fixL, List.range_succ]
theorem fixL_length (m : Mach) (l n s : Nat) : (fixL m l n s).length = s := by simp [fixL]

open Classical in
noncomputable def fixedAns (m : Mach) (n : Int) : List Int × Int := if levelI m n = 0 then (fixL m m.L.toNat n.toNat m.S.toNat, 0) else ([], levelI m n)
theorem fixedAns_0 {m : Mach} {l s n : Nat} (g : Good m l s) (h : levelI m n = 0) : fixedAns m n = (fixL m l n s, 0) := by
  unfold fixedAns; rw [if_pos h, g.L, g.S]; rfl
theorem fixedAns_c {m : Mach} {n : Int} (h : levelI m n ≠ 0) : fixedAns m n = ([], levelI m n) := by unfold fixedAns; rw [if_neg h]
theorem fixedAns_len (m : Mach) (n : Int) : (fixedAns m n).1.length < 999999 := by
  by_cases h : levelI m n = 0
  · obtain ⟨l, s, n', g, rfl, _⟩ := levelI_good h
    rw [fixedAns_0 g h, fixL_length]
    have := g.s16; omega
  · rw [fixedAns_c h]; simp

set_option maxHeartbeats 4000000 in
set_option maxRecDepth 100000 in
theorem specFixed_any (w : World) (m : Mach) (hk : m.Ok) (n : Int) :
    Calls Tryz.prog 79 #[.agg (mcells m), .int .i64 n] w (AnsL w (fixedAns m n)) := by
  have hM := hid (MB.new w m 27)
  have hB := hid (below_alloc (Below.refl w.heap.size w) (Nat.le_refl _) (.cells (mcells m) 27))
  have hcode := hid (fun W => l05Code_any W m hk n)
  by_cases h0 : levelI m n = 0
  · obtain ⟨l, s, n, g, rfl, hn5, _, hpw⟩ := levelI_good h0
    rw [fixedAns_0 g h0]
    rw [h0] at hcode
    have gS := hid g.S
    have s16 := g.s16
    have hlev := hid (fun q (hq : q < s) W => l01Level_any W m l s g q hq n (by omega) (by omega))
    have hnz := hid (fun m q => nats_ints (perm m l q n))
    have hget := hid (fun q k (hk : k < pw l n) => permZ_get m l q n k hk)
    have hplt := hid (fun q k (hq : q < s) => pf_lt g q n k hq)
    have hpl := hid (fun q => permZ_length m l q n)
    have hpos := pw_pos l (by have := g.l2; omega) n
    have hsn := hid (fun q => fixL_snoc m l n q)
    replace hk := hid hk; replace g := hid g; clear h0
    generalize hMn : pw l n = M at *
    replace hMn := hid hMn
    go_enter Tryz.func79, Tryz.ntmps79
    go_wp2_with (first
      | ((with_reducible refine gate (N := 12) rfl ?_); refine load_mach rfl _ rfl w.heap.size rfl m hM.out ?_)
      | (go_at_call 119; (with_reducible refine (hcode.out _).mono ?_); rintro e w1 ⟨rfl, hb⟩; have hM1 := hid ((hM.out.below hb hM.out.lt).alloc (.cells #[] 2)); have hB0 := hid (hB.out.trans (hb.mono hB.out.size)); have hB1 := hid (below_alloc hB0.out (Nat.le_refl _) (.cells #[] 2)); have hO1 := hid (Own.new w1 w.heap.size 2 hB0.out.size); clear hb hM hB hcode hB0))
    go_loopw [7, 8] (fun v i wr => ∃ q : Nat, q ≤ s ∧ i = .int .i64 q ∧ MB wr 27 w.heap.size m ∧ Own wr w.heap.size 2 v (ints (fixL m l n q)) ∧ Below w.heap.size w wr) (fun _ i _ => s - (intOf i).toNat)
    case atStart => exact ⟨0, Nat.zero_le _, rfl, hM1.out, hO1.out, hB1.out⟩
    case round =>
      obtain ⟨q, hq, rfl, r1, r2, rB⟩ := hrel
      clear hM1 hB1 hO1
      have cS := r1.cS
      rw [gS.out] at cS
      have hfl := hid (show (ints (fixL m l n q)).length = q by rw [ints_length, fixL_length])
      replace r1 := hid r1; replace r2 := hid r2; replace rB := hid rB
      by_cases hlq : q < s
      · have dq : decide ((q : Int) < (s : Int)) = true := decide_eq_true (by omega)
        go_wp2_with (first
          | ((with_reducible refine gate (N := 25) rfl ?_); refine load_mach rfl _ rfl w.heap.size rfl m r1.out ?_)
          | (go_at_call 172; (with_reducible refine (hlev.out q hlq _).mono ?_); rintro e w3 ⟨r, rfl, hO, hb3⟩; rw [hnz.out] at hO; obtain ⟨g1, c1, rfl, _, _⟩ := hO.blk (fun e => by have h1 := congrArg List.length e; have h2 := hpl.out q; unfold permZ at h2; rw [ints_length, h2] at h1; simp at h1; omega); have hl := hpl.out q; unfold permZ at hl; rw [ints_length, hl] at hO ⊢; have hR := hid hO; have t1 := hid (r1.out.below hb3 r1.out.lt); have t2 := hid (r2.out.below hb3); have tB := hid (rB.out.trans (hb3.mono rB.out.size)); clear hl hO hb3 r1 r2 rB cS))
        go_loopw [10, 11] (fun c i wi => ∃ k : Nat, k ≤ M ∧ i = .int .i64 k ∧ c = .int .i64 (fixn (pf m l q n) k : Nat) ∧ wi = w3) (fun _ i _ => M - (intOf i).toNat)
        case atStart => exact ⟨0, Nat.zero_le _, rfl, rfl, rfl⟩
        case round =>
          obtain ⟨k, hk, rfl, rfl, rfl⟩ := hrel
          by_cases hlk : k < M
          · have hgk := hget.out q k hlk
            have ck := hR.out.cellAt k (.int .i64 ((pf m l q n k : Nat) : Int)) (by show (ints (permZ m l q n))[k]? = _; simp [ints, hgk])
            have hpk := hplt.out q k hlq
            have hfx := fixn_le (pf m l q n) k
            have hstep := hid (show fixn (pf m l q n) (k + 1) = if pf m l q n k = k then fixn (pf m l q n) k + 1 else fixn (pf m l q n) k from rfl)
            clear hgk
            generalize pf m l q n k = pk at *
            generalize fixn (pf m l q n) k = fx at *
            by_cases he : pk = k
            · subst he
              replace hstep := hid (show fixn (pf m l q n) (pk + 1) = fx + 1 by rw [hstep.out, if_pos rfl])
              go_wp2
              go_roundw
              case rel => exact ⟨pk + 1, by omega, by go_num, by rw [hstep.out]; go_num, trivial⟩
              case measure => simp [intOf]; omega
            · replace hstep := hid (show fixn (pf m l q n) (k + 1) = fx by rw [hstep.out, if_neg he])
              have he' : ((pk : Int) == (k : Int)) = false := by simp; omega
              go_wp2
              go_roundw
              case rel => exact ⟨k + 1, by omega, by go_num, by rw [hstep.out], trivial⟩
              case measure => simp [intOf]; omega
          · obtain rfl : M = k := by omega
            go_wp2_with (first
              | ((with_reducible refine gate (N := 46) rfl ?_); refine app1 32 2 (.int .i64 0) 8 Tryz.underlying32 info_i64 rfl (by omega) rfl _ _ rfl w.heap.size _ _ rfl t2.out tB.out.size _ rfl rfl (by have := hfl.out; omega) ?_; intro gn cap w4 hO2 hb2 hold hsz2 _; have y1 := hid (show MB w4 27 w.heap.size m from World.rowIs.of_block t1.out (hold _ t1.out.lt (t2.out.neMB t1.out (by decide)))); replace hO2 := hid hO2; have yB := hid (tB.out.trans hb2); clear hb2 hold hsz2 t1 t2 tB))
            go_roundw
            case rel => exact ⟨q + 1, by omega, by go_num, y1.out, by rw [hsn.out, ints_snoc]; exact hO2.out, yB.out⟩
            case measure => simp [intOf]; omega
      · obtain rfl : s = q := by omega
        go_wp2
        go_ret2
        exact ⟨_, rfl, r2.out, rB.out⟩
  · rw [fixedAns_c h0]
    have hc : levelI m n = 1 ∨ levelI m n = 2 := by rcases levelI_cases m n with h | h; exact absurd h h0; exact h
    generalize levelI m n = c at *
    clear h0
    rcases hc with rfl | rfl
    all_goals
      go_enter Tryz.func79, Tryz.ntmps79
      go_wp2_with (first
        | ((with_reducible refine gate (N := 12) rfl ?_); refine load_mach rfl _ rfl w.heap.size rfl m hM.out ?_)
        | (go_at_call 119; (with_reducible refine (hcode.out _).mono ?_); rintro e w1 ⟨rfl, hb⟩; have hB1 := hid (hB.out.trans (hb.mono hB.out.size)); clear hb hM hB hcode))
      go_ret2
      exact ⟨_, rfl, Own.nil _ _ _, hB1.out⟩

set_option maxHeartbeats 4000000 in
set_option maxRecDepth 100000 in
theorem implFixed_any (w : World) (m : Mach) (hk : m.Ok) (n : Int) :
    Calls Tryz.prog 71 #[.agg (mcells m), .int .i64 n] w (AnsL w (fixedAns m n)) := by
  have hM := hid (MB.new w m 27)
  have hB := hid (below_alloc (Below.refl w.heap.size w) (Nat.le_refl _) (.cells (mcells m) 27))
  have hcode := hid (fun W => levelCode_any W m hk n)
  by_cases h0 : levelI m n = 0
  · obtain ⟨l, s, n, g, rfl, hn5, _, hpw⟩ := levelI_good h0
    rw [fixedAns_0 g h0]
    rw [h0] at hcode
    have s16 := g.s16
    have s1 := g.s1
    have hgr := hid (fun W hW => graph_any w.heap.size W m hW l s g n (by omega) (by omega))
    have hget := hid (fun q k (hk : k < pw l n) => permZ_get m l q n k hk)
    have hplt := hid (fun q k (hq : q < s) => pf_lt g q n k hq)
    have hpl := hid (fun q => permZ_length m l q n)
    have hpos := pw_pos l (by have := g.l2; omega) n
    have hsn := hid (fun q => fixL_snoc m l n q)
    replace hk := hid hk; replace g := hid g; clear h0
    generalize hMn : pw l n = M at *
    replace hMn := hid hMn
    go_enter Tryz.func71, Tryz.ntmps71
    go_wp2_with (first
      | ((with_reducible refine gate (N := 13) rfl ?_); refine load_mach rfl _ rfl w.heap.size rfl m hM.out ?_)
      | (go_at_call 108; (with_reducible refine (hcode.out _).mono ?_); rintro e w1 ⟨rfl, hb⟩; have hM1 := hid (hM.out.below hb hM.out.lt); have hB1 := hid (hB.out.trans (hb.mono hB.out.size)); clear hb hM hB hcode)
      | (go_at_call 109; (with_reducible refine (hgr.out _ hM1.out).mono ?_); rintro e w2 ⟨vA, vB, rfl, hG, hb⟩; obtain ⟨gA, cA, rfl, _, _⟩ := hG.2.1.blk (fun e => by have h1 := congrArg List.length e; rw [tabA_length] at h1; simp at h1; omega); have hgc := hG.c1; rw [tabA_length] at hgc; have hA := hG.2.1; rw [tabA_length] at hA; have hA := hid (hA.mono (Nat.le_trans hB1.out.size (Nat.le_succ _))); have hB2 := hid (hB1.out.trans (hb.mono hB1.out.size)); clear hG hb hM1 hB1 hgr))
    go_loopw [7, 25] (fun v i wr => ∃ q : Nat, q ≤ s ∧ i = .int .i64 q ∧ Own wr w2.heap.size 2 v (ints (fixL m l n q)) ∧ Below w2.heap.size w2 wr) (fun _ i _ => s - (intOf i).toNat)
    case atStart => exact ⟨0, Nat.zero_le _, rfl, Own.nil _ _ _, Below.refl _ _⟩
    case round =>
      obtain ⟨q, hq, rfl, r2, rB⟩ := hrel
      clear hgc
      have hfl := hid (show (ints (fixL m l n q)).length = q by rw [ints_length, fixL_length])
      replace r2 := hid r2; replace rB := hid rB
      by_cases hlq : q < s
      · have dq : decide ((q : Int) < (s : Int)) = true := decide_eq_true (by omega)
        obtain ⟨r, cr, hr⟩ := (hA.out.below rB.out).row q _ (tabA_get m l n s q hlq)
        obtain ⟨g1, c1, rfl, _, _⟩ := hr.blk (fun e => by have h1 := congrArg List.length e; have h2 := hpl.out q; rw [ints_length, h2] at h1; simp at h1; omega)
        rw [ints_length, hpl.out q] at hr cr
        have hR := hid hr
        clear hr
        obtain ⟨wo, hwo⟩ : ∃ wo : World, Hid (wo = wr) := ⟨wr, rfl⟩
        go_wp2
        go_loopw [10, 31] (fun c i wi => ∃ k : Nat, k ≤ M ∧ i = .int .i64 k ∧ c = .int .i64 (fixn (pf m l q n) k : Nat) ∧ Hid (wo = wi)) (fun _ i _ => M - (intOf i).toNat)
        case atStart => exact ⟨0, Nat.zero_le _, rfl, rfl, hwo⟩
        case round =>
          obtain ⟨k, hk, rfl, rfl, hww⟩ := hrel
          have e1 := hwo.out.symm.trans hww.out
          subst e1
          by_cases hlk : k < M
          · have hgk := hget.out q k hlk
            have ck := hR.out.cellAt k (.int .i64 ((pf m l q n k : Nat) : Int)) (by show (ints (permZ m l q n))[k]? = _; simp [ints, hgk])
            have hpk := hplt.out q k hlq
            have hfx := fixn_le (pf m l q n) k
            have hstep := hid (show fixn (pf m l q n) (k + 1) = if pf m l q n k = k then fixn (pf m l q n) k + 1 else fixn (pf m l q n) k from rfl)
            clear hgk
            generalize pf m l q n k = pk at *
            generalize fixn (pf m l q n) k = fx at *
            by_cases he : pk = k
            · subst he
              replace hstep := hid (show fixn (pf m l q n) (pk + 1) = fx + 1 by rw [hstep.out, if_pos rfl])
              go_wp2
              go_roundw
              case rel => exact ⟨pk + 1, by omega, by go_num, by rw [hstep.out]; go_num, hwo⟩
              case measure => simp [intOf]; omega
            · replace hstep := hid (show fixn (pf m l q n) (k + 1) = fx by rw [hstep.out, if_neg he])
              have he' : ((k : Int) == (pk : Int)) = false := by simp; omega
              go_wp2
              go_roundw
              case rel => exact ⟨k + 1, by omega, by go_num, by rw [hstep.out], hwo⟩
              case measure => simp [intOf]; omega
          · obtain rfl : M = k := by omega
            clear cr
            go_wp2_with (first
              | ((with_reducible refine gate (N := 45) rfl ?_); refine app1 32 2 (.int .i64 0) 8 Tryz.underlying32 info_i64 rfl (by omega) rfl _ _ rfl w2.heap.size _ _ rfl r2.out rB.out.size _ rfl rfl (by have := hfl.out; omega) ?_; intro gn cap w4 hO2 hb2 hold hsz2 _; replace hO2 := hid hO2; have yB := hid (rB.out.trans hb2); clear hb2 hold hsz2 r2 rB))
            go_roundw
            case rel => exact ⟨q + 1, by omega, by go_num, by rw [hsn.out, ints_snoc]; exact hO2.out, yB.out⟩
            case measure => simp [intOf]; omega
      · obtain rfl : s = q := by omega
        go_wp2
        go_ret2
        exact ⟨_, rfl, r2.out.mono hB2.out.size, hB2.out.trans (rB.out.mono hB2.out.size)⟩
  · rw [fixedAns_c h0]
    have hc : levelI m n = 1 ∨ levelI m n = 2 := by rcases levelI_cases m n with h | h; exact absurd h h0; exact h
    generalize levelI m n = c at *
    clear h0
    rcases hc with rfl | rfl
    all_goals
      go_enter Tryz.func71, Tryz.ntmps71
      go_wp2_with (first
        | ((with_reducible refine gate (N := 13) rfl ?_); refine load_mach rfl _ rfl w.heap.size rfl m hM.out ?_)
        | (go_at_call 108; (with_reducible refine (hcode.out _).mono ?_); rintro e w1 ⟨rfl, hb⟩; have hB1 := hid (hB.out.trans (hb.mono hB.out.size)); clear hb hM hB hcode))
      go_ret2
      exact ⟨_, rfl, Own.nil _ _ _, hB1.out⟩
end Go.Proofs.YthmcdfjijkecfaaGreat
