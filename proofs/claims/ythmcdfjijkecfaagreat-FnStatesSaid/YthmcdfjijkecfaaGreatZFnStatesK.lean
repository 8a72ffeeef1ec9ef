/- What the proof of FnStates leans on, part 11 of 29. -/
import Derived.Test.YthmcdfjijkecfaaGreatZFnStatesJ
/- Slices of elements of several cells that a function made itself. -/
namespace Go.Proofs.YthmcdfjijkecfaaGreat
open Go.RowKit
set_option linter.unusedVariables false
set_option linter.unusedSimpArgs false

/-- The slice value v holds n elements of sz cells each: just the cells cs, in a block of its own from 'base' on. -/
def OwnN (w : World) (base e sz : Nat) (v : Value) (n : Nat) (cs : List Value) : Prop := w.ownsRow base e sz v n cs
section
variable {w w' : World} {base e sz n : Nat} {v : Value} {cs : List Value}
theorem OwnN.len (h : OwnN w base e sz v n cs) : cs.length = n * sz := h.1
theorem OwnN.nil (w : World) (base e sz : Nat) : OwnN w base e sz (.slice none 0 0) 0 [] := World.ownsRow_nil w base e sz
theorem OwnN.new (w : World) (base e sz : Nat) (hb : base ≤ w.heap.size) : OwnN (w.alloc (.cells #[] e)) base e sz (.slice (some ⟨w.heap.size, 0, none⟩) 0 0) 0 [] := by
  have := World.ownsRow_lit (base := base) (e := e) (size := sz) w #[] 0 hb (by simp [maxLen]) (by simp)
  exact this
theorem OwnN.keep (h : OwnN w base e sz v n cs) (hk : ∀ k, v.ownBlock = some k → w'.heap[k]? = w.heap[k]?) : OwnN w' base e sz v n cs := by
  refine ⟨h.1, ?_⟩
  rcases h.2 with hn | ⟨g, cap, cur, rfl, hb, hg, rest⟩
  · exact .inl hn
  · exact .inr ⟨g, cap, cur, rfl, hb, (hk g rfl).trans hg, rest⟩
theorem OwnN.lt (h : OwnN w base e sz v n cs) : ∀ k, v.ownBlock = some k → base ≤ k ∧ k < w.heap.size := World.ownsRow.lt h
theorem OwnN.mono {b' : Nat} (h : OwnN w base e sz v n cs) (hb : b' ≤ base) : OwnN w b' e sz v n cs := by
  refine ⟨h.1, ?_⟩
  rcases h.2 with hn | ⟨g, cap, cur, rfl, hg0, rest⟩
  · exact .inl hn
  · exact .inr ⟨g, cap, cur, rfl, Nat.le_trans hb hg0, rest⟩
theorem OwnN.form (h : OwnN w base e sz v n cs) : (v = .slice none 0 0 ∧ n = 0) ∨ ∃ g cap, v = .slice (some ⟨g, 0, none⟩) n cap := by
  rcases h.2 with h | ⟨g, cap, cur, rfl, _⟩
  · exact .inl h
  · exact .inr ⟨g, cap, rfl⟩
theorem OwnN.blk (h : OwnN w base e sz v n cs) (hn : 0 < n) : ∃ g cap, v = .slice (some ⟨g, 0, none⟩) n cap := by
  rcases h.form with ⟨_, h0⟩ | h
  · omega
  · exact h
theorem OwnN.cellAt {g cap : Nat} (h : OwnN w base e sz (.slice (some ⟨g, 0, none⟩) n cap) n cs) (j : Nat) (u : Value) (hu : cs[j]? = some u) : w.cell? ⟨g, j, none⟩ = some u := by
  have hj : j < n * sz := by rw [← h.len]; exact (List.getElem?_eq_some_iff.1 hu).1
  rw [World.ownsRow.cellAt h j hj]; exact hu
theorem OwnN.frozenAt {g cap : Nat} (h : OwnN w base e sz (.slice (some ⟨g, 0, none⟩) n cap) n cs) (j : Nat) : w.frozen? ⟨g, j, none⟩ = false := World.ownsRow.frozenAt h j
theorem OwnN.set {g cap : Nat} (h : OwnN w base e sz (.slice (some ⟨g, 0, none⟩) n cap) n cs) (j : Nat) (u : Value) : OwnN (w.setCell ⟨g, j, none⟩ u) base e sz (.slice (some ⟨g, 0, none⟩) n cap) n (cs.set j u) := (World.ownsRow.stored h j u).1
/-- One element's cells, as a load of it wants them. -/
theorem OwnN.range {g cap : Nat} (h : OwnN w base e sz (.slice (some ⟨g, 0, none⟩) n cap) n cs) (o : Nat) (l : List Value) (hl : ∀ j, j < l.length → cs[o + j]? = l[j]?) : w.rangeAt g o l := fun j u hu => by
  have hj := (List.getElem?_eq_some_iff.1 hu).1
  exact h.cellAt (o + j) u ((hl j hj).trans hu)
end
def Asn.ownN (base e sz : Nat) (v : Value) (n : Nat) (cs : List Value) : Asn := ⟨fun k => v.ownBlock = some k, fun w => OwnN w base e sz v n cs, fun h hk => h.keep hk, fun h k hk => (h.lt k hk).2⟩

/-- One element appended, as the walk meets it: behind its box. -/
theorem appN {P : Program} {ops : Array Oper} {rest : List Oper} {o : Oper} {a : Act} {W : World} {Q : Exit → Act → World → Prop} (t e : TypeId) (z : Value) (sz bytes : Nat)
    (ht : P.underlying t = some (.slice e)) (hinfo : (P.info? e).map (fun i => (i.zero, i.size, i.bytes)) = some (some z, sz, bytes)) (hz : z.cells.size = sz) (hsz : 0 < sz) (hb : bytes ≤ 64)
    (hgd : o.guard = none) (s x : Operand) (ho : o.op = .call { callee := .builtin .append, args := #[s, x], argTypes := #[t, t] })
    (base : Nat) (v : Value) (n : Nat) (cs : List Value) (hs : a.eval s = v) (hown : OwnN W base e sz v n cs) (hbase : base ≤ W.heap.size) (news : List Value) (hnl : news.length = sz) (hc1 : ∀ u ∈ news, u.oneCell' = true)
    (hx : a.eval x = .slice (some ⟨W.heap.size, 0, none⟩) 1 1) (hlen : n ≤ 1000000000)
    (h : ∀ g cap w', OwnN w' base e sz (.slice (some ⟨g, 0, none⟩) (n + 1) cap) (n + 1) (cs ++ news) → Below base W w' → (∀ k, k < W.heap.size → v.ownBlock ≠ some k → w'.heap[k]? = W.heap[k]?) → W.heap.size < w'.heap.size → (v.ownBlock = some g ∨ W.heap.size < g) →
      wpList P ops Q rest (a.put o.dst (.slice (some ⟨g, 0, none⟩) (n + 1) cap)) w') :
    wpList P ops Q (o :: rest) a (W.alloc (.cells news.toArray e)) := by
  obtain ⟨i, hi, hz0, hz1, hz2⟩ := info_parts hinfo
  refine wpList_plain hgd fun K hK => ?_
  refine wp_append_lies (W.alloc (.cells news.toArray e)) s x t ho base e i z sz bytes ht hi hz0 hz1 hz2 hz hsz v n cs hs (World.ownsRow.alloc hown _) ⟨W.heap.size, 0, none⟩ 1 1 news hx (by rw [hnl, Nat.one_mul])
    (fun j u hu => ?_) hc1 (by omega) (by simp only [maxLen]; omega) (Nat.le_trans (Nat.mul_le_mul_left _ hb) (by omega)) (by simp; omega) (W.heap.size + 1) (by simp) ?_
  · rw [Addr.add_mid, Nat.zero_add, cell_of_row _ W.heap.size j _ _ _ (heap_alloc_new W _)]
    simpa using hu
  · intro g cap w' h1 h2 h3 h4
    have hsz' : W.heap.size < w'.heap.size := by have := h2.size; simp at this; omega
    have hold : ∀ k, k < W.heap.size → v.ownBlock ≠ some k → w'.heap[k]? = W.heap[k]? := fun k hk hne => by
      rw [h2.block k (by simp; omega) (fun e => hne e.symm)]
      exact Below.heap_alloc W _ k hk
    exact hK _ _ (h g cap w' h1 ⟨h2.os, h2.tape, h2.output, by omega, fun k hk => hold k (by omega) (fun e => by have := (hown.lt k e).1; omega)⟩ hold hsz' (h3.imp id (fun e => by omega)))

section
variable {w w' W w0 : World} {L : List Asn} {base : Nat} {a b c d e f : Asn}
theorem St.n0 {bs t sz n : Nat} {v : Value} {cs : List Value} (h : St base w0 (Asn.ownN bs t sz v n cs :: L) w) : OwnN w bs t sz v n cs := h.g0
theorem St.n1 {bs t sz n : Nat} {v : Value} {cs : List Value} (h : St base w0 (a :: Asn.ownN bs t sz v n cs :: L) w) : OwnN w bs t sz v n cs := h.g1
theorem St.n2 {bs t sz n : Nat} {v : Value} {cs : List Value} (h : St base w0 (a :: b :: Asn.ownN bs t sz v n cs :: L) w) : OwnN w bs t sz v n cs := h.g2
theorem St.n3 {bs t sz n : Nat} {v : Value} {cs : List Value} (h : St base w0 (a :: b :: c :: Asn.ownN bs t sz v n cs :: L) w) : OwnN w bs t sz v n cs := h.g3
theorem St.n4 {bs t sz n : Nat} {v : Value} {cs : List Value} (h : St base w0 (a :: b :: c :: d :: Asn.ownN bs t sz v n cs :: L) w) : OwnN w bs t sz v n cs := h.g4
theorem St.n5 {bs t sz n : Nat} {v : Value} {cs : List Value} (h : St base w0 (a :: b :: c :: d :: e :: Asn.ownN bs t sz v n cs :: L) w) : OwnN w bs t sz v n cs := h.g5
theorem St.nilN (h : St base w0 L w) (t sz : Nat) : St base w0 (Asn.ownN base t sz (.slice none 0 0) 0 [] :: L) w := h.push (a := Asn.ownN base t sz _ 0 []) (OwnN.nil _ _ _ _) fun k hk => by cases hk
theorem St.newN (h : St base w0 L w) (t sz : Nat) : St base w0 (Asn.ownN base t sz (.slice (some ⟨w.heap.size, 0, none⟩) 0 0) 0 [] :: L) (w.alloc (.cells #[] t)) :=
  h.allocPush (a := Asn.ownN base t sz _ 0 []) _ (OwnN.new w base t sz h.le) fun k hk => by
    have : w.heap.size = k := by simpa [Asn.ownN, Value.ownBlock] using hk
    exact this.symm
theorem St.appdN {t sz n n' gn m cap : Nat} {v : Value} {cs cs' : List Value} (h : St base w0 (Asn.ownN base t sz v n cs :: L) w) (hO : OwnN w' base t sz (.slice (some ⟨gn, 0, none⟩) m cap) n' cs') (hb : Below base w w') (hold : ∀ k, k < w.heap.size → v.ownBlock ≠ some k → w'.heap[k]? = w.heap[k]?)
    (hg : v.ownBlock = some gn ∨ w.heap.size ≤ gn) : St base w0 (Asn.ownN base t sz (.slice (some ⟨gn, 0, none⟩) m cap) n' cs' :: L) w' :=
  h.turn (a' := Asn.ownN base t sz _ n' cs') hO (fun k hk => by
    have e : gn = k := by simpa [Asn.ownN, Value.ownBlock] using hk
    subst e
    exact hg) (fun k hk => ((show OwnN w base t sz v n cs from h.star.1).lt k hk).1) hb fun k hk hne => hold k hk hne
theorem St.setN {t sz gn n cap : Nat} {cs : List Value} (h : St base w0 (Asn.ownN base t sz (.slice (some ⟨gn, 0, none⟩) n cap) n cs :: L) w) (i : Nat) (u : Value) : St base w0 (Asn.ownN base t sz (.slice (some ⟨gn, 0, none⟩) n cap) n (cs.set i u) :: L) (w.setCell ⟨gn, i, none⟩ u) :=
  have hb : base ≤ gn := ((show OwnN w base t sz _ n cs from h.star.1).lt gn rfl).1
  h.turn (a' := Asn.ownN base t sz _ n (cs.set i u)) (OwnN.set h.star.1 i u) (fun k hk => .inl hk) (fun k hk => ((show OwnN w base t sz _ n cs from h.star.1).lt k hk).1) ((Below.refl _ _).setCell hb u)
    fun k _ hk => heap_setCell_other w ⟨gn, i, none⟩ k u fun e => hk (show Value.ownBlock _ = some k by rw [e]; rfl)
theorem St.callN {t sz n : Nat} {v : Value} {cs : List Value} (h : St base w0 L w) (hb : Below w.heap.size w w') (ha : OwnN w' w.heap.size t sz v n cs) : St base w0 (Asn.ownN base t sz v n cs :: L) w' :=
  h.callPush (a := Asn.ownN base t sz v n cs) hb (ha.mono h.le) fun k hk => (ha.lt k hk).1
theorem St.appNw {ops : Array Oper} {rest : List Oper} {o : Oper} {act : Act} {Q : Exit → Act → World → Prop} (t e : TypeId) (z : Value) (sz bytes : Nat)
    (ht : Tryz.prog.underlying t = some (.slice e)) (hinfo : (Tryz.prog.info? e).map (fun i => (i.zero, i.size, i.bytes)) = some (some z, sz, bytes)) (hz : z.cells.size = sz) (hsz : 0 < sz) (hb : bytes ≤ 64)
    (hgd : o.guard = none) (s x : Operand) (ho : o.op = .call { callee := .builtin .append, args := #[s, x], argTypes := #[t, t] })
    (v : Value) (n : Nat) (cs : List Value) (hs : act.eval s = v) (hS : St base w0 (Asn.ownN base e sz v n cs :: L) W) (news : List Value) (hnl : news.length = sz) (hc1 : ∀ u ∈ news, u.oneCell' = true)
    (hx : act.eval x = .slice (some ⟨W.heap.size, 0, none⟩) 1 1) (hlen : n ≤ 1000000000)
    (h : ∀ g cap w', St base w0 (Asn.ownN base e sz (.slice (some ⟨g, 0, none⟩) (n + 1) cap) (n + 1) (cs ++ news) :: L) w' → wpList Tryz.prog ops Q rest (act.put o.dst (.slice (some ⟨g, 0, none⟩) (n + 1) cap)) w') :
    wpList Tryz.prog ops Q (o :: rest) act (W.alloc (.cells news.toArray e)) := by
  refine appN t e z sz bytes ht hinfo hz hsz hb hgd s x ho base v n cs hs hS.star.1 hS.le news hnl hc1 hx hlen ?_
  intro g cap w' h1 h2 h3 h4 h5
  exact h g cap w' (hS.appdN h1 h2 h3 (h5.imp id Nat.le_of_lt))
end
end Go.Proofs.YthmcdfjijkecfaaGreat

/- LevelPermutation: the program's and the reference's come to the same; the law's body. -/
namespace Go.Proofs.YthmcdfjijkecfaaGreat
open Go.RowKit
set_option linter.unusedVariables false
set_option linter.unusedSimpArgs false

open Classical in
/-- What LevelPermutation answers. -/
noncomputable def levelAns (m : Mach) (q n : Int) : List Int × Int :=
  if IsM m then if (0 ≤ q ∧ q < m.S) ∧ 0 ≤ n ∧ n ≤ 5 then ((perm m m.L.toNat q.toNat n.toNat).map Int.ofNat, 0) else ([], 2) else ([], 1)
theorem levelAns_1 {m : Mach} {q n : Int} (h : ¬ IsM m) : levelAns m q n = ([], 1) := by unfold levelAns; rw [if_neg h]
theorem levelAns_2 {m : Mach} {q n : Int} {l s : Nat} (g : Good m l s) (h : ¬ ((0 ≤ q ∧ q < (s : Int)) ∧ 0 ≤ n ∧ n ≤ 5)) : levelAns m q n = ([], 2) := by unfold levelAns; rw [if_pos g.isM, g.S, if_neg h]
theorem levelAns_0 {m : Mach} {l s : Nat} (g : Good m l s) (q n : Nat) (hq : q < s) (hn : n ≤ 5) : levelAns m q n = ((perm m l q n).map Int.ofNat, 0) := by
  unfold levelAns
  rw [if_pos g.isM, g.S, g.L, if_pos (by omega)]
  rfl

theorem levelAns_len (m : Mach) (q n : Int) : (levelAns m q n).1.length < 999999 := by
  by_cases hm : IsM m
  · obtain ⟨l, s, g⟩ := hm.good
    by_cases h : (0 ≤ q ∧ q < (s : Int)) ∧ 0 ≤ n ∧ n ≤ 5
    · obtain ⟨q, rfl⟩ := Int.eq_ofNat_of_zero_le h.1.1
      obtain ⟨n, rfl⟩ := Int.eq_ofNat_of_zero_le h.2.1
      rw [levelAns_0 g q n (by omega) (by omega)]
      have := pw_small l n g.l3 (by omega)
      rw [List.length_map, perm_length]; omega
    · rw [levelAns_2 g h]; simp
  · rw [levelAns_1 hm]; simp
/-- Two that answer alike. -/
def AnsL (w : World) (A : List Int × Int) (e : Ending) (w' : World) : Prop := ∃ v, e = .returned (.tuple #[v, .int .i64 A.2]) ∧ Own w' w.heap.size 2 v (ints A.1) ∧ Below w.heap.size w w'


theorem codeI_one {m : Mach} {l s : Nat} {q : Int} (g : Good m l s) (hq : 0 ≤ q ∧ q < (s : Int)) : codeI m { data := #[] } [q] = 0 := codeI_0 g (isWd_nil _) (fun x hx => by simp at hx; subst hx; exact hq)
theorem codeI_bad {m : Mach} {l s : Nat} {q : Int} (g : Good m l s) (hq : ¬ (0 ≤ q ∧ q < (s : Int))) : codeI m { data := #[] } [q] = 2 := codeI_2 g (isWd_nil _) (fun h => hq (h q (by simp)))
theorem codeOf_one (w : World) (m : Mach) (hk : m.Ok) (q c : Int) (hc : codeI m { data := #[] } [q] = c) :
    Calls Tryz.prog 85 #[.agg (mcells m), .string { data := #[] }, .slice (some ⟨w.heap.size + 1, 0, none⟩) 1 1] ((w.alloc (.cells (mcells m) 27)).alloc (.cells #[.int .i64 q] 2)) fun e w' =>
      e = .returned (.int .i64 c) ∧ MB w' 27 w.heap.size m ∧ Below w.heap.size w w' := by
  subst hc
  have hO := Own.lit (w.alloc (.cells (mcells m) 27)) w.heap.size 2 [Value.int .i64 q] (by rw [heap_alloc_size]; omega) (by simp)
  rw [heap_alloc_size] at hO
  have hM := (MB.new w m 27).alloc (.cells #[.int .i64 q] 2)
  have hB := below_alloc (below_alloc (Below.refl w.heap.size w) (Nat.le_refl _) (.cells (mcells m) 27)) (Nat.le_refl _) (.cells #[.int .i64 q] 2)
  exact (codeOf_any _ m hk { data := #[] } (by decide) _ _ [q] hO (by simp)).mono fun e w' ⟨he, hb⟩ => ⟨he, hM.below hb hM.lt, hB.trans (hb.mono hB.size)⟩
set_option maxHeartbeats 2000000 in
set_option maxRecDepth 100000 in
theorem implLevel_any (w : World) (m : Mach) (hk : m.Ok) (q n : Int) :
    Calls Tryz.prog 77 #[.agg (mcells m), .int .i64 q, .int .i64 n] w (AnsL w (levelAns m q n)) := by
  have hM := hid (MB.new w m 27)
  have hB := hid (below_alloc (Below.refl w.heap.size w) (Nat.le_refl _) (.cells (mcells m) 27))
  have hcode := hid (fun (c : Int) (hc : codeI m { data := #[] } [q] = c) => codeOf_one w m hk q c hc)
  by_cases hm : IsM m
  · obtain ⟨l, s, g⟩ := hm.good
    have s1 := g.s1
    have s16 := g.s16
    have l3 := g.l3
    by_cases hq : 0 ≤ q ∧ q < (s : Int)
    · have hc := hid (hcode.out 0 (codeI_one g hq))
      clear hcode
      by_cases hn : 0 ≤ n ∧ n ≤ 5
      · obtain ⟨q, rfl⟩ := Int.eq_ofNat_of_zero_le hq.1
        obtain ⟨n, rfl⟩ := Int.eq_ofNat_of_zero_le hn.1
        have hin2 := hid (fun W => within_any (n : Int) 0 5 true (decide_eq_true (by omega)).symm W)
        rw [levelAns_0 g q n (by omega) (by omega)]
        have hlev := hid (fun W hW => ofState_any w.heap.size W m hW l s g q (by omega) n (by omega) (Nat.le_trans (pw_small l n (by omega) (by omega)) (by omega)))
        replace hk := hid hk; replace g := hid g; clear hm hq hn
        go_enter Tryz.func77, Tryz.ntmps77
        go_wp2_with (first
          | ((with_reducible refine gate (N := 9) rfl ?_); refine load_mach rfl _ rfl w.heap.size rfl m hM.out ?_)
          | (go_at_call 85; (with_reducible refine (hc.out).mono ?_); rintro e w1 ⟨rfl, hM2, hB2⟩; replace hM2 := hid hM2; replace hB2 := hid hB2; clear hM hB hc)
          | (go_at_call 86; (with_reducible refine (hin2.out _).mono ?_); rintro e w3 ⟨rfl, rfl⟩)
          | (go_at_call 103; (with_reducible refine (hlev.out _ hM2.out).mono ?_); rintro e w4 ⟨v, rfl, hO, hb⟩; replace hO := hid hO; replace hb := hid hb))
        go_ret2
        exact ⟨_, rfl, by rw [← nats_ints]; exact hO.out.mono hB2.out.size, hB2.out.trans (hb.out.mono hB2.out.size)⟩
      · rw [levelAns_2 g (fun h => hn h.2)]
        have hin2 := hid (fun W => within_any n 0 5 false (decide_eq_false hn).symm W)
        replace hk := hid hk; replace g := hid g; clear hm hq hn
        go_enter Tryz.func77, Tryz.ntmps77
        go_wp2_with (first
          | ((with_reducible refine gate (N := 9) rfl ?_); refine load_mach rfl _ rfl w.heap.size rfl m hM.out ?_)
          | (go_at_call 85; (with_reducible refine (hc.out).mono ?_); rintro e w1 ⟨rfl, hM2, hB2⟩; replace hM2 := hid hM2; replace hB2 := hid hB2; clear hM hB hc)
          | (go_at_call 86; (with_reducible refine (hin2.out _).mono ?_); rintro e w3 ⟨rfl, rfl⟩))
        go_ret2
        exact ⟨_, rfl, Own.nil _ _ _, hB2.out⟩
    · rw [levelAns_2 g (fun h => hq h.1)]
      have hc := hid (hcode.out 2 (codeI_bad g hq))
      replace hk := hid hk; replace g := hid g; clear hm hq hcode
      go_enter Tryz.func77, Tryz.ntmps77
      go_wp2_with (first
        | ((with_reducible refine gate (N := 9) rfl ?_); refine load_mach rfl _ rfl w.heap.size rfl m hM.out ?_)
        | (go_at_call 85; (with_reducible refine (hc.out).mono ?_); rintro e w1 ⟨rfl, hM2, hB2⟩; replace hM2 := hid hM2; replace hB2 := hid hB2; clear hM hB hc))
      go_ret2
      exact ⟨_, rfl, Own.nil _ _ _, hB2.out⟩
  · rw [levelAns_1 hm]
    have hc := hid (hcode.out 1 (codeI_1 hm))
    replace hk := hid hk; clear hm hcode
    go_enter Tryz.func77, Tryz.ntmps77
    go_wp2_with (first
      | ((with_reducible refine gate (N := 9) rfl ?_); refine load_mach rfl _ rfl w.heap.size rfl m hM.out ?_)
      | (go_at_call 85; (with_reducible refine (hc.out).mono ?_); rintro e w1 ⟨rfl, hM2, hB2⟩; replace hM2 := hid hM2; replace hB2 := hid hB2; clear hM hB hc))
    go_ret2
    exact ⟨_, rfl, Own.nil _ _ _, hB2.out⟩

end Go.Proofs.YthmcdfjijkecfaaGreat

/- Maps that respect beginnings: how often they bring all words back. -/
namespace Go.Proofs.YthmcdfjijkecfaaGreat
open Go.RowKit
set_option linter.unusedVariables false
set_option linter.unusedSimpArgs false

/-- F leads words to words of the same length, common beginnings to common beginnings, different words to different ones. -/
structure Aut (d : Nat) (F : List Nat → List Nat) (n : Nat) : Prop where
  len : ∀ u, (∀ x ∈ u, x < d) → u.length ≤ n → (F u).length = u.length
  lt : ∀ u, (∀ x ∈ u, x < d) → u.length ≤ n → ∀ y ∈ F u, y < d
  pre : ∀ u x, (∀ y ∈ u, y < d) → x < d → u.length < n → ∃ y, F (u ++ [x]) = F u ++ [y]
  inj : ∀ u v, (∀ x ∈ u, x < d) → (∀ x ∈ v, x < d) → u.length ≤ n → u.length = v.length → F u = F v → u = v
def itF (F : List Nat → List Nat) : Nat → List Nat → List Nat
  | 0, u => u
  | j + 1, u => F (itF F j u)
theorem itF_add (F : List Nat → List Nat) (i : Nat) (u : List Nat) : ∀ j, itF F (j + i) u = itF F j (itF F i u)
  | 0 => by rw [Nat.zero_add]; rfl
  | j + 1 => by rw [show j + 1 + i = (j + i) + 1 by omega]; show F _ = F _; rw [itF_add F i u j]
theorem itF_mul (F : List Nat → List Nat) (c : Nat) (u : List Nat) : ∀ j, itF F (j * c) u = itF (itF F c) j u
  | 0 => by rw [Nat.zero_mul]; rfl
  | j + 1 => by rw [Nat.succ_mul, Nat.add_comm, itF_add]; show _ = itF F c (itF (itF F c) j u); rw [itF_mul F c u j]
theorem Aut.id (d n : Nat) : Aut d (fun u => u) n := ⟨fun _ _ _ => rfl, fun _ h _ => h, fun _ x _ _ _ => ⟨x, rfl⟩, fun _ _ _ _ _ _ h => h⟩
theorem Aut.comp {d n : Nat} {F G : List Nat → List Nat} (hF : Aut d F n) (hG : Aut d G n) : Aut d (fun u => F (G u)) n where
  len := fun u h hl => by rw [hF.len _ (hG.lt u h hl) (by rw [hG.len u h hl]; exact hl), hG.len u h hl]
  lt := fun u h hl => hF.lt _ (hG.lt u h hl) (by rw [hG.len u h hl]; exact hl)
  pre := fun u x h hx hl => by
    obtain ⟨y, hy⟩ := hG.pre u x h hx hl
    have h1 : ∀ z ∈ G (u ++ [x]), z < d := hG.lt _ (fun z hz => (List.mem_append.1 hz).elim (h z) fun hz => by rw [List.mem_singleton.1 hz]; exact hx) (by simp; omega)
    rw [hy] at h1
    obtain ⟨z, hz⟩ := hF.pre (G u) y (fun a ha => h1 a (List.mem_append.2 (.inl ha))) (h1 y (by simp)) (by rw [hG.len u h (by omega)]; exact hl)
    exact ⟨z, by rw [hy, hz]⟩
  inj := fun u v hu hv hl he e => hG.inj u v hu hv hl he (hF.inj _ _ (hG.lt u hu hl) (hG.lt v hv (by omega)) (by rw [hG.len u hu hl]; exact hl) (by rw [hG.len u hu hl, hG.len v hv (by omega), he]) e)
theorem Aut.it {d n : Nat} {F : List Nat → List Nat} (h : Aut d F n) : ∀ j, Aut d (itF F j) n
  | 0 => Aut.id d n
  | j + 1 => h.comp (h.it j)
def itN (t : Nat → Nat) : Nat → Nat → Nat
  | 0, x => x
  | j + 1, x => t (itN t j x)
theorem two_back (t : Nat → Nat) (hl : ∀ x, x < 2 → t x < 2) (hi : ∀ x y, x < 2 → y < 2 → t x = t y → x = y) (x : Nat) (hx : x < 2) : itN t 2 x = x := by
  have h0 := hl 0 (by omega); have h1 := hl 1 (by omega)
  have h01 : t 0 ≠ t 1 := fun e => absurd (hi 0 1 (by omega) (by omega) e) (by decide)
  have hx' : x = 0 ∨ x = 1 := by omega
  have c : (t 0 = 0 ∧ t 1 = 1) ∨ (t 0 = 1 ∧ t 1 = 0) := by omega
  rcases c with ⟨a, b⟩ | ⟨a, b⟩ <;> rcases hx' with rfl | rfl <;> simp [itN, a, b]
theorem three_back (t : Nat → Nat) (hl : ∀ x, x < 3 → t x < 3) (hi : ∀ x y, x < 3 → y < 3 → t x = t y → x = y) (x : Nat) (hx : x < 3) : itN t 6 x = x := by
  have h0 := hl 0 (by omega); have h1 := hl 1 (by omega); have h2 := hl 2 (by omega)
  have h01 : t 0 ≠ t 1 := fun e => absurd (hi 0 1 (by omega) (by omega) e) (by decide)
  have h02 : t 0 ≠ t 2 := fun e => absurd (hi 0 2 (by omega) (by omega) e) (by decide)
  have h12 : t 1 ≠ t 2 := fun e => absurd (hi 1 2 (by omega) (by omega) e) (by decide)
  have hx' : x = 0 ∨ x = 1 ∨ x = 2 := by omega
  have c : (t 0 = 0 ∧ t 1 = 1 ∧ t 2 = 2) ∨ (t 0 = 0 ∧ t 1 = 2 ∧ t 2 = 1) ∨ (t 0 = 1 ∧ t 1 = 0 ∧ t 2 = 2) ∨ (t 0 = 1 ∧ t 1 = 2 ∧ t 2 = 0) ∨ (t 0 = 2 ∧ t 1 = 0 ∧ t 2 = 1) ∨ (t 0 = 2 ∧ t 1 = 1 ∧ t 2 = 0) := by omega
  rcases c with ⟨a, b, c⟩ | ⟨a, b, c⟩ | ⟨a, b, c⟩ | ⟨a, b, c⟩ | ⟨a, b, c⟩ | ⟨a, b, c⟩ <;> rcases hx' with rfl | rfl | rfl <;> simp [itN, a, b, c]
/-- A number of times that brings each of d letters back. -/
def bk (d : Nat) : Nat := if d = 2 then 2 else 6
theorem let_back {d : Nat} (hd : d = 2 ∨ d = 3) (t : Nat → Nat) (hl : ∀ x, x < d → t x < d) (hi : ∀ x y, x < d → y < d → t x = t y → x = y) (x : Nat) (hx : x < d) : itN t (bk d) x = x := by
  rcases hd with rfl | rfl
  · exact two_back t hl hi x hx
  · exact three_back t hl hi x hx
theorem aut_last {d n : Nat} {G : List Nat → List Nat} (hd : d = 2 ∨ d = 3) (hG : Aut d G n) (v : List Nat) (hv : ∀ y ∈ v, y < d) (hl : v.length < n) (hf : G v = v) (x : Nat) (hx : x < d) : itF G (bk d) (v ++ [x]) = v ++ [x] := by
  obtain ⟨t, ht⟩ : ∃ t : Nat → Nat, ∀ x, x < d → G (v ++ [x]) = v ++ [t x] := by
    refine ⟨fun x => (G (v ++ [x])).getD v.length 0, fun x hx => ?_⟩
    obtain ⟨y, hy⟩ := hG.pre v x hv hx hl
    rw [hf] at hy
    show G (v ++ [x]) = v ++ [(G (v ++ [x])).getD v.length 0]
    rw [hy]
    simp
  have hm : ∀ x, x < d → ∀ z ∈ v ++ [x], z < d := fun x hx z hz => (List.mem_append.1 hz).elim (hv z) fun hz => by rw [List.mem_singleton.1 hz]; exact hx
  have htl : ∀ x, x < d → t x < d := fun x hx => by
    have := hG.lt (v ++ [x]) (hm x hx) (by simp; omega)
    rw [ht x hx] at this
    exact this (t x) (by simp)
  have hti : ∀ x y, x < d → y < d → t x = t y → x = y := fun x y hx hy e => by
    have := hG.inj (v ++ [x]) (v ++ [y]) (hm x hx) (hm y hy) (by simp; omega) (by simp) (by rw [ht x hx, ht y hy, e])
    simpa using this
  have hit : ∀ j, itF G j (v ++ [x]) = v ++ [itN t j x] ∧ itN t j x < d := fun j => by
    induction j with
    | zero => exact ⟨rfl, hx⟩
    | succ j ih => exact ⟨by show G _ = _; rw [ih.1, ht _ ih.2]; rfl, htl _ ih.2⟩
  rw [(hit _).1, let_back hd t htl hti x hx]
theorem aut_back {d n : Nat} {F : List Nat → List Nat} (hd : d = 2 ∨ d = 3) (h : Aut d F n) : ∀ (k : Nat) (u : List Nat), u.length = k → k ≤ n → (∀ y ∈ u, y < d) → itF F (bk d ^ k) u = u
  | 0, u, hl, _, _ => by
    obtain rfl := List.length_eq_zero_iff.1 hl
    have h1 := (h.it (bk d ^ 0)).len [] (by simp) (by simp)
    exact List.length_eq_zero_iff.1 h1
  | k + 1, u, hl, hk, hu => by
    obtain ⟨v, x, rfl⟩ : ∃ v x, u = v ++ [x] := ⟨u.dropLast, u.getLast (by intro e; rw [e] at hl; simp at hl), (List.dropLast_concat_getLast _).symm⟩
    have hv : v.length = k := by simpa using hl
    have ih := aut_back hd h k v hv (by omega) fun y hy => hu y (List.mem_append.2 (.inl hy))
    rw [Nat.pow_succ, Nat.mul_comm, itF_mul]
    exact aut_last hd (h.it _) v (fun y hy => hu y (List.mem_append.2 (.inl hy))) (by omega) ih x (hu x (by simp))
/-- What F makes of a level, in numbers. -/
def pmF (d : Nat) (F : List Nat → List Nat) (n : Nat) : List Nat := (List.range (pw d n)).map fun k => num d (F (wrd d n k))
theorem pmF_length (d : Nat) (F : List Nat → List Nat) (n : Nat) : (pmF d F n).length = pw d n := by simp [pmF]
theorem pmF_get {d : Nat} {F : List Nat → List Nat} {n k : Nat} (hk : k < pw d n) : (pmF d F n).getD k 0 = num d (F (wrd d n k)) := by
  simp [pmF, List.getD_eq_getElem?_getD, hk]
theorem pmF_it {d n : Nat} {F : List Nat → List Nat} (hd : 0 < d) (h : Aut d F n) {k : Nat} (hk : k < pw d n) : ∀ j, itp (pmF d F n) j k = num d (itF F j (wrd d n k))
  | 0 => (num_wrd d hd n k hk).symm
  | j + 1 => by
    have ih := pmF_it hd h hk j
    have hl : (itF F j (wrd d n k)).length = n := by rw [(h.it j).len _ (wrd_lt d hd n k) (by rw [wrd_length]; exact Nat.le_refl n), wrd_length]
    have hm := (h.it j).lt _ (wrd_lt d hd n k) (by rw [wrd_length]; exact Nat.le_refl n)
    show (pmF d F n).getD (itp (pmF d F n) j k) 0 = _
    rw [ih, pmF_get (num_lt d n _ hl hm), wrd_num d hd n _ hl hm]
    rfl
theorem pmF_pm {d n : Nat} {F : List Nat → List Nat} (hd : 0 < d) (h : Aut d F n) : IsPm (pmF d F n) where
  lt := fun k hk => by
    rw [pmF_length] at hk ⊢
    rw [pmF_get hk]
    exact num_lt d n _ (by rw [h.len _ (wrd_lt d hd n k) (by rw [wrd_length]; exact Nat.le_refl n), wrd_length]) (h.lt _ (wrd_lt d hd n k) (by rw [wrd_length]; exact Nat.le_refl n))
  inj := fun i j hi hj e => by
    rw [pmF_length] at hi hj
    rw [pmF_get hi, pmF_get hj] at e
    have hn := fun k => (show (F (wrd d n k)).length = n by rw [h.len _ (wrd_lt d hd n k) (by rw [wrd_length]; exact Nat.le_refl n), wrd_length])
    have hm := fun k => h.lt _ (wrd_lt d hd n k) (by rw [wrd_length]; exact Nat.le_refl n)
    have e2 : F (wrd d n i) = F (wrd d n j) := by rw [← wrd_num d hd n _ (hn i) (hm i), ← wrd_num d hd n _ (hn j) (hm j), e]
    have e3 := h.inj _ _ (wrd_lt d hd n i) (wrd_lt d hd n j) (by rw [wrd_length]; exact Nat.le_refl n) (by rw [wrd_length, wrd_length]) e2
    rw [← num_wrd d hd n i hi, ← num_wrd d hd n j hj, e3]
theorem pmF_back {d n : Nat} {F : List Nat → List Nat} (hd : d = 2 ∨ d = 3) (h : Aut d F n) {k : Nat} (hk : k < pw d n) : itp (pmF d F n) (bk d ^ n) k = k := by
  rw [pmF_it (by omega) h hk, aut_back hd h n _ (wrd_length d n k) (Nat.le_refl n) (wrd_lt d (by omega) n k), num_wrd d (by omega) n k hk]
end Go.Proofs.YthmcdfjijkecfaaGreat

/- States are maps that respect beginnings. -/
namespace Go.Proofs.YthmcdfjijkecfaaGreat
open Go.RowKit
set_option linter.unusedVariables false
set_option linter.unusedSimpArgs false

theorem img_inj {m : Mach} {l s : Nat} (gd : Good m l s) : ∀ (u v : List Nat) (q : Nat), q < s → (∀ x ∈ u, x < l) → (∀ x ∈ v, x < l) → u.length = v.length → img m q u = img m q v → u = v
  | [], [], _, _, _, _, _, _ => rfl
  | [], y :: v, _, _, _, _, hl, _ => by simp at hl
  | x :: u, [], _, _, _, _, hl, _ => by simp at hl
  | x :: u, y :: v, q, hq, hu, hv, hl, e => by
    have hx := hu x (by simp)
    have hy := hv y (by simp)
    have e1 : m.ot (q * 3 + x) :: img m (m.nx (q * 3 + x)) u = m.ot (q * 3 + y) :: img m (m.nx (q * 3 + y)) v := e
    injection e1 with e2 e3
    have exy : x = y := by
      apply Classical.byContradiction
      intro hn
      rcases Nat.lt_or_gt_of_ne hn with h | h
      · exact gd.inj q hq x y h hy e2
      · exact gd.inj q hq y x h hx e2.symm
    subst exy
    rw [img_inj gd u v _ (gd.nx q x hq hx) (fun z hz => hu z (by simp [hz])) (fun z hz => hv z (by simp [hz])) (by simpa using hl) e3]
theorem aut_img {m : Mach} {l s : Nat} (gd : Good m l s) {q : Nat} (hq : q < s) (n : Nat) : Aut l (img m q) n where
  len := fun u _ _ => img_length m u q
  lt := fun u hu _ => img_lt gd u q hq hu
  pre := fun u x _ _ _ => ⟨_, img_snoc m x u q⟩
  inj := fun u v hu hv _ hl e => img_inj gd u v q hq hu hv hl e
theorem perm_pmF (m : Mach) (l q n : Nat) : perm m l q n = pmF l (img m q) n := rfl
end Go.Proofs.YthmcdfjijkecfaaGreat

/- Lists of texts. -/
namespace Go.Proofs.YthmcdfjijkecfaaGreat
open Go.RowKit
set_option linter.unusedVariables false
set_option linter.unusedSimpArgs false
def strs (L : List ByteArray) : List Value := L.map Value.string
theorem strs_length (L : List ByteArray) : (strs L).length = L.length := by simp [strs]
theorem strs_snoc (L : List ByteArray) (s : ByteArray) : strs (L ++ [s]) = strs L ++ [.string s] := by simp [strs]
end Go.Proofs.YthmcdfjijkecfaaGreat

/- Parts of a text between bytes: the reference's l01Split. -/
namespace Go.Proofs.YthmcdfjijkecfaaGreat
open Go.RowKit
set_option linter.unusedVariables false
set_option linter.unusedSimpArgs false
-- @LONG

/-- A byte of a text. -/
def bt (s : ByteArray) (i : Nat) : Nat := if h : i < s.size then (s[i]'h).toNat else 0
theorem bt_eq {s : ByteArray} {i : Nat} (h : i < s.size) : (s[i]'h).toNat = bt s i := by unfold bt; rw [dif_pos h]
theorem bt_lt (s : ByteArray) (i : Nat) : bt s i < 256 := by
  unfold bt; split
  · exact UInt8.toNat_lt _
  · omega
section
variable {ops : Array Oper} {C : World → Prop} {Q : Act → Prop} {a : Act} {o : Oper} {rest : List Oper}
/-- A byte of a text, in a region that only reads. -/
theorem quiet_idx (hw : Region.wanted o (yielded ops a.tmps) = true) (t : TypeId) (x y : Operand) (ho : o.op = .index t x y) (ht : Tryz.prog.underlying t = some .string) (s : ByteArray) (k : Nat) (i : Int) (hx : a.eval x = .string s) (hy : a.eval y = .int .i64 i) (hi : i = (k : Nat)) (hk : k < s.size)
    (h : wpQuiet Tryz.prog ops C Q rest (a.put o.dst (.int .u8 (bt s k : Nat)))) : wpQuiet Tryz.prog ops C Q (o :: rest) a := by
  subst hi
  exact BigFrame.wpQuiet_want hw fun K hK => ⟨.int .u8 (bt s k : Nat), fun w _ => by
    have e : (execOp a.eval o).run Tryz.prog w = .ok (.value (.int .u8 (bt s k : Nat))) w := by
      unfold execOp
      simp only [ho, hx, hy]
      have e2 : (Instr.index t (.string s) (.int .i64 (k : Nat))).run Tryz.prog w = .ok (.int .u8 (bt s k : Nat)) w := by
        rw [run_index_string w t s .i64 k ht, dif_pos ⟨by omega, by omega⟩]
        have e3 := bt_eq hk
        simp only [Int.toNat_natCast, e3]
      simp [go_sem, e2]
    unfold Oper.quietAt
    rw [e]
    exact ⟨rfl, rfl⟩, hK _ h⟩
end
/-- The parts that are done, and where the next one begins, behind i bytes. -/
def splP (s : ByteArray) (c : Nat) : Nat → List ByteArray × Nat
  | 0 => ([], 0)
  | i + 1 => if bt s i = c then ((splP s c i).1 ++ [s.extract (splP s c i).2 i], i + 1) else splP s c i
/-- The parts of a text between the bytes c. -/
def splL (s : ByteArray) (c : Nat) : List ByteArray := (splP s c s.size).1 ++ [s.extract (splP s c s.size).2 s.size]
theorem splP_at (s : ByteArray) (c : Nat) : ∀ i, (splP s c i).2 ≤ i
  | 0 => Nat.le_refl _
  | i + 1 => by
    have := splP_at s c i
    unfold splP; split
    · exact Nat.le_refl _
    · omega
theorem splP_len (s : ByteArray) (c : Nat) : ∀ i, (splP s c i).1.length ≤ i
  | 0 => Nat.le_refl _
  | i + 1 => by
    have := splP_len s c i
    unfold splP; split
    · simp; omega
    · omega
theorem splL_len (s : ByteArray) (c : Nat) : (splL s c).length ≤ s.size + 1 ∧ 1 ≤ (splL s c).length := by
  have := splP_len s c s.size
  unfold splL; simp; omega
theorem splP_sz (s : ByteArray) (c : Nat) : ∀ i, i ≤ s.size → ∀ p ∈ (splP s c i).1, p.size ≤ s.size
  | 0, _, p, hp => by cases hp
  | i + 1, h, p, hp => by
    rw [splP] at hp
    split at hp
    · rcases List.mem_append.1 hp with hp | hp
      · exact splP_sz s c i (by omega) p hp
      · rw [List.mem_singleton.1 hp, ByteArray.size_extract]; omega
    · exact splP_sz s c i (by omega) p hp
theorem splL_sz (s : ByteArray) (c : Nat) : ∀ p ∈ splL s c, p.size ≤ s.size := fun p hp => by
  unfold splL at hp
  rcases List.mem_append.1 hp with hp | hp
  · exact splP_sz s c _ (Nat.le_refl _) p hp
  · rw [List.mem_singleton.1 hp, ByteArray.size_extract]; omega
set_option maxHeartbeats 2000000 in
set_option maxRecDepth 100000 in
theorem l01Split_any (w : World) (s : ByteArray) (hs : s.size ≤ 100000) (c : Nat) :
    Calls Tryz.prog 262 #[.string s, .int .u8 c] w fun e w' => ∃ v, e = .returned v ∧ Own w' w.heap.size 9 v (strs (splL s c)) ∧ Below w.heap.size w w' := by
  have hS0 := hid ((St.start w).newOwn [] 9 (by simp))
  have hb := hid (fun k (hk : k < s.size) => bt_eq hk)
  have hat := hid (splP_at s c)
  have hln := hid (splP_len s c)
  have hst := hid (fun k => (show splP s c (k + 1) = if bt s k = c then ((splP s c k).1 ++ [s.extract (splP s c k).2 k], k + 1) else splP s c k from rfl))
  have hen := hid (show splL s c = (splP s c s.size).1 ++ [s.extract (splP s c s.size).2 s.size] from rfl)
  rw [hen.out]
  obtain ⟨P, hP⟩ : ∃ P, P = splP s c := ⟨_, rfl⟩
  have h0 := hid (show P 0 = ([], 0) by rw [hP]; rfl)
  rw [← hP] at hat hln hst ⊢
  clear hP hen
  go_enter Tryz.func262, Tryz.ntmps262
  go_wp2
  go_loopw [5, 6, 7] (fun o a i wr => ∃ k : Nat, k ≤ s.size ∧ i = .int .i64 k ∧ a = .int .i64 ((P k).2 : Nat) ∧ St w.heap.size w [Asn.own w.heap.size 9 o (strs (P k).1)] wr) (fun _ _ i _ => s.size - (intOf i).toNat)
  case atStart => exact ⟨0, Nat.zero_le _, rfl, by rw [h0.out]; rfl, by rw [h0.out]; exact hS0.out⟩
  case round =>
    obtain ⟨k, hk, rfl, rfl, rS⟩ := hrel
    clear hS0
    replace rS := hid rS
    by_cases hlt : k < s.size
    · have hbk := hb.out k hlt
      have hak := hat.out k
      have hlk := hln.out k
      have hsk := hst.out k
      have dk : decide ((k : Int) < (s.size : Int)) = true := decide_eq_true (by omega)
      have hpl := hid (strs_length (P k).1)
      generalize bt s k = b at *
      by_cases e : b = c
      · subst e
        rw [if_pos rfl] at hsk
        replace hsk := hid hsk
        generalize hat' : (P k).2 = at0 at *
        go_wp2_with (first
          | ((with_reducible refine gate (N := 26) rfl ?_); refine St.app 64 9 (.string { data := #[] }) 16 Tryz.underlying64 info_str rfl (by omega) rfl _ _ rfl _ _ rfl rS.out _ rfl rfl (P k).1.length hpl.out (by omega) ?_; intro gn cap w2 hO2; replace rS := hid hO2; clear hO2))
        go_roundw
        case rel => exact ⟨k + 1, by omega, by go_num, by rw [hsk.out]; go_num, by rw [hsk.out, strs_snoc]; exact rS.out⟩
        case measure => simp [intOf]; omega
      · rw [if_neg e] at hsk
        replace hsk := hid hsk
        have db : ((b : Int) == (c : Int)) = false := by simp; omega
        go_wp2
        go_roundw
        case rel => exact ⟨k + 1, by omega, by go_num, by rw [hsk.out], by rw [hsk.out]; exact rS.out⟩
        case measure => simp [intOf]; omega
    · obtain rfl : k = s.size := by omega
      have hak := hat.out s.size
      have hlk := hln.out s.size
      have hpl := hid (strs_length (P s.size).1)
      generalize hat' : (P s.size).2 = at0 at *
      go_wp2_with (first
        | ((with_reducible refine gate (N := 34) rfl ?_); refine St.app 64 9 (.string { data := #[] }) 16 Tryz.underlying64 info_str rfl (by omega) rfl _ _ rfl _ _ rfl rS.out _ rfl rfl (P s.size).1.length hpl.out (by omega) ?_; intro gn cap w2 hO2; replace rS := hid hO2; clear hO2))
      go_ret
      exact ⟨_, rfl, by rw [strs_snoc, hat']; exact rS.out.o0, rS.out.bel⟩
end Go.Proofs.YthmcdfjijkecfaaGreat
