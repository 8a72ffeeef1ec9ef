/- What the proof of FnDuals leans on, part 11 of 26. -/
import Derived.Test.YtbmkkaecfogmoaaZFnDualsJ
import Derived.StillTailTactics
/- The program's least equal states. -/
namespace Go.Proofs.Ytbmkkaecfogmoaa
open Go.RowKit
set_option linter.unusedVariables false
set_option linter.unusedSimpArgs false

theorem rwI_eq (f : Nat → Nat → Nat) (a b L : Nat) : rwI f a L = rwI f b L ↔ (alls L fun x => f a x == f b x) = true := by
  rw [alls_iff]
  constructor
  · intro h x hx
    have h1 := rwI_get f a L x hx
    rw [h, rwI_get f b L x hx] at h1
    simp at h1; simp; omega
  · intro h
    unfold rwI
    apply List.map_congr_left
    intro x hx
    have := h x (List.mem_range.1 hx)
    simp at this; rw [this]

set_option maxHeartbeats 1000000 in
theorem least1_any (w : World) (bt bq G q j : Nat) (vN vO r : Value) (T : Tab) (hL : T.L < 100) (hn : T.n < 100000) (hTB : TB w G vN vO T) (hbt : w.cell? ⟨bt, 0, none⟩ = some (.pointer (some ⟨G, 0, none⟩))) (hbq : w.cell? ⟨bq, 0, none⟩ = some (.int .i64 q)) (hq : q < T.n) (base : Nat) (hr : Own w base 2 r (ints (rwI T.ot j T.L))) :
    Calls Try.prog 191 #[r, .pointer (some ⟨bt, 0, none⟩), .pointer (some ⟨bq, 0, none⟩)] w fun e w' => e = .returned (.bool (alls T.L fun x => T.ot j x == T.ot q x)) ∧ ∃ d, w' = w.drewN d := by
  obtain ⟨gO, cO, rfl, _, _⟩ := hTB.2.2.blk (fun e => by have h1 := congrArg List.length e; rw [tbL_length] at h1; simp at h1; omega)
  have c1 := hTB.c1
  obtain ⟨rr, cr, hrr⟩ := hTB.2.2.row q _ (tbL_get T.ot T.n T.L q hq)
  rw [tbL_length] at c1
  have he := hid (fun n => slEqual_any (w.drewN n) _ _ _ _ (rwI T.ot j T.L) (rwI T.ot q T.L) (hr.drewN n) (hrr.drewN n) (by rw [rwI_length]; omega) (by rw [rwI_length]; omega) (alls T.L fun x => T.ot j x == T.ot q x) (rwI_eq T.ot j q T.L).symm)
  generalize (alls T.L fun x => T.ot j x == T.ot q x) = res at *
  clear hTB hr hrr hL
  generalize T.n = n at *
  go_enter Try.func191, Try.ntmps191
  go_wp2
  go_quiet ((go_at_call 192; exact Calls.quiet_of (he.out _)))
  go_wp2
  go_ret
  exact ⟨rfl, _, rfl⟩

set_option maxHeartbeats 2000000 in
theorem indexRows_any (w : World) (bt bq G q : Nat) (vN vO : Value) (T : Tab) (hL : T.L < 100) (hn : T.n < 100000) (hTB : TB w G vN vO T) (hbt : w.cell? ⟨bt, 0, none⟩ = some (.pointer (some ⟨G, 0, none⟩))) (hbq : w.cell? ⟨bq, 0, none⟩ = some (.int .i64 q)) (hq : q < T.n) :
    Calls Try.prog 190 #[vO, .func (.func 191) #[] #[.pointer (some ⟨bt, 0, none⟩), .pointer (some ⟨bq, 0, none⟩)]] w fun e w' => e = .returned (.int .i64 (cls T 1 q : Nat)) ∧ ∃ d, w' = w.drewN d := by
  have hc := hid (fun d j r base hr => least1_any (w.drewN d) bt bq G q j vN vO r T hL hn ⟨hTB.1, ⟨_, (hTB.2.1.choose_spec).1.drewN d, (hTB.2.1.choose_spec).2.1, fun i r l h1 h2 => ((hTB.2.1.choose_spec).2.2 i r l h1 h2).drewN d⟩, ⟨_, (hTB.2.2.choose_spec).1.drewN d, (hTB.2.2.choose_spec).2.1, fun i r l h1 h2 => ((hTB.2.2.choose_spec).2.2 i r l h1 h2).drewN d⟩⟩ hbt hbq hq base hr)
  obtain ⟨gO, cO, rfl, _, _⟩ := hTB.2.2.blk (fun e => by have h1 := congrArg List.length e; rw [tbL_length] at h1; simp at h1; omega)
  have hrow := hid (fun j (hj : j < T.n) => hTB.2.2.row j _ (tbL_get T.ot T.n T.L j hj))
  rw [tbL_length]
  clear hTB hbt hbq
  generalize hnn : T.n = n at *
  replace hnn := hid hnn
  go_enter Try.func190, Try.ntmps190
  go_wp2
  go_loopw [8] (fun i wr => ∃ k d : Nat, k ≤ q ∧ i = .int .i64 k ∧ wr = w.drewN d ∧ Hid (∀ j, j < k → (alls T.L fun x => T.ot j x == T.ot q x) = false)) (fun i _ => n - (intOf i).toNat)
  case atStart => exact ⟨0, 0, Nat.zero_le _, rfl, rfl, fun j hj => by omega⟩
  case round =>
    obtain ⟨k, d, hk, rfl, rfl, hall⟩ := hrel
    have hkn : k < n := by omega
    obtain ⟨r, cr, hr⟩ := hrow.out k hkn
    have hc1 := hid (hc.out d k r _ (hr.drewN d))
    have hone := hid (fun h => cls_one T q k hk hall.out h)
    have hself : Hid (k = q → (alls T.L fun x => T.ot k x == T.ot q x) = true) := fun e => by subst e; rw [alls_iff]; intro x _; simp
    have hnext : Hid ((alls T.L fun x => T.ot k x == T.ot q x) = false → ∀ j, j < k + 1 → (alls T.L fun x => T.ot j x == T.ot q x) = false) := fun h j hj => by
      by_cases e : j = k
      · subst e; exact h
      · exact hall.out j (by omega)
    clear hr
    cases hres : (alls T.L fun x => T.ot k x == T.ot q x) with
    | true =>
      rw [hres] at hc1
      have h1 := hid (hone.out hres)
      clear hres
      go_wp2_with (first
        | (go_at_call 191; (with_reducible refine (hc1.out).mono ?_); rintro e w1 ⟨rfl, d2, rfl⟩))
      go_ret
      exact ⟨retI (by rw [h1.out]), _, rfl⟩
    | false =>
      rw [hres] at hc1
      have h1 := hid (hnext.out hres)
      have hkq : k ≠ q := fun e => by have := hself.out e; rw [hres] at this; cases this
      clear hres
      go_wp2_with (first
        | (go_at_call 191; (with_reducible refine (hc1.out).mono ?_); rintro e w1 ⟨rfl, d2, rfl⟩))
      go_roundw
      case rel => exact ⟨k + 1, _, by omega, by go_num, rfl, h1⟩
      case measure => simp [intOf]; omega

def clsL (T : Tab) (k n : Nat) : List Nat := (List.range n).map (cls T k)
theorem clsL_length (T : Tab) (k n : Nat) : (clsL T k n).length = n := by simp [clsL]
theorem clsL_get (T : Tab) (k n q : Nat) (h : q < n) : (nats (clsL T k n))[q]? = some (.int .i64 (cls T k q : Nat)) := by simp [nats, clsL, h]
theorem alls_succ (x : Nat) (p : Nat → Bool) : alls (x + 1) p = (alls x p && p x) := by
  unfold alls; rw [List.range_succ, List.all_append]; simp

set_option maxHeartbeats 4000000 in
set_option maxRecDepth 100000 in
theorem like_any (w : World) (G q k base : Nat) (vN vO vof : Value) (T : Tab) (hT : T.Ok) (hL : T.L < 100) (hL0 : 0 < T.L) (hn : T.n < 100000) (hTB : TB w G vN vO T) (hof : Own w base 2 vof (nats (clsL T (k + 1) T.n))) (hq : q < T.n) :
    Calls Try.prog 193 #[.pointer (some ⟨G, 0, none⟩), vof, .int .i64 q] w fun e w' => e = .returned (.int .i64 (cls T (k + 2) q : Nat)) ∧ ∃ d, w' = w.drewN d := by
  obtain ⟨gN, cN, rfl, _, _⟩ := hTB.2.1.blk (fun e => by have h1 := congrArg List.length e; rw [tbL_length] at h1; simp at h1; omega)
  obtain ⟨go, co, rfl, _, _⟩ := hof.blk (fun e => by have h1 := congrArg List.length e; rw [nats_length, clsL_length] at h1; simp at h1; omega)
  have c0 := hTB.c0
  have hrow := hid (fun j (hj : j < T.n) => hTB.2.1.row j _ (tbL_get T.nx T.n T.L j hj))
  have hcell := hid (fun j (hj : j < T.n) => hof.cellAt j _ (clsL_get T (k + 1) T.n j hj))
  have hle := hid (fun j => cls_le T (k + 1) j)
  have hnext := hid (fun r => cls_next T k q r)
  have hsame := hid (fun r (h : cls T (k + 1) r = cls T (k + 1) q) => like_same h)
  have hdiff := hid (fun r (h : cls T (k + 1) r ≠ cls T (k + 1) q) => (show like T (cls T (k + 1)) r q = false from by
    cases hl : like T (cls T (k + 1)) r q with
    | false => rfl
    | true => exact absurd ((like_iff _ _ _ _).1 hl).1 h))
  have hnx := hid (fun j x (hj : j < T.n) (hx : x < T.L) => hT.nx j x hj hx)
  rw [tbL_length] at c0
  rw [nats_length, clsL_length]
  have cq := hcell.out q hq
  have hleq := hle.out q
  clear hTB hof hT
  replace hrow := hid (show ∀ j, j < T.n → ∃ g c, w.cell? ⟨gN, j, none⟩ = some (.slice (some ⟨g, 0, none⟩) T.L c) ∧ ∀ x, x < T.L → w.cell? ⟨g, x, none⟩ = some (.int .i64 (T.nx j x : Nat)) from fun j hj => by
    obtain ⟨r, cr, hr⟩ := hrow.out j hj
    obtain ⟨g, c, rfl, _, _⟩ := hr.blk (fun e => by have h1 := congrArg List.length e; rw [ints_length, rwI_length] at h1; simp at h1; omega)
    rw [ints_length, rwI_length] at cr hr
    exact ⟨g, c, cr, fun x hx => hr.cellAt x _ (by simp [ints, rwI_get _ _ _ _ hx])⟩)
  generalize hnn : T.n = n at *
  generalize hLL : T.L = L at *
  replace hnn := hid hnn
  replace hLL := hid hLL
  generalize hc0 : cls T (k + 1) q = cq0 at *
  replace hc0 := hid hc0
  go_enter Try.func193, Try.ntmps193
  go_wp2
  clear cq
  go_loopw [7] (fun i wr => ∃ r d : Nat, cq0 ≤ r ∧ r ≤ q ∧ i = .int .i64 r ∧ wr = w.drewN d ∧ Hid (∀ j, cq0 ≤ j → j < r → like T (cls T (k + 1)) j q = false)) (fun i _ => n - (intOf i).toNat)
  case atStart => exact ⟨cq0, 0, Nat.le_refl _, hleq, rfl, rfl, fun j h1 h2 => by omega⟩
  case round =>
    obtain ⟨r, d, hr0, hrq, rfl, rfl, hall⟩ := hrel
    by_cases hlt : r < q
    · have dr : decide ((r : Int) < (q : Int)) = true := decide_eq_true (by omega)
      have hrn : r < n := by omega
      have cr := hcell.out r hrn
      have cq := hcell.out q hq
      rw [hc0.out] at cq
      have hno : Hid (like T (cls T (k + 1)) r q = false → ∀ j, cq0 ≤ j → j < r + 1 → like T (cls T (k + 1)) j q = false) := fun h j h1 h2 => by
        by_cases e : j = r
        · subst e; exact h
        · exact hall.out j h1 (by omega)
      by_cases hcl : cls T (k + 1) r = cq0
      · have hs := hid (hsame.out r hcl)
        rw [hcl] at cr
        have hbb : (cq0 != cq0) = false := by simp
        have hbz : ((cq0 : Int) != (cq0 : Int)) = false := by simp
        obtain ⟨gq, cgq, crq, hxq⟩ := hrow.out q hq
        obtain ⟨gr, cgr, crr, hxr⟩ := hrow.out r hrn
        replace hxq := hid hxq; replace hxr := hid hxr
        go_upto_region 4 with (fail)
        go_quiet (fail)
        go_wp2
        clear cr cq hbb hbz
        go_loopw [8, 37] (fun s i wr => ∃ x d : Nat, x ≤ L ∧ i = .int .i64 x ∧ wr = w.drewN d ∧ s = .bool (alls x fun y => cls T (k + 1) (T.nx q y) == cls T (k + 1) (T.nx r y))) (fun _ i _ => L - (intOf i).toNat)
        case atStart => exact ⟨0, _, Nat.zero_le _, rfl, rfl, rfl⟩
        case round =>
          obtain ⟨x, d2, hx, rfl, rfl, rfl⟩ := hrel
          have hsx := hid (alls_succ x fun y => cls T (k + 1) (T.nx q y) == cls T (k + 1) (T.nx r y))
          by_cases hxL : x < L
          · have e1 := hxq.out x hxL
            have e2 := hxr.out x hxL
            have h1 := hnx.out q x hq hxL
            have h2 := hnx.out r x hrn hxL
            have e3 := hcell.out _ h1
            have e4 := hcell.out _ h2
            generalize T.nx q x = a at *
            generalize T.nx r x = b at *
            generalize cls T (k + 1) a = ca at *
            generalize cls T (k + 1) b = cb at *
            cases hal : alls x fun y => cls T (k + 1) (T.nx q y) == cls T (k + 1) (T.nx r y) with
            | true =>
              rw [hal] at hsx
              have hbeq : (((ca : Nat) : Int) == ((cb : Nat) : Int)) = (ca == cb) := by
                by_cases e : ca = cb
                · subst e; simp
                · have h1 : (ca == cb) = false := by simpa using e
                  rw [h1]
                  have : ((ca : Nat) : Int) ≠ ((cb : Nat) : Int) := by omega
                  simpa using this
              replace hbeq := hid hbeq
              clear hal
              go_upto_region 9 with (fail)
              go_quiet (fail)
              go_wp2
              go_roundw
              case rel => exact ⟨x + 1, _, by omega, by go_num, rfl, by rw [hsx.out]; simp; first | exact hbeq.out | (rw [← hbeq.out]; simp)⟩
              case measure => simp [intOf]; omega
            | false =>
              rw [hal] at hsx
              clear hal
              go_upto_region 9 with (fail)
              go_quiet (fail)
              go_wp2
              go_roundw
              case rel => exact ⟨x + 1, _, by omega, by go_num, rfl, by rw [hsx.out]; rfl⟩
              case measure => simp [intOf]; omega
          · obtain rfl : L = x := by omega
            rw [← hs.out]
            have hres := hid (hnext.out r hr0 hrq hall.out)
            cases hal : like T (cls T (k + 1)) r q with
            | true =>
              have hres2 := hid (hres.out fun _ => hal)
              clear hal
              go_wp2
              go_ret
              exact ⟨retI (by rw [hres2.out]), _, rfl⟩
            | false =>
              have hno2 := hid (hno.out hal)
              clear hal
              go_wp2
              go_roundw
              case rel => exact ⟨r + 1, _, by omega, by omega, by go_num, rfl, hno2⟩
              case measure => simp [intOf]; omega
      · have hdf := hid (hno.out (hdiff.out r hcl))
        generalize cls T (k + 1) r = cr0 at *
        have hbz : ((cr0 : Int) != (cq0 : Int)) = true := by rw [bne_iff_ne]; omega
        clear hcl
        go_upto_region 4 with (fail)
        go_quiet (fail)
        go_wp2
        go_roundw
        case rel => exact ⟨r + 1, _, by omega, by omega, by go_num, rfl, hdf⟩
        case measure => simp [intOf]; omega
    · obtain rfl : r = q := by omega
      have hres := hid (hnext.out r hr0 hrq hall.out (fun h => absurd h (by omega)))
      have dr : decide ((r : Int) < (r : Int)) = false := decide_eq_false (by omega)
      go_wp2
      go_ret
      exact ⟨retI (by rw [hres.out]), _, rfl⟩
end Go.Proofs.Ytbmkkaecfogmoaa

/- Slices of elements of several cells that a function made itself. -/
namespace Go.Proofs.Ytbmkkaecfogmoaa
open Go.RowKit
set_option linter.unusedVariables false
set_option linter.unusedSimpArgs false

/-- The slice value v holds n elements of sz cells each: just the cells cs, in a block of its own from 'base' on. -/
def OwnN (w : World) (base e sz : Nat) (v : Value) (n : Nat) (cs : List Value) : Prop := w.ownsRow base e sz v n cs
section
variable {w w' : World} {base e sz n : Nat} {v : Value} {cs : List Value}
theorem OwnN.len (h : OwnN w base e sz v n cs) : cs.length = n * sz := h.1
theorem OwnN.nil (w : World) (base e sz : Nat) : OwnN w base e sz (.slice none 0 0) 0 [] := World.ownsRow_nil w base e sz
theorem OwnN.new (w : World) (base e sz : Nat) (hb : base ≤ w.heap.size) : OwnN (w.alloc (.cells #[] e)) base e sz (.slice (some ⟨w.heap.size, 0, none⟩) 0 0) 0 [] := by
  have := World.ownsRow_lit (base := base) (e := e) (size := sz) w #[] 0 hb (by simp [maxLen]) (by simp)
  exact this
theorem OwnN.keep (h : OwnN w base e sz v n cs) (hk : ∀ k, v.ownBlock = some k → w'.heap[k]? = w.heap[k]?) : OwnN w' base e sz v n cs := by
  refine ⟨h.1, ?_⟩
  rcases h.2 with hn | ⟨g, cap, cur, rfl, hb, hg, rest⟩
  · exact .inl hn
  · exact .inr ⟨g, cap, cur, rfl, hb, (hk g rfl).trans hg, rest⟩
theorem OwnN.lt (h : OwnN w base e sz v n cs) : ∀ k, v.ownBlock = some k → base ≤ k ∧ k < w.heap.size := World.ownsRow.lt h
theorem OwnN.mono {b' : Nat} (h : OwnN w base e sz v n cs) (hb : b' ≤ base) : OwnN w b' e sz v n cs := by
  refine ⟨h.1, ?_⟩
  rcases h.2 with hn | ⟨g, cap, cur, rfl, hg0, rest⟩
  · exact .inl hn
  · exact .inr ⟨g, cap, cur, rfl, Nat.le_trans hb hg0, rest⟩
theorem OwnN.form (h : OwnN w base e sz v n cs) : (v = .slice none 0 0 ∧ n = 0) ∨ ∃ g cap, v = .slice (some ⟨g, 0, none⟩) n cap := by
  rcases h.2 with h | ⟨g, cap, cur, rfl, _⟩
  · exact .inl h
  · exact .inr ⟨g, cap, rfl⟩
theorem OwnN.blk (h : OwnN w base e sz v n cs) (hn : 0 < n) : ∃ g cap, v = .slice (some ⟨g, 0, none⟩) n cap := by
  rcases h.form with ⟨_, h0⟩ | h
  · omega
  · exact h
theorem OwnN.cellAt {g cap : Nat} (h : OwnN w base e sz (.slice (some ⟨g, 0, none⟩) n cap) n cs) (j : Nat) (u : Value) (hu : cs[j]? = some u) : w.cell? ⟨g, j, none⟩ = some u := by
  have hj : j < n * sz := by rw [← h.len]; exact (List.getElem?_eq_some_iff.1 hu).1
  rw [World.ownsRow.cellAt h j hj]; exact hu
theorem OwnN.frozenAt {g cap : Nat} (h : OwnN w base e sz (.slice (some ⟨g, 0, none⟩) n cap) n cs) (j : Nat) : w.frozen? ⟨g, j, none⟩ = false := World.ownsRow.frozenAt h j
theorem OwnN.set {g cap : Nat} (h : OwnN w base e sz (.slice (some ⟨g, 0, none⟩) n cap) n cs) (j : Nat) (u : Value) : OwnN (w.setCell ⟨g, j, none⟩ u) base e sz (.slice (some ⟨g, 0, none⟩) n cap) n (cs.set j u) := (World.ownsRow.stored h j u).1
/-- One element's cells, as a load of it wants them. -/
theorem OwnN.range {g cap : Nat} (h : OwnN w base e sz (.slice (some ⟨g, 0, none⟩) n cap) n cs) (o : Nat) (l : List Value) (hl : ∀ j, j < l.length → cs[o + j]? = l[j]?) : w.rangeAt g o l := fun j u hu => by
  have hj := (List.getElem?_eq_some_iff.1 hu).1
  exact h.cellAt (o + j) u ((hl j hj).trans hu)
end
def Asn.ownN (base e sz : Nat) (v : Value) (n : Nat) (cs : List Value) : Asn := ⟨fun k => v.ownBlock = some k, fun w => OwnN w base e sz v n cs, fun h hk => h.keep hk, fun h k hk => (h.lt k hk).2⟩

/-- One element appended, as the walk meets it: behind its box. -/
theorem appN {P : Program} {ops : Array Oper} {rest : List Oper} {o : Oper} {a : Act} {W : World} {Q : Exit → Act → World → Prop} (t e : TypeId) (z : Value) (sz bytes : Nat)
    (ht : P.underlying t = some (.slice e)) (hinfo : (P.info? e).map (fun i => (i.zero, i.size, i.bytes)) = some (some z, sz, bytes)) (hz : z.cells.size = sz) (hsz : 0 < sz) (hb : bytes ≤ 64)
    (hgd : o.guard = none) (s x : Operand) (ho : o.op = .call { callee := .builtin .append, args := #[s, x], argTypes := #[t, t] })
    (base : Nat) (v : Value) (n : Nat) (cs : List Value) (hs : a.eval s = v) (hown : OwnN W base e sz v n cs) (hbase : base ≤ W.heap.size) (news : List Value) (hnl : news.length = sz) (hc1 : ∀ u ∈ news, u.oneCell' = true)
    (hx : a.eval x = .slice (some ⟨W.heap.size, 0, none⟩) 1 1) (hlen : n ≤ 1000000000)
    (h : ∀ g cap w', OwnN w' base e sz (.slice (some ⟨g, 0, none⟩) (n + 1) cap) (n + 1) (cs ++ news) → Below base W w' → (∀ k, k < W.heap.size → v.ownBlock ≠ some k → w'.heap[k]? = W.heap[k]?) → W.heap.size < w'.heap.size → (v.ownBlock = some g ∨ W.heap.size < g) →
      wpList P ops Q rest (a.put o.dst (.slice (some ⟨g, 0, none⟩) (n + 1) cap)) w') :
    wpList P ops Q (o :: rest) a (W.alloc (.cells news.toArray e)) := by
  obtain ⟨i, hi, hz0, hz1, hz2⟩ := info_parts hinfo
  refine wpList_plain hgd fun K hK => ?_
  refine wp_append_lies (W.alloc (.cells news.toArray e)) s x t ho base e i z sz bytes ht hi hz0 hz1 hz2 hz hsz v n cs hs (World.ownsRow.alloc hown _) ⟨W.heap.size, 0, none⟩ 1 1 news hx (by rw [hnl, Nat.one_mul])
    (fun j u hu => ?_) hc1 (by omega) (by simp only [maxLen]; omega) (Nat.le_trans (Nat.mul_le_mul_left _ hb) (by omega)) (by simp; omega) (W.heap.size + 1) (by simp) ?_
  · rw [Addr.add_mid, Nat.zero_add, cell_of_row _ W.heap.size j _ _ _ (heap_alloc_new W _)]
    simpa using hu
  · intro g cap w' h1 h2 h3 h4
    have hsz' : W.heap.size < w'.heap.size := by have := h2.size; simp at this; omega
    have hold : ∀ k, k < W.heap.size → v.ownBlock ≠ some k → w'.heap[k]? = W.heap[k]? := fun k hk hne => by
      rw [h2.block k (by simp; omega) (fun e => hne e.symm)]
      exact Below.heap_alloc W _ k hk
    exact hK _ _ (h g cap w' h1 ⟨h2.os, h2.tape, h2.output, by omega, fun k hk => hold k (by omega) (fun e => by have := (hown.lt k e).1; omega)⟩ hold hsz' (h3.imp id (fun e => by omega)))

section
variable {w w' W w0 : World} {L : List Asn} {base : Nat} {a b c d e f : Asn}
theorem St.n0 {bs t sz n : Nat} {v : Value} {cs : List Value} (h : St base w0 (Asn.ownN bs t sz v n cs :: L) w) : OwnN w bs t sz v n cs := h.g0
theorem St.n1 {bs t sz n : Nat} {v : Value} {cs : List Value} (h : St base w0 (a :: Asn.ownN bs t sz v n cs :: L) w) : OwnN w bs t sz v n cs := h.g1
theorem St.n2 {bs t sz n : Nat} {v : Value} {cs : List Value} (h : St base w0 (a :: b :: Asn.ownN bs t sz v n cs :: L) w) : OwnN w bs t sz v n cs := h.g2
theorem St.n3 {bs t sz n : Nat} {v : Value} {cs : List Value} (h : St base w0 (a :: b :: c :: Asn.ownN bs t sz v n cs :: L) w) : OwnN w bs t sz v n cs := h.g3
theorem St.n4 {bs t sz n : Nat} {v : Value} {cs : List Value} (h : St base w0 (a :: b :: c :: d :: Asn.ownN bs t sz v n cs :: L) w) : OwnN w bs t sz v n cs := h.g4
theorem St.n5 {bs t sz n : Nat} {v : Value} {cs : List Value} (h : St base w0 (a :: b :: c :: d :: e :: Asn.ownN bs t sz v n cs :: L) w) : OwnN w bs t sz v n cs := h.g5
theorem St.nilN (h : St base w0 L w) (t sz : Nat) : St base w0 (Asn.ownN base t sz (.slice none 0 0) 0 [] :: L) w := h.push (a := Asn.ownN base t sz _ 0 []) (OwnN.nil _ _ _ _) fun k hk => by cases hk
theorem St.newN (h : St base w0 L w) (t sz : Nat) : St base w0 (Asn.ownN base t sz (.slice (some ⟨w.heap.size, 0, none⟩) 0 0) 0 [] :: L) (w.alloc (.cells #[] t)) :=
  h.allocPush (a := Asn.ownN base t sz _ 0 []) _ (OwnN.new w base t sz h.le) fun k hk => by
    have : w.heap.size = k := by simpa [Asn.ownN, Value.ownBlock] using hk
    exact this.symm
theorem St.appdN {t sz n n' gn m cap : Nat} {v : Value} {cs cs' : List Value} (h : St base w0 (Asn.ownN base t sz v n cs :: L) w) (hO : OwnN w' base t sz (.slice (some ⟨gn, 0, none⟩) m cap) n' cs') (hb : Below base w w') (hold : ∀ k, k < w.heap.size → v.ownBlock ≠ some k → w'.heap[k]? = w.heap[k]?)
    (hg : v.ownBlock = some gn ∨ w.heap.size ≤ gn) : St base w0 (Asn.ownN base t sz (.slice (some ⟨gn, 0, none⟩) m cap) n' cs' :: L) w' :=
  h.turn (a' := Asn.ownN base t sz _ n' cs') hO (fun k hk => by
    have e : gn = k := by simpa [Asn.ownN, Value.ownBlock] using hk
    subst e
    exact hg) (fun k hk => ((show OwnN w base t sz v n cs from h.star.1).lt k hk).1) hb fun k hk hne => hold k hk hne
theorem St.setN {t sz gn n cap : Nat} {cs : List Value} (h : St base w0 (Asn.ownN base t sz (.slice (some ⟨gn, 0, none⟩) n cap) n cs :: L) w) (i : Nat) (u : Value) : St base w0 (Asn.ownN base t sz (.slice (some ⟨gn, 0, none⟩) n cap) n (cs.set i u) :: L) (w.setCell ⟨gn, i, none⟩ u) :=
  have hb : base ≤ gn := ((show OwnN w base t sz _ n cs from h.star.1).lt gn rfl).1
  h.turn (a' := Asn.ownN base t sz _ n (cs.set i u)) (OwnN.set h.star.1 i u) (fun k hk => .inl hk) (fun k hk => ((show OwnN w base t sz _ n cs from h.star.1).lt k hk).1) ((Below.refl _ _).setCell hb u)
    fun k _ hk => heap_setCell_other w ⟨gn, i, none⟩ k u fun e => hk (show Value.ownBlock _ = some k by rw [e]; rfl)
theorem St.callN {t sz n : Nat} {v : Value} {cs : List Value} (h : St base w0 L w) (hb : Below w.heap.size w w') (ha : OwnN w' w.heap.size t sz v n cs) : St base w0 (Asn.ownN base t sz v n cs :: L) w' :=
  h.callPush (a := Asn.ownN base t sz v n cs) hb (ha.mono h.le) fun k hk => (ha.lt k hk).1
theorem St.appNw {ops : Array Oper} {rest : List Oper} {o : Oper} {act : Act} {Q : Exit → Act → World → Prop} (t e : TypeId) (z : Value) (sz bytes : Nat)
    (ht : Try.prog.underlying t = some (.slice e)) (hinfo : (Try.prog.info? e).map (fun i => (i.zero, i.size, i.bytes)) = some (some z, sz, bytes)) (hz : z.cells.size = sz) (hsz : 0 < sz) (hb : bytes ≤ 64)
    (hgd : o.guard = none) (s x : Operand) (ho : o.op = .call { callee := .builtin .append, args := #[s, x], argTypes := #[t, t] })
    (v : Value) (n : Nat) (cs : List Value) (hs : act.eval s = v) (hS : St base w0 (Asn.ownN base e sz v n cs :: L) W) (news : List Value) (hnl : news.length = sz) (hc1 : ∀ u ∈ news, u.oneCell' = true)
    (hx : act.eval x = .slice (some ⟨W.heap.size, 0, none⟩) 1 1) (hlen : n ≤ 1000000000)
    (h : ∀ g cap w', St base w0 (Asn.ownN base e sz (.slice (some ⟨g, 0, none⟩) (n + 1) cap) (n + 1) (cs ++ news) :: L) w' → wpList Try.prog ops Q rest (act.put o.dst (.slice (some ⟨g, 0, none⟩) (n + 1) cap)) w') :
    wpList Try.prog ops Q (o :: rest) act (W.alloc (.cells news.toArray e)) := by
  refine appN t e z sz bytes ht hinfo hz hsz hb hgd s x ho base v n cs hs hS.star.1 hS.le news hnl hc1 hx hlen ?_
  intro g cap w' h1 h2 h3 h4 h5
  exact h g cap w' (hS.appdN h1 h2 h3 (h5.imp id Nat.le_of_lt))
end
end Go.Proofs.Ytbmkkaecfogmoaa

/- LevelPermutation: the program's and the reference's come to the same; the law's body. -/
namespace Go.Proofs.Ytbmkkaecfogmoaa
open Go.RowKit
set_option linter.unusedVariables false
set_option linter.unusedSimpArgs false

open Classical in
/-- What LevelPermutation answers. -/
noncomputable def levelAns (m : Mach) (q n : Int) : List Int × Int :=
  if IsM m then if (0 ≤ q ∧ q < m.S) ∧ 0 ≤ n ∧ n ≤ 5 then ((perm m m.L.toNat q.toNat n.toNat).map Int.ofNat, 0) else ([], 2) else ([], 1)
theorem levelAns_1 {m : Mach} {q n : Int} (h : ¬ IsM m) : levelAns m q n = ([], 1) := by unfold levelAns; rw [if_neg h]
theorem levelAns_2 {m : Mach} {q n : Int} {l s : Nat} (g : Good m l s) (h : ¬ ((0 ≤ q ∧ q < (s : Int)) ∧ 0 ≤ n ∧ n ≤ 5)) : levelAns m q n = ([], 2) := by unfold levelAns; rw [if_pos g.isM, g.S, if_neg h]
theorem levelAns_0 {m : Mach} {l s : Nat} (g : Good m l s) (q n : Nat) (hq : q < s) (hn : n ≤ 5) : levelAns m q n = ((perm m l q n).map Int.ofNat, 0) := by
  unfold levelAns
  rw [if_pos g.isM, g.S, g.L, if_pos (by omega)]
  rfl

theorem levelAns_len (m : Mach) (q n : Int) : (levelAns m q n).1.length < 999999 := by
  by_cases hm : IsM m
  · obtain ⟨l, s, g⟩ := hm.good
    by_cases h : (0 ≤ q ∧ q < (s : Int)) ∧ 0 ≤ n ∧ n ≤ 5
    · obtain ⟨q, rfl⟩ := Int.eq_ofNat_of_zero_le h.1.1
      obtain ⟨n, rfl⟩ := Int.eq_ofNat_of_zero_le h.2.1
      rw [levelAns_0 g q n (by omega) (by omega)]
      have := pw_small l n g.l3 (by omega)
      rw [List.length_map, perm_length]; omega
    · rw [levelAns_2 g h]; simp
  · rw [levelAns_1 hm]; simp
/-- Two that answer alike. -/
def AnsL (w : World) (A : List Int × Int) (e : Ending) (w' : World) : Prop := ∃ v, e = .returned (.tuple #[v, .int .i64 A.2]) ∧ Own w' w.heap.size 2 v (ints A.1) ∧ Below w.heap.size w w'


theorem codeI_one {m : Mach} {l s : Nat} {q : Int} (g : Good m l s) (hq : 0 ≤ q ∧ q < (s : Int)) : codeI m { data := #[] } [q] = 0 := codeI_0 g (isWd_nil _) (fun x hx => by simp at hx; subst hx; exact hq)
theorem codeI_bad {m : Mach} {l s : Nat} {q : Int} (g : Good m l s) (hq : ¬ (0 ≤ q ∧ q < (s : Int))) : codeI m { data := #[] } [q] = 2 := codeI_2 g (isWd_nil _) (fun h => hq (h q (by simp)))

end Go.Proofs.Ytbmkkaecfogmoaa

/- Portraits: permutations of letters, and lists of their numbers. -/
namespace Go.Proofs.Ytbmkkaecfogmoaa
open Go.RowKit
set_option linter.unusedVariables false
set_option linter.unusedSimpArgs false

/-- All permutations of d letters, by their numbers. -/
def prms (d : Nat) : List (List Int) := if d = 2 then [[0, 1], [1, 0]] else [[0, 1, 2], [0, 2, 1], [1, 0, 2], [1, 2, 0], [2, 0, 1], [2, 1, 0]]
def cnt (d : Nat) : Nat := if d = 2 then 2 else 6
theorem prms_length (d : Nat) : (prms d).length = cnt d := by unfold prms cnt; split <;> rfl
/-- The number of words of the levels less than k. -/
def start (d : Nat) : Nat → Nat
  | 0 => 0
  | k + 1 => start d k + pw d k
theorem start_pw (d : Nat) (hd : 1 ≤ d) : ∀ k, start d k * (d - 1) + 1 = pw d k
  | 0 => by simp [start, pw]
  | k + 1 => by
    have h := start_pw d hd k
    obtain ⟨e, rfl⟩ : ∃ e, d = e + 1 := ⟨d - 1, by omega⟩
    simp only [Nat.add_sub_cancel, start, pw] at h ⊢
    rw [Nat.add_mul, Nat.mul_add, Nat.mul_one]
    omega
theorem start_div (d : Nat) (hd : 2 ≤ d) (k : Nat) : (pw d k - 1) / (d - 1) = start d k := by
  rw [← start_pw d (by omega) k, Nat.add_sub_cancel, Nat.mul_div_cancel _ (by omega)]
/-- What a function makes of the words of the levels less than k. -/
def byL (d : Nat) (F : List Nat → Int) : Nat → List Int
  | 0 => []
  | k + 1 => byL d F k ++ (List.range (pw d k)).map fun j => F (wrd d k j)
theorem byL_length (d : Nat) (F : List Nat → Int) : ∀ k, (byL d F k).length = start d k
  | 0 => rfl
  | k + 1 => by simp [byL, start, byL_length d F k]
theorem byL_get (d : Nat) (F : List Nat → Int) (k j : Nat) (hj : j < pw d k) : ∀ n, k < n → (byL d F n)[start d k + j]? = some (F (wrd d k j))
  | 0, h => absurd h (Nat.not_lt_zero _)
  | n + 1, h => by
    by_cases e : k = n
    · subst e
      rw [byL, List.getElem?_append_right (by rw [byL_length]; omega), byL_length, show start d k + j - start d k = j by omega]
      simp [hj]
    · have ih := byL_get d F k j hj n (by omega)
      rw [byL, List.getElem?_append_left (List.getElem?_eq_some_iff.1 ih).1]
      exact ih
theorem byL_congr (d : Nat) (F G : List Nat → Int) (n : Nat) (h : ∀ k, k < n → ∀ j, j < pw d k → F (wrd d k j) = G (wrd d k j)) : byL d F n = byL d G n := by
  induction n with
  | zero => rfl
  | succ n ih =>
    rw [byL, byL, ih fun k hk => h k (by omega)]
    congr 1
    exact List.map_congr_left fun j hj => h n (by omega) j (List.mem_range.1 hj)
/-- Is g a portrait? -/
def IsP (d n : Nat) (g : List Int) : Prop := g.length = start d n ∧ ∀ k ∈ g, 0 ≤ k ∧ k < (cnt d : Int)
/-- Are letters and depth in their ranges? -/
def IsD (d n : Int) : Prop := (2 ≤ d ∧ d ≤ 3) ∧ 1 ≤ n ∧ n ≤ 4
instance (d n : Int) : Decidable (IsD d n) := by unfold IsD; infer_instance
instance (d n : Nat) (g : List Int) : Decidable (IsP d n g) := by unfold IsP; infer_instance
/-- The code of portraits. -/
def pcode (d n : Int) (L : List (List Int)) : Int := if IsD d n then (if ∀ g ∈ L, IsP d.toNat n.toNat g then 0 else 1) else 2
theorem IsD.nat {d n : Int} (h : IsD d n) : ∃ (a b : Nat), d = a ∧ n = b ∧ (a = 2 ∨ a = 3) ∧ 1 ≤ b ∧ b ≤ 4 := by
  obtain ⟨⟨h1, h2⟩, h3, h4⟩ := h
  exact ⟨d.toNat, n.toNat, by omega, by omega, by omega, by omega, by omega⟩
theorem start_le {d n : Nat} (hd : d = 2 ∨ d = 3) (hn : n ≤ 4) : start d n ≤ 40 ∧ pw d n ≤ 81 := by
  have : n = 0 ∨ n = 1 ∨ n = 2 ∨ n = 3 ∨ n = 4 := by omega
  rcases hd with rfl | rfl <;> rcases this with rfl | rfl | rfl | rfl | rfl <;> decide
theorem start_mono (d : Nat) (k : Nat) : ∀ j, start d k ≤ start d (k + j)
  | 0 => Nat.le_refl _
  | j + 1 => Nat.le_trans (start_mono d k j) (Nat.le_add_right _ _)
theorem pw5 {d n : Nat} (hd : d = 2 ∨ d = 3) (hn : n ≤ 5) : pw d n ≤ 243 := by
  have : n = 0 ∨ n = 1 ∨ n = 2 ∨ n = 3 ∨ n = 4 ∨ n = 5 := by omega
  rcases hd with rfl | rfl <;> rcases this with rfl | rfl | rfl | rfl | rfl | rfl <;> decide
/-- The words of a level in part. -/
def byP (d : Nat) (F : List Nat → Int) (k j : Nat) : List Int := byL d F k ++ (List.range j).map fun i => F (wrd d k i)
theorem byP_zero (d : Nat) (F : List Nat → Int) (k : Nat) : byP d F k 0 = byL d F k := by simp [byP]
theorem byP_full (d : Nat) (F : List Nat → Int) (k : Nat) : byP d F k (pw d k) = byL d F (k + 1) := rfl
theorem byP_snoc (d : Nat) (F : List Nat → Int) (k j : Nat) : byP d F k (j + 1) = byP d F k j ++ [F (wrd d k j)] := by simp [byP, List.range_succ]
theorem byP_length (d : Nat) (F : List Nat → Int) (k j : Nat) : (byP d F k j).length = start d k + j := by simp [byP, byL_length]
/-- What stands in a list at a word. -/
def gAt (d : Nat) (g : List Int) (u : List Nat) : Int := g.getD (start d u.length + num d u) 0
end Go.Proofs.Ytbmkkaecfogmoaa

/- slices.IndexFunc and ContainsFunc for any function that answers of its element alone. -/
namespace Go.Proofs.Ytbmkkaecfogmoaa
open Go.RowKit
set_option linter.unusedVariables false
set_option linter.unusedSimpArgs false

/-- The first place, from i on, of which p is told; or -1. -/
def idxP {α : Type} (p : α → Bool) : List α → Int → Int
  | [], _ => -1
  | x :: t, i => if p x then i else idxP p t (i + 1)
theorem idxP_drop_t {α : Type} {p : α → Bool} {l : List α} {k : Nat} {x : α} (hx : l[k]? = some x) (hp : p x = true) (i : Int) : idxP p (l.drop k) i = i := by
  have hk := (List.getElem?_eq_some_iff.1 hx).1
  rw [List.drop_eq_getElem_cons hk, (List.getElem?_eq_some_iff.1 hx).2]
  unfold idxP; rw [if_pos hp]
theorem idxP_drop_f {α : Type} {p : α → Bool} {l : List α} {k : Nat} {x : α} (hx : l[k]? = some x) (hp : p x = false) (i : Int) : idxP p (l.drop k) i = idxP p (l.drop (k + 1)) (i + 1) := by
  have hk := (List.getElem?_eq_some_iff.1 hx).1
  rw [List.drop_eq_getElem_cons hk, (List.getElem?_eq_some_iff.1 hx).2]
  conv => lhs; unfold idxP
  rw [hp]; rfl
theorem idxP_any {α : Type} (p : α → Bool) : ∀ (l : List α) (i : Int), 0 ≤ i → (0 ≤ idxP p l i ↔ l.any p = true)
  | [], _, _ => by simp [idxP]
  | x :: t, i, hi => by
    unfold idxP
    by_cases h : p x = true
    · rw [if_pos h]; simp [h, hi]
    · have hf : p x = false := by simpa using h
      rw [if_neg h, idxP_any p t (i + 1) (by omega)]
      simp [hf]
theorem idxP_lt {α : Type} (p : α → Bool) : ∀ (l : List α) (i : Int), -1 ≤ i → -1 ≤ idxP p l i ∧ idxP p l i < i + l.length ∨ idxP p l i = -1
  | [], i, _ => .inr rfl
  | x :: t, i, hi => by
    unfold idxP
    by_cases h : p x = true
    · rw [if_pos h]; left; simp; omega
    · rw [if_neg h]
      rcases idxP_lt p t (i + 1) (by omega) with ⟨h1, h2⟩ | h1
      · left; simp; omega
      · exact .inr h1

end Go.Proofs.Ytbmkkaecfogmoaa

/- Lists of texts. -/
namespace Go.Proofs.Ytbmkkaecfogmoaa
open Go.RowKit
set_option linter.unusedVariables false
set_option linter.unusedSimpArgs false
def strs (L : List ByteArray) : List Value := L.map Value.string
theorem strs_length (L : List ByteArray) : (strs L).length = L.length := by simp [strs]
theorem strs_snoc (L : List ByteArray) (s : ByteArray) : strs (L ++ [s]) = strs L ++ [.string s] := by simp [strs]
end Go.Proofs.Ytbmkkaecfogmoaa

/- Parts of a text between bytes: the reference's l01Split. -/
namespace Go.Proofs.Ytbmkkaecfogmoaa
open Go.RowKit
set_option linter.unusedVariables false
set_option linter.unusedSimpArgs false
-- @LONG

/-- A byte of a text. -/
def bt (s : ByteArray) (i : Nat) : Nat := if h : i < s.size then (s[i]'h).toNat else 0
theorem bt_eq {s : ByteArray} {i : Nat} (h : i < s.size) : (s[i]'h).toNat = bt s i := by unfold bt; rw [dif_pos h]
theorem bt_lt (s : ByteArray) (i : Nat) : bt s i < 256 := by
  unfold bt; split
  · exact UInt8.toNat_lt _
  · omega
section
variable {ops : Array Oper} {C : World → Prop} {Q : Act → Prop} {a : Act} {o : Oper} {rest : List Oper}
/-- A byte of a text, in a region that only reads. -/
theorem quiet_idx (hw : Region.wanted o (yielded ops a.tmps) = true) (t : TypeId) (x y : Operand) (ho : o.op = .index t x y) (ht : Try.prog.underlying t = some .string) (s : ByteArray) (k : Nat) (i : Int) (hx : a.eval x = .string s) (hy : a.eval y = .int .i64 i) (hi : i = (k : Nat)) (hk : k < s.size)
    (h : wpQuiet Try.prog ops C Q rest (a.put o.dst (.int .u8 (bt s k : Nat)))) : wpQuiet Try.prog ops C Q (o :: rest) a := by
  subst hi
  exact BigFrame.wpQuiet_want hw fun K hK => ⟨.int .u8 (bt s k : Nat), fun w _ => by
    have e : (execOp a.eval o).run Try.prog w = .ok (.value (.int .u8 (bt s k : Nat))) w := by
      unfold execOp
      simp only [ho, hx, hy]
      have e2 : (Instr.index t (.string s) (.int .i64 (k : Nat))).run Try.prog w = .ok (.int .u8 (bt s k : Nat)) w := by
        rw [run_index_string w t s .i64 k ht, dif_pos ⟨by omega, by omega⟩]
        have e3 := bt_eq hk
        simp only [Int.toNat_natCast, e3]
      simp [go_sem, e2]
    unfold Oper.quietAt
    rw [e]
    exact ⟨rfl, rfl⟩, hK _ h⟩
end
/-- The parts that are done, and where the next one begins, behind i bytes. -/
def splP (s : ByteArray) (c : Nat) : Nat → List ByteArray × Nat
  | 0 => ([], 0)
  | i + 1 => if bt s i = c then ((splP s c i).1 ++ [s.extract (splP s c i).2 i], i + 1) else splP s c i
/-- The parts of a text between the bytes c. -/
def splL (s : ByteArray) (c : Nat) : List ByteArray := (splP s c s.size).1 ++ [s.extract (splP s c s.size).2 s.size]
theorem splP_at (s : ByteArray) (c : Nat) : ∀ i, (splP s c i).2 ≤ i
  | 0 => Nat.le_refl _
  | i + 1 => by
    have := splP_at s c i
    unfold splP; split
    · exact Nat.le_refl _
    · omega
theorem splP_len (s : ByteArray) (c : Nat) : ∀ i, (splP s c i).1.length ≤ i
  | 0 => Nat.le_refl _
  | i + 1 => by
    have := splP_len s c i
    unfold splP; split
    · simp; omega
    · omega
theorem splL_len (s : ByteArray) (c : Nat) : (splL s c).length ≤ s.size + 1 ∧ 1 ≤ (splL s c).length := by
  have := splP_len s c s.size
  unfold splL; simp; omega
theorem splP_sz (s : ByteArray) (c : Nat) : ∀ i, i ≤ s.size → ∀ p ∈ (splP s c i).1, p.size ≤ s.size
  | 0, _, p, hp => by cases hp
  | i + 1, h, p, hp => by
    rw [splP] at hp
    split at hp
    · rcases List.mem_append.1 hp with hp | hp
      · exact splP_sz s c i (by omega) p hp
      · rw [List.mem_singleton.1 hp, ByteArray.size_extract]; omega
    · exact splP_sz s c i (by omega) p hp
theorem splL_sz (s : ByteArray) (c : Nat) : ∀ p ∈ splL s c, p.size ≤ s.size := fun p hp => by
  unfold splL at hp
  rcases List.mem_append.1 hp with hp | hp
  · exact splP_sz s c _ (Nat.le_refl _) p hp
  · rw [List.mem_singleton.1 hp, ByteArray.size_extract]; omega
set_option maxHeartbeats 2000000 in
set_option maxRecDepth 100000 in
theorem l01Split_any (w : World) (s : ByteArray) (hs : s.size ≤ 100000) (c : Nat) :
    Calls Try.prog 235 #[.string s, .int .u8 c] w fun e w' => ∃ v, e = .returned v ∧ Own w' w.heap.size 9 v (strs (splL s c)) ∧ Below w.heap.size w w' := by
  have hS0 := hid ((St.start w).newOwn [] 9 (by simp))
  have hb := hid (fun k (hk : k < s.size) => bt_eq hk)
  have hat := hid (splP_at s c)
  have hln := hid (splP_len s c)
  have hst := hid (fun k => (show splP s c (k + 1) = if bt s k = c then ((splP s c k).1 ++ [s.extract (splP s c k).2 k], k + 1) else splP s c k from rfl))
  have hen := hid (show splL s c = (splP s c s.size).1 ++ [s.extract (splP s c s.size).2 s.size] from rfl)
  rw [hen.out]
  obtain ⟨P, hP⟩ : ∃ P, P = splP s c := ⟨_, rfl⟩
  have h0 := hid (show P 0 = ([], 0) by rw [hP]; rfl)
  rw [← hP] at hat hln hst ⊢
  clear hP hen
  go_enter Try.func235, Try.ntmps235
  go_wp2
  go_loopw [5, 6, 7] (fun o a i wr => ∃ k : Nat, k ≤ s.size ∧ i = .int .i64 k ∧ a = .int .i64 ((P k).2 : Nat) ∧ St w.heap.size w [Asn.own w.heap.size 9 o (strs (P k).1)] wr) (fun _ _ i _ => s.size - (intOf i).toNat)
  case atStart => exact ⟨0, Nat.zero_le _, rfl, by rw [h0.out]; rfl, by rw [h0.out]; exact hS0.out⟩
  case round =>
    obtain ⟨k, hk, rfl, rfl, rS⟩ := hrel
    clear hS0
    replace rS := hid rS
    by_cases hlt : k < s.size
    · have hbk := hb.out k hlt
      have hak := hat.out k
      have hlk := hln.out k
      have hsk := hst.out k
      have dk : decide ((k : Int) < (s.size : Int)) = true := decide_eq_true (by omega)
      have hpl := hid (strs_length (P k).1)
      generalize bt s k = b at *
      by_cases e : b = c
      · subst e
        rw [if_pos rfl] at hsk
        replace hsk := hid hsk
        generalize hat' : (P k).2 = at0 at *
        go_wp2_with (first
          | ((with_reducible refine gate (N := 26) rfl ?_); refine St.app 211 9 (.string { data := #[] }) 16 Try.underlying211 info_str rfl (by omega) rfl _ _ rfl _ _ rfl rS.out _ rfl rfl (P k).1.length hpl.out (by omega) ?_; intro gn cap w2 hO2; replace rS := hid hO2; clear hO2))
        go_roundw
        case rel => exact ⟨k + 1, by omega, by go_num, by rw [hsk.out]; go_num, by rw [hsk.out, strs_snoc]; exact rS.out⟩
        case measure => simp [intOf]; omega
      · rw [if_neg e] at hsk
        replace hsk := hid hsk
        have db : ((b : Int) == (c : Int)) = false := by simp; omega
        go_wp2
        go_roundw
        case rel => exact ⟨k + 1, by omega, by go_num, by rw [hsk.out], by rw [hsk.out]; exact rS.out⟩
        case measure => simp [intOf]; omega
    · obtain rfl : k = s.size := by omega
      have hak := hat.out s.size
      have hlk := hln.out s.size
      have hpl := hid (strs_length (P s.size).1)
      generalize hat' : (P s.size).2 = at0 at *
      go_wp2_with (first
        | ((with_reducible refine gate (N := 34) rfl ?_); refine St.app 211 9 (.string { data := #[] }) 16 Try.underlying211 info_str rfl (by omega) rfl _ _ rfl _ _ rfl rS.out _ rfl rfl (P s.size).1.length hpl.out (by omega) ?_; intro gn cap w2 hO2; replace rS := hid hO2; clear hO2))
      go_ret
      exact ⟨_, rfl, by rw [strs_snoc, hat']; exact rS.out.o0, rS.out.bel⟩
end Go.Proofs.Ytbmkkaecfogmoaa
