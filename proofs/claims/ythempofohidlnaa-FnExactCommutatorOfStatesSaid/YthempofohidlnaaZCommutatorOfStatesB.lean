/- What the proof of CommutatorOfStates leans on, part 2 of 10. -/
import Derived.Test.YthempofohidlnaaZCommutatorOfStatesA
import Derived.RegionTactic
import Derived.BigRegion
import Derived.StillTailTactics
import Derived.Deep.CutBlock
import Derived.Deep.RegionHeld3
import Derived.Deep.DeepCutAuto
import Derived.DeepKeys
import Derived.Laws.StructEq
import Derived.Laws.BytesArg
import Derived.OwnWalk
import Derived.Deep.AppendLies
import Derived.Laws.OwnMore
/- The inverse machine: what the program's inverse and the reference's l01Inverse both come to. -/
namespace Go.Proofs.Ythempofohidlnaa
open Go.RowKit
set_option linter.unusedVariables false
set_option linter.unusedSimpArgs false

theorem heap_alloc_size (w : World) (o : Obj) : (w.alloc o).heap.size = w.heap.size + 1 := by simp

/-- One entry of the inverse. -/
def stepI (m : Mach) (q x : Nat) (o : Mach) : Mach :=
  { o with nx := upd o.nx (q * 3 + m.ot (q * 3 + x)) (m.nx (q * 3 + x)), ot := upd o.ot (q * 3 + m.ot (q * 3 + x)) x }
def rowI (m : Mach) (q : Nat) : Nat → Mach → Mach
  | 0, o => o
  | x + 1, o => stepI m q x (rowI m q x o)
def allI (m : Mach) (l : Nat) : Nat → Mach
  | 0 => ⟨m.L, m.S, fun _ => 0, fun _ => 0⟩
  | q + 1 => rowI m q l (allI m l q)
/-- The inverse machine of a machine with l letters and s states. -/
def inv (m : Mach) (l s : Nat) : Mach := allI m l s

theorem rowI_LS (m : Mach) (q : Nat) (o : Mach) : ∀ x, (rowI m q x o).L = o.L ∧ (rowI m q x o).S = o.S
  | 0 => ⟨rfl, rfl⟩
  | x + 1 => rowI_LS m q o x
theorem allI_LS (m : Mach) (l : Nat) : ∀ q, (allI m l q).L = m.L ∧ (allI m l q).S = m.S
  | 0 => ⟨rfl, rfl⟩
  | q + 1 => by
    have h := rowI_LS m q (allI m l q) l
    have k := allI_LS m l q
    exact ⟨h.1.trans k.1, h.2.trans k.2⟩

theorem rowI_out (m : Mach) (q : Nat) (o : Mach) (i : Nat) : ∀ x, (∀ y, y < x → i ≠ q * 3 + m.ot (q * 3 + y)) → (rowI m q x o).nx i = o.nx i ∧ (rowI m q x o).ot i = o.ot i
  | 0, _ => ⟨rfl, rfl⟩
  | x + 1, h => by
    obtain ⟨h1, h2⟩ := rowI_out m q o i x (fun y hy => h y (by omega))
    have hx := h x (by omega)
    unfold rowI stepI upd
    dsimp only
    rw [if_neg hx, if_neg hx]
    exact ⟨h1, h2⟩

theorem rowI_in (m : Mach) (q : Nat) (o : Mach) : ∀ x, (∀ y z, y < z → z < x → m.ot (q * 3 + y) ≠ m.ot (q * 3 + z)) → ∀ y, y < x →
    (rowI m q x o).nx (q * 3 + m.ot (q * 3 + y)) = m.nx (q * 3 + y) ∧ (rowI m q x o).ot (q * 3 + m.ot (q * 3 + y)) = y
  | 0, _, y, hy => absurd hy (by omega)
  | x + 1, h, y, hy => by
    unfold rowI stepI upd
    dsimp only
    by_cases e : y = x
    · subst e; rw [if_pos rfl, if_pos rfl]; exact ⟨rfl, rfl⟩
    · have hne := h y x (by omega) (by omega)
      rw [if_neg (by omega), if_neg (by omega)]
      exact rowI_in m q o x (fun a b hab hb => h a b hab (by omega)) y (by omega)

theorem allI_out (m : Mach) (l : Nat) (i : Nat) : ∀ s, (∀ q y, q < s → y < l → i ≠ q * 3 + m.ot (q * 3 + y)) → (allI m l s).nx i = 0 ∧ (allI m l s).ot i = 0
  | 0, _ => ⟨rfl, rfl⟩
  | s + 1, h => by
    have h1 := rowI_out m s (allI m l s) i l (fun y hy => h s y (by omega) hy)
    have h2 := allI_out m l i s (fun q y hq hy => h q y (by omega) hy)
    exact ⟨h1.1.trans h2.1, h1.2.trans h2.2⟩

theorem allI_in (m : Mach) (l : Nat) (hl : l ≤ 3) : ∀ s, (∀ q x, q < s → x < l → m.ot (q * 3 + x) < l) → (∀ q, q < s → ∀ y x, y < x → x < l → m.ot (q * 3 + y) ≠ m.ot (q * 3 + x)) →
    ∀ q y, q < s → y < l → (allI m l s).nx (q * 3 + m.ot (q * 3 + y)) = m.nx (q * 3 + y) ∧ (allI m l s).ot (q * 3 + m.ot (q * 3 + y)) = y
  | 0, _, _, q, y, hq, _ => absurd hq (by omega)
  | s + 1, hb, hi, q, y, hq, hy => by
    by_cases e : q = s
    · subst e
      exact rowI_in m q (allI m l q) l (fun a b hab hb => hi q (by omega) a b hab hb) y hy
    · have h1 := rowI_out m s (allI m l s) (q * 3 + m.ot (q * 3 + y)) l (fun z hz => by
        have := hb q y (by omega) hy
        have := hb s z (by omega) hz
        omega)
      have h2 := allI_in m l hl s (fun q x hq hx => hb q x (by omega) hx) (fun q hq => hi q (by omega)) q y (by omega) hy
      exact ⟨h1.1.trans h2.1, h1.2.trans h2.2⟩

/-- The inverse of a machine is a machine. -/
theorem inv_good {m : Mach} {l s : Nat} (g : Good m l s) : Good (inv m l s) l s := by
  have hin := allI_in m l g.l3 s g.ot g.inj
  have hsurj : ∀ q, q < s → ∀ k, k < l → ∃ y, y < l ∧ m.ot (q * 3 + y) = k := fun q hq => surj_of_inj (f := fun y => m.ot (q * 3 + y)) (fun y hy => g.ot q y hq hy) (fun y x hy hx => g.inj q hq y x hy hx)
  refine ⟨(allI_LS m l s).1.trans g.L, (allI_LS m l s).2.trans g.S, g.l2, g.l3, g.s1, g.s16, fun q x hq hx => ?_, fun q x hq hx => ?_, fun q hq y x hy hx e => ?_, fun q x hq hx hn => ?_⟩
  · obtain ⟨y, hy, rfl⟩ := hsurj q hq x hx
    show (allI m l s).nx _ < s
    rw [(hin q y hq hy).1]; exact g.nx q y hq hy
  · obtain ⟨y, hy, rfl⟩ := hsurj q hq x hx
    show (allI m l s).ot _ < l
    rw [(hin q y hq hy).2]; exact hy
  · obtain ⟨a, ha, ea⟩ := hsurj q hq x hx
    obtain ⟨b, hb, eb⟩ := hsurj q hq y (by omega)
    have h1 : (allI m l s).ot (q * 3 + x) = a := by rw [← ea]; exact (hin q a hq ha).2
    have h2 : (allI m l s).ot (q * 3 + y) = b := by rw [← eb]; exact (hin q b hq hb).2
    have e' : (allI m l s).ot (q * 3 + y) = (allI m l s).ot (q * 3 + x) := e
    rw [h1, h2] at e'
    rw [e', ea] at eb
    omega
  · have := allI_out m l (q * 3 + x) s (fun p y hp hy => by
      have h1 := g.ot p y hp hy
      have h3 := g.l3
      intro e
      have hpq : p = q := by omega
      subst hpq
      exact hn ⟨hp, by omega⟩)
    exact this

theorem inv_ok {m : Mach} {l s : Nat} (g : Good m l s) : (inv m l s).Ok := fun i => by
  have h := inv_good g
  have hin := allI_in m l g.l3 s g.ot g.inj
  by_cases hex : ∃ q y, q < s ∧ y < l ∧ i = q * 3 + m.ot (q * 3 + y)
  · obtain ⟨q, y, hq, hy, rfl⟩ := hex
    have h1 : (inv m l s).nx (q * 3 + m.ot (q * 3 + y)) = m.nx (q * 3 + y) := (hin q y hq hy).1
    have h2 : (inv m l s).ot (q * 3 + m.ot (q * 3 + y)) = y := (hin q y hq hy).2
    have := g.nx q y hq hy
    have := g.s16
    have := g.l3
    rw [h1, h2]; exact ⟨by omega, by omega⟩
  · have := allI_out m l i s (fun q y hq hy e => hex ⟨q, y, hq, hy, e⟩)
    have h1 : (inv m l s).nx i = 0 := this.1
    have h2 : (inv m l s).ot i = 0 := this.2
    rw [h1, h2]; exact ⟨by omega, by omega⟩

theorem storeCells_mach {w : World} {b t : Nat} {f : Nat → Value} (hrow : w.rowIs b t 98 f) (m : Mach) :
    ∃ W1, (storeCells ⟨b, 0, none⟩ (mcells m).toList).run Try.prog w = .ok () W1 ∧ MB W1 t b m ∧ (∀ k, k ≠ b → W1.heap[k]? = w.heap[k]?) ∧ W1.heap.size = w.heap.size ∧ (∀ (B : Nat) (a : World), B ≤ b → Below B a w → Below B a W1) := by
  have ht := rowIs_there hrow 0 98 (by omega)
  have hl : (mcells m).toList.length = 98 := by simp [size_mcells]
  have := run_storeCells_cells (P := Try.prog) b 0 (mcells m).toList 0 w (fun j hj => by simpa using (ht j (by omega)).1) (fun j hj => by simpa using (ht j (by omega)).2)
    (fun v hv => (Array.all_eq_true_iff_forall_mem.1 (one_mach m)) v (by simpa using hv))
  exact ⟨_, this, World.rowIs.congr (rowIs_setCells _ _ _ _ hrow) fun i hi => put_all _ _ _ _ hi, fun k hk => block_setCells hk _ _ _, heap_setCells _ _ _, fun B a hB hb => below_setCells hB _ _ hb⟩

set_option maxHeartbeats 2000000 in
set_option maxRecDepth 100000 in
theorem l01Inverse_any (w : World) (m : Mach) (l s : Nat) (g : Good m l s) (hk : m.Ok) :
    Calls Try.prog 72 #[.agg (mcells m)] w fun e w' => e = .returned (.agg (mcells (inv m l s))) ∧ Below w.heap.size w w' := by
  have cL := mcells_L m
  have cS := mcells_S m
  have hz := zero_mach
  have l2 := g.l2; have l3 := g.l3; have s1 := g.s1; have s16 := g.s16
  have gL := hid g.L
  have gS := hid g.S
  have h1 := hid (MB.new w m 34)
  have h0 := hid (fun w' : World => MB.new w' ⟨0, 0, fun _ => 0, fun _ => 0⟩ 34)
  have hB := hid (below_alloc (below_alloc (below_alloc (Below.refl w.heap.size w) (Nat.le_refl _) (.cells (mcells m) 34)) (Nat.le_refl _) (.cells (mcells ⟨0, 0, fun _ => 0, fun _ => 0⟩) 34)) (Nat.le_refl _) (.cells (mcells ⟨0, 0, fun _ => 0, fun _ => 0⟩) 34))
  replace g := hid g
  replace hk := hid hk
  generalize mcells ⟨0, 0, fun _ => 0, fun _ => 0⟩ = zs at *
  go_enter Try.func72, Try.ntmps72
  go_wp2_with (first
    | ((with_reducible refine gate (N := 11) rfl ?_); refine build_mach rfl _ _ rfl m.L m.S rfl rfl ?_)
    | ((with_reducible refine gateOp (op := .store 34 (.tmp 3) (.tmp 11)) rfl ?_); have q3 := hid (h0.out ((w.alloc (.cells (mcells m) 34)).alloc (.cells zs 34))); have q2 := hid ((h0.out (w.alloc (.cells (mcells m) 34))).alloc (.cells zs 34)); have q1 := hid ((h1.out.alloc (.cells zs 34)).alloc (.cells zs 34)); clear h0 h1 hz; rw [heap_alloc_size, heap_alloc_size] at q3; rw [heap_alloc_size] at q2; generalize ((w.alloc (.cells (mcells m) 34)).alloc (.cells zs 34)).alloc (.cells zs 34) = W0 at *; refine store_mach rfl _ _ rfl (w.heap.size + 1 + 1) rfl ⟨m.L, m.S, fun _ => 0, fun _ => 0⟩ rfl 34 _ q3.out ?_; intro W1 p3 ho hsz hbl; have p1 := hid (World.rowIs.of_block q1.out (ho _ (by omega))); have p2 := hid (World.rowIs.of_block q2.out (ho _ (by omega))); have pB := hid (hbl _ _ (by omega) hB.out); replace p3 := hid p3; clear ho hsz hbl q1 q2 q3 hB))
  clear cL cS
  go_loopw [4] (fun i wr => ∃ q : Nat, q ≤ s ∧ i = .int .i64 q ∧ MB wr 34 w.heap.size m ∧ MB wr 34 (w.heap.size + 1) ⟨0, 0, fun _ => 0, fun _ => 0⟩ ∧ MB wr 34 (w.heap.size + 1 + 1) (allI m l q) ∧ Below w.heap.size w wr) (fun i _ => s - (intOf i).toNat)
  case atStart => exact ⟨0, by omega, rfl, p1.out, p2.out, p3.out, pB.out⟩
  case round =>
    obtain ⟨q, hq, rfl, r1, r2, r3, rB⟩ := hrel
    clear p1 p2 p3 pB
    have cL := r1.cL
    have cS := r1.cS
    rw [gL.out] at cL
    rw [gS.out] at cS
    replace r1 := hid r1; replace r2 := hid r2; replace r3 := hid r3; replace rB := hid rB
    by_cases hlq : q < s
    · have dq : decide ((q : Int) < (s : Int)) = true := decide_eq_true (by omega)
      obtain ⟨wo, rfl⟩ : ∃ wo : World, wo = wr := ⟨_, rfl⟩
      go_wp2
      clear cL cS
      go_loopw [5] (fun i wr => ∃ x : Nat, x ≤ l ∧ i = .int .i64 x ∧ MB wr 34 w.heap.size m ∧ MB wr 34 (w.heap.size + 1) ⟨0, 0, fun _ => 0, fun _ => 0⟩ ∧ MB wr 34 (w.heap.size + 1 + 1) (rowI m q x (allI m l q)) ∧ Below w.heap.size w wr) (fun i _ => l - (intOf i).toNat)
      case atStart => exact ⟨0, by omega, rfl, r1.out, r2.out, r3.out, rB.out⟩
      case round =>
        obtain ⟨x, hx, rfl, t1, t2, t3, tB⟩ := hrel
        have cL := t1.cL
        have cS := t1.cS
        rw [gL.out] at cL
        rw [gS.out] at cS
        replace t1 := hid t1; replace t2 := hid t2; replace t3 := hid t3; replace tB := hid tB
        by_cases hlx : x < l
        · have dx : decide ((x : Int) < (l : Int)) = true := decide_eq_true (by omega)
          have h2 := t1.out.cot q x (by omega) (by omega)
          have hn := g.out.nx q x hlq hlx
          have ho := g.out.ot q x hlq hlx
          have hstep := hid (show rowI m q (x + 1) (allI m l q) = stepI m q x (rowI m q x (allI m l q)) from rfl)
          have hst2 := hid (show stepI m q x (rowI m q x (allI m l q)) = { rowI m q x (allI m l q) with nx := upd (rowI m q x (allI m l q)).nx (q * 3 + m.ot (q * 3 + x)) (m.nx (q * 3 + x)), ot := upd (rowI m q x (allI m l q)).ot (q * 3 + m.ot (q * 3 + x)) x } from rfl)
          have h1c := hid (fun W (hW : MB W 34 w.heap.size m) => hW.cnx q x (by omega) (by omega))
          generalize hnx : m.nx (q * 3 + x) = nx at *
          generalize hot : m.ot (q * 3 + x) = ot at *
          replace hnx := hid hnx; replace hot := hid hot
          obtain ⟨vo, co⟩ : ∃ u, wr.cell? ⟨w.heap.size + 1 + 1, 50 + q * 3 + ot, none⟩ = some u := ⟨_, t3.out.cot q ot (by omega) (by omega)⟩
          have fo : wr.frozen? ⟨w.heap.size + 1 + 1, 50 + q * 3 + ot, none⟩ = false := World.rowIs.frozen t3.out _
          have xm : ((x : Int) % 256) = x := by omega
          go_upto_region 10 with (fail)
          have y1 := hid (t1.out.setOther (a := ⟨w.heap.size + 1 + 1, 50 + q * 3 + ot, none⟩) (by simp; omega) (.int .u8 (x : Nat)))
          have y2 := hid (t2.out.setOther (a := ⟨w.heap.size + 1 + 1, 50 + q * 3 + ot, none⟩) (by simp) (.int .u8 (x : Nat)))
          have y3 := hid (t3.out.setOt q ot x (by omega) (by omega))
          have yB := hid (tB.out.setCell (p := ⟨w.heap.size + 1 + 1, 50 + q * 3 + ot, none⟩) (by simp; omega) (.int .u8 (x : Nat)))
          clear t1 t2 t3 tB cL cS h2 co fo
          generalize wr.setCell ⟨w.heap.size + 1 + 1, 50 + q * 3 + ot, none⟩ (.int .u8 (x : Nat)) = W2 at *
          have h1 := h1c.out W2 y1.out
          obtain ⟨vo, co⟩ : ∃ u, W2.cell? ⟨w.heap.size + 1 + 1, 2 + q * 3 + ot, none⟩ = some u := ⟨_, y3.out.cnx q ot (by omega) (by omega)⟩
          have fo : W2.frozen? ⟨w.heap.size + 1 + 1, 2 + q * 3 + ot, none⟩ = false := World.rowIs.frozen y3.out _
          go_region
          go_wp2
          go_roundw
          case rel =>
            refine ⟨x + 1, by omega, by go_num, (y1.out.setOther (by simp; omega) _).drew, (y2.out.setOther (by simp) _).drew, ?_, (yB.out.setCell (by simp; omega) _).drew⟩
            have := (y3.out.setNx q ot nx (by omega) (by omega)).drew
            rw [hstep.out, hst2.out]
            exact this
          case measure => simp [intOf]; omega
        · obtain rfl : x = l := by omega
          go_wp2
          go_roundw
          case rel => exact ⟨q + 1, by omega, by go_num, t1.out, t2.out, t3.out, tB.out⟩
          case measure => simp [intOf]; omega
    · obtain rfl : q = s := by omega
      go_wp2_with (first
        | ((with_reducible refine gate (N := 48) rfl ?_); refine load_mach rfl _ rfl (w.heap.size + 1 + 1) rfl _ r3.out ?_)
        | ((with_reducible refine gateOp (op := .store 34 (.tmp 2) (.tmp 48)) rfl ?_); refine store_mach rfl _ _ rfl (w.heap.size + 1) rfl _ rfl 34 _ r2.out ?_; intro W3 p2 ho hsz hbl; have pB := hid (hbl _ _ (by omega) rB.out); replace p2 := hid p2; clear ho hsz hbl))
      exact ret_mach rfl rfl p2.out rfl ⟨rfl, pB.out⟩

set_option maxHeartbeats 2000000 in
set_option maxRecDepth 100000 in
theorem inverse_any (b : Nat) (w : World) (m : Mach) (hm : MB w 34 b m) (l s : Nat) (g : Good m l s) (hk : m.Ok) :
    Calls Try.prog 73 #[.pointer (some ⟨b, 0, none⟩)] w fun e w' => e = .returned (.agg (mcells (inv m l s))) ∧ Below w.heap.size w w' := by
  have hz := zero_mach
  have l2 := g.l2; have l3 := g.l3; have s1 := g.s1; have s16 := g.s16
  have gL := hid g.L
  have gS := hid g.S
  have h0 := hid (fun w' : World => MB.new w' ⟨0, 0, fun _ => 0, fun _ => 0⟩ 34)
  have hblt := hm.lt
  replace hm := hid hm
  replace g := hid g
  replace hk := hid hk
  have hset := set_LS ⟨(l : Int), (s : Int), m.nx, m.ot⟩
  have hzsz := size_mcells ⟨0, 0, fun _ => 0, fun _ => 0⟩
  generalize hls : mcells ⟨(l : Int), (s : Int), fun _ => 0, fun _ => 0⟩ = ls at *
  replace hls := hid hls
  generalize mcells ⟨0, 0, fun _ => 0, fun _ => 0⟩ = zs at *
  have hzne : ¬ zs = #[] := fun e => by rw [e] at hzsz; simp at hzsz
  go_enter Try.func73, Try.ntmps73
  go_upto_region 1 with (fail)
  have p2 := hid (h0.out w)
  have q1 := hid (hm.out.alloc (.cells zs 34))
  have hB := hid (below_alloc (Below.refl w.heap.size w) (Nat.le_refl _) (.cells zs 34))
  have p3 := hid (h0.out (w.alloc (.cells zs 34)))
  have p2b := hid (p2.out.alloc (.cells zs 34))
  have q1b := hid (q1.out.alloc (.cells zs 34))
  have hBb := hid (below_alloc hB.out (Nat.le_refl _) (.cells zs 34))
  rw [heap_alloc_size] at p3
  have cL := q1.out.cL
  have cS := q1.out.cS
  rw [gL.out] at cL
  rw [gS.out] at cS
  obtain ⟨W1, hrun, r3, ho, hsz, hbl⟩ := storeCells_mach p3.out.drew ⟨(l : Int), (s : Int), fun _ => 0, fun _ => 0⟩
  rw [hls.out] at hrun
  have hlsz : ls.size = 98 := by rw [← hls.out]; exact size_mcells _
  have r2 := hid (show MB W1 34 w.heap.size ⟨0, 0, fun _ => 0, fun _ => 0⟩ from World.rowIs.of_block p2b.out.drew (ho _ (by omega)))
  have r1 := hid (show MB W1 34 b m from World.rowIs.of_block q1b.out.drew (ho _ (by omega)))
  have rB := hid (hbl _ _ (by omega) hBb.out.drew)
  replace r3 := hid (show MB W1 34 (w.heap.size + 1) (allI m l 0) by unfold allI; rw [gL.out, gS.out]; exact r3)
  clear ho hsz hbl p2 p2b q1b hB hBb p3
  go_region_held3 (fun w' => w'.cell? ⟨b, 0, none⟩ = some (.int .i64 (l : Int)) ∧ w'.cell? ⟨b, 1, none⟩ = some (.int .i64 (s : Int)))
    (first
      | go_keep
      | exact ⟨by rw [← gL.out]; exact r1.out.cL, by rw [← gS.out]; exact r1.out.cS⟩)
    (fail)
  clear cL cS hrun
  have cL := r1.out.cL
  have cS := r1.out.cS
  rw [gL.out] at cL
  rw [gS.out] at cS
  go_wp2
  clear cL cS
  go_loopw [20] (fun i wr => ∃ q : Nat, q ≤ s ∧ i = .int .i64 q ∧ MB wr 34 b m ∧ MB wr 34 w.heap.size ⟨0, 0, fun _ => 0, fun _ => 0⟩ ∧ MB wr 34 (w.heap.size + 1) (allI m l q) ∧ Below w.heap.size w wr) (fun i _ => s - (intOf i).toNat)
  case atStart => exact ⟨0, by omega, rfl, r1.out, r2.out, r3.out, rB.out⟩
  case round =>
    obtain ⟨q, hq, rfl, r1, r2, r3, rB⟩ := hrel
    have cL := r1.cL
    have cS := r1.cS
    rw [gL.out] at cL
    rw [gS.out] at cS
    replace r1 := hid r1; replace r2 := hid r2; replace r3 := hid r3; replace rB := hid rB
    by_cases hlq : q < s
    · have dq : decide ((q : Int) < (s : Int)) = true := decide_eq_true (by omega)
      obtain ⟨wo, rfl⟩ : ∃ wo : World, wo = wr := ⟨_, rfl⟩
      go_wp2
      clear cL cS
      go_loopw [27] (fun i wr => ∃ x : Nat, x ≤ l ∧ i = .int .i64 x ∧ MB wr 34 b m ∧ MB wr 34 w.heap.size ⟨0, 0, fun _ => 0, fun _ => 0⟩ ∧ MB wr 34 (w.heap.size + 1) (rowI m q x (allI m l q)) ∧ Below w.heap.size w wr) (fun i _ => l - (intOf i).toNat)
      case atStart => exact ⟨0, by omega, rfl, r1.out, r2.out, r3.out, rB.out⟩
      case round =>
        obtain ⟨x, hx, rfl, t1, t2, t3, tB⟩ := hrel
        replace t1 := hid t1; replace t2 := hid t2; replace t3 := hid t3; replace tB := hid tB
        by_cases hlx : x < l
        · have dx : decide ((x : Int) < (l : Int)) = true := decide_eq_true (by omega)
          have hn := g.out.nx q x hlq hlx
          have ho := g.out.ot q x hlq hlx
          have h1 := t1.out.cnx q x (by omega) (by omega)
          have hstep := hid (show rowI m q (x + 1) (allI m l q) = stepI m q x (rowI m q x (allI m l q)) from rfl)
          have hst2 := hid (show stepI m q x (rowI m q x (allI m l q)) = { rowI m q x (allI m l q) with nx := upd (rowI m q x (allI m l q)).nx (q * 3 + m.ot (q * 3 + x)) (m.nx (q * 3 + x)), ot := upd (rowI m q x (allI m l q)).ot (q * 3 + m.ot (q * 3 + x)) x } from rfl)
          have hcall := hid (fun W (hW : MB W 34 b m) => out_any b W m hW q x (by omega) (by omega) (by omega))
          generalize m.nx (q * 3 + x) = nx at *
          generalize m.ot (q * 3 + x) = ot at *
          obtain ⟨vo, co⟩ : ∃ u, wr.cell? ⟨w.heap.size + 1, 50 + q * 3 + ot, none⟩ = some u := ⟨_, t3.out.cot q ot (by omega) (by omega)⟩
          have fo : wr.frozen? ⟨w.heap.size + 1, 50 + q * 3 + ot, none⟩ = false := World.rowIs.frozen t3.out _
          obtain ⟨vn, cn⟩ : ∃ u, wr.cell? ⟨w.heap.size + 1, 2 + q * 3 + ot, none⟩ = some u := ⟨_, t3.out.cnx q ot (by omega) (by omega)⟩
          have fn : wr.frozen? ⟨w.heap.size + 1, 2 + q * 3 + ot, none⟩ = false := World.rowIs.frozen t3.out _
          have xm : ((x : Int) % 256) = x := by omega
          go_wp2_with (go_at_call 118; refine (hcall.out _ t1.out).mono ?_; rintro e w' ⟨rfl, rfl⟩)
          go_region
          go_wp2
          go_roundw
          case rel =>
            have y3 := ((t3.out.setOt q ot x (by omega) (by omega)).setNx q ot nx (by omega) (by omega)).drew
            have hbl := t1.out.lt
            exact ⟨x + 1, by omega, by go_num, ((t1.out.setOther (by simp; omega) _).setOther (by simp; omega) _).drew, ((t2.out.setOther (by simp) _).setOther (by simp) _).drew, by rw [hstep.out, hst2.out]; exact y3, ((tB.out.setCell (by simp) _).setCell (by simp) _).drew⟩
          case measure => simp [intOf]; omega
        · obtain rfl : x = l := by omega
          go_wp2
          go_roundw
          case rel => exact ⟨q + 1, by omega, by go_num, t1.out, t2.out, t3.out, tB.out⟩
          case measure => simp [intOf]; omega
    · obtain rfl : q = s := by omega
      go_wp2_with (first
        | ((with_reducible refine gate (N := 56) rfl ?_); refine load_mach rfl _ rfl (w.heap.size + 1) rfl _ r3.out ?_)
        | ((with_reducible refine gateOp (op := .store 34 (.tmp 2) (.tmp 56)) rfl ?_); refine store_mach rfl _ _ rfl w.heap.size rfl _ rfl 34 _ r2.out ?_; intro W3 p2 ho hsz hbl; have pB := hid (hbl _ _ (Nat.le_refl _) rB.out); replace p2 := hid p2; clear ho hsz hbl))
      exact ret_mach rfl rfl p2.out rfl ⟨rfl, pB.out⟩
end Go.Proofs.Ythempofohidlnaa

/- Arrays of bytes and machines, compared by ==. -/
namespace Go.Proofs.Ythempofohidlnaa
open Go.RowKit
set_option linter.unusedVariables false
set_option linter.unusedSimpArgs false

theorem guard_b3 : Try.prog.eqGuardType Try.prog.depth 29 = false := by kernel_rfl
theorem guard_mach : Try.prog.eqGuardType Try.prog.depth 34 = false := by kernel_rfl
theorem key_b3 : Try.prog.keyTypeAt 2 29 = true := by kernel_rfl
theorem key_mach : Try.prog.keyTypeAt 5 34 = true := by kernel_rfl
theorem cells_b3 : Try.prog.cellsOf 29 = 3 := by kernel_rfl
theorem cells_u8 : Try.prog.cellsOf 5 = 1 := by kernel_rfl
theorem wf_u8 (a : Nat) (h : a < 256) : (Lit.int .u8 (a : Int)).wf = true := by
  have h0 : IntKind.u8.min = 0 := by decide
  have h1 : IntKind.u8.max = 255 := by decide
  simp [Lit.wf, IntKind.has, h0, h1]; omega
/-- The literals of a row of bytes. -/
theorem lits_u8 (d : Nat) (a : Nat) (h : a < 256) : Try.prog.keyLits (d + 1) 5 [.int .u8 (a : Int)] = some [.int .u8 (a : Int)] := by
  unfold Program.keyLits
  rw [Try.underlying5]
  simp [wf_u8 a h]
theorem lits_b3 (d : Nat) (a b c : Nat) (ha : a < 256) (hb : b < 256) (hc : c < 256) : Try.prog.keyLits (d + 2) 29 [.int .u8 (a : Int), .int .u8 (b : Int), .int .u8 (c : Int)] = some [.int .u8 (a : Int), .int .u8 (b : Int), .int .u8 (c : Int)] := by
  unfold Program.keyLits
  rw [Try.underlying29]
  simp only [cells_b3, List.length_cons, List.length_nil, cells_u8, Nat.mul_one]
  rw [if_pos trivial]
  have e : List.range 3 = [0, 1, 2] := rfl
  rw [e]
  simp [List.mapM_cons, lits_u8, ha, hb, hc]
/-- Two rows of bytes. -/
theorem eq_b3 (w : World) (a b c a' b' c' : Nat) (h : a < 256 ∧ b < 256 ∧ c < 256) (h' : a' < 256 ∧ b' < 256 ∧ c' < 256) (r : Bool) (hr : Tells r (a = a' ∧ b = b' ∧ c = c')) :
    (Op.equalIn 10000 29 (.agg #[.int .u8 (a : Int), .int .u8 (b : Int), .int .u8 (c : Int)]) (.agg #[.int .u8 (a' : Int), .int .u8 (b' : Int), .int .u8 (c' : Int)])).run Try.prog w = .ok r w := by
  have hf : ∀ x y z : Nat, (Value.agg #[.int .u8 (x : Int), .int .u8 (y : Int), .int .u8 (z : Int)]).formed Try.prog 29 = true := fun x y z => by
    simp [Value.formed, Try.underlying29, cells_b3]
  obtain ⟨q, hq, hi⟩ := run_equalIn_deep (P := Try.prog) 9998 2 29 key_b3 w 2 2 _ _ _ _ (hf a b c) (hf a' b' c') (lits_b3 0 a b c h.1 h.2.1 h.2.2) (lits_b3 0 a' b' c' h'.1 h'.2.1 h'.2.2)
  have e : q = r := by
    rw [Bool.eq_iff_iff, hi, hr.out]
    simp
    omega
  rw [← e]
  exact hq
end Go.Proofs.Ythempofohidlnaa

/- Classes of equal states: how both the program and the reference find them. -/
namespace Go.Proofs.Ythempofohidlnaa
set_option linter.unusedVariables false
set_option linter.unusedSimpArgs false

/-- The first number from r on, at most d steps away, of which p is told; else where the steps end. -/
def fnd (p : Nat → Bool) : Nat → Nat → Nat
  | r, 0 => r
  | r, d + 1 => if p r then r else fnd p (r + 1) d
/-- The first number below n of which p is told; else n. -/
def fst (p : Nat → Bool) (n : Nat) : Nat := fnd p 0 n
theorem fnd_spec (p : Nat → Bool) : ∀ d r, r ≤ fnd p r d ∧ fnd p r d ≤ r + d ∧ (∀ j, r ≤ j → j < fnd p r d → p j = false) ∧ (fnd p r d < r + d → p (fnd p r d) = true)
  | 0, r => ⟨Nat.le_refl _, Nat.le_refl _, fun j h1 h2 => absurd h2 (by unfold fnd; omega), fun h => absurd h (by unfold fnd; omega)⟩
  | d + 1, r => by
    unfold fnd
    by_cases h : p r = true
    · rw [if_pos h]
      exact ⟨Nat.le_refl _, by omega, fun j h1 h2 => by omega, fun _ => h⟩
    · rw [if_neg h]
      obtain ⟨h1, h2, h3, h4⟩ := fnd_spec p d (r + 1)
      refine ⟨by omega, by omega, fun j h5 h6 => ?_, fun h5 => h4 (by omega)⟩
      by_cases e : j = r
      · subst e; simpa using h
      · exact h3 j (by omega) h6
theorem fst_le (p : Nat → Bool) (n : Nat) : fst p n ≤ n := by have := (fnd_spec p n 0).2.1; unfold fst; omega
theorem fst_none (p : Nat → Bool) (n j : Nat) (h : j < fst p n) : p j = false := (fnd_spec p n 0).2.2.1 j (Nat.zero_le _) h
theorem fst_some (p : Nat → Bool) (n : Nat) (h : fst p n < n) : p (fst p n) = true := (fnd_spec p n 0).2.2.2 (by unfold fst at h; omega)
theorem fst_eq (p : Nat → Bool) (n r : Nat) (hr : r ≤ n) (hno : ∀ j, j < r → p j = false) (hy : r < n → p r = true) : fst p n = r := by
  have h1 := fst_le p n
  rcases Nat.lt_trichotomy (fst p n) r with h | h | h
  · have h2 := fst_some p n (by omega)
    rw [hno _ h] at h2; cases h2
  · exact h
  · have h2 := fst_none p n r h
    rw [hy (by omega)] at h2; cases h2

/-- A machine with any number of states. -/
structure Tab where
  n : Nat
  L : Nat
  nx : Nat → Nat → Nat
  ot : Nat → Nat → Nat
structure Tab.Ok (T : Tab) : Prop where
  pos : 0 < T.n
  nx : ∀ q x, q < T.n → x < T.L → T.nx q x < T.n

def alls (L : Nat) (p : Nat → Bool) : Bool := (List.range L).all p
theorem alls_iff (L : Nat) (p : Nat → Bool) : alls L p = true ↔ ∀ x, x < L → p x = true := by
  unfold alls; rw [List.all_eq_true]; simp
/-- Not told apart yet, by a division into classes. -/
def like (T : Tab) (c : Nat → Nat) (r q : Nat) : Bool := (c r == c q) && (alls T.L fun x => T.ot r x == T.ot q x) && alls T.L fun x => c (T.nx r x) == c (T.nx q x)
def cls (T : Tab) : Nat → Nat → Nat
  | 0 => fun _ => 0
  | k + 1 => fun q => fst (fun r => like T (cls T k) r q) q
theorem cls_succ (T : Tab) (k q : Nat) : cls T (k + 1) q = fst (fun r => like T (cls T k) r q) q := rfl

theorem like_iff (T : Tab) (c : Nat → Nat) (r q : Nat) : like T c r q = true ↔ c r = c q ∧ (∀ x, x < T.L → T.ot r x = T.ot q x) ∧ ∀ x, x < T.L → c (T.nx r x) = c (T.nx q x) := by
  unfold like
  rw [Bool.and_eq_true, Bool.and_eq_true, alls_iff, alls_iff, beq_iff_eq]
  simp only [beq_iff_eq, and_assoc]
theorem like_refl (T : Tab) (c : Nat → Nat) (q : Nat) : like T c q q = true := (like_iff T c q q).2 ⟨rfl, fun _ _ => rfl, fun _ _ => rfl⟩
theorem like_symm {T : Tab} {c : Nat → Nat} {r q : Nat} (h : like T c r q = true) : like T c q r = true := by
  rw [like_iff] at h ⊢
  exact ⟨h.1.symm, fun x hx => (h.2.1 x hx).symm, fun x hx => (h.2.2 x hx).symm⟩
theorem like_trans {T : Tab} {c : Nat → Nat} {a b d : Nat} (h : like T c a b = true) (k : like T c b d = true) : like T c a d = true := by
  rw [like_iff] at h k ⊢
  exact ⟨h.1.trans k.1, fun x hx => (h.2.1 x hx).trans (k.2.1 x hx), fun x hx => (h.2.2 x hx).trans (k.2.2 x hx)⟩

theorem cls_le (T : Tab) (k q : Nat) : cls T k q ≤ q := by
  cases k with
  | zero => exact Nat.zero_le _
  | succ k => exact fst_le _ _
theorem cls_like (T : Tab) (k q : Nat) : like T (cls T k) (cls T (k + 1) q) q = true := by
  rw [cls_succ]
  by_cases h : fst (fun r => like T (cls T k) r q) q < q
  · exact fst_some _ _ h
  · have e := fst_le (fun r => like T (cls T k) r q) q
    rw [show fst (fun r => like T (cls T k) r q) q = q by omega]
    exact like_refl _ _ _
theorem cls_iff (T : Tab) (k r q : Nat) : cls T (k + 1) r = cls T (k + 1) q ↔ like T (cls T k) r q = true := by
  constructor
  · intro h
    have h1 := cls_like T k r
    rw [h] at h1
    exact like_trans (like_symm h1) (cls_like T k q)
  · intro h
    have main : ∀ a b, like T (cls T k) a b = true → cls T (k + 1) b ≤ cls T (k + 1) a := by
      intro a b hab
      rcases Nat.lt_or_ge (cls T (k + 1) a) (cls T (k + 1) b) with h1 | h1
      · have h2 := fst_none (fun r => like T (cls T k) r b) b _ (by rw [← cls_succ]; exact h1)
        rw [like_trans (cls_like T k a) hab] at h2
        cases h2
      · exact h1
    exact Nat.le_antisymm (main q r (like_symm h)) (main r q h)
theorem cls_cls (T : Tab) (k q : Nat) : cls T (k + 1) (cls T (k + 1) q) = cls T (k + 1) q := (cls_iff T k _ _).2 (cls_like T k q)
/-- One more round tells no two together that were apart. -/
theorem cls_fine {T : Tab} {k r q : Nat} (h : cls T (k + 1) r = cls T (k + 1) q) : cls T k r = cls T k q := ((like_iff _ _ _ _).1 ((cls_iff T k r q).1 h)).1
theorem cls_keep {T : Tab} {k q : Nat} (h : cls T (k + 1) q = q) : cls T (k + 2) q = q := by
  have h1 : cls T (k + 1) (cls T (k + 2) q) = cls T (k + 1) q := cls_fine (T := T) (k := k + 1) (cls_cls T (k + 1) q)
  rw [h] at h1
  have h2 := cls_le T (k + 1) (cls T (k + 2) q)
  have h3 := cls_le T (k + 2) q
  omega

/-- How many are the least of their classes. -/
def cnt1 (T : Tab) (k : Nat) : Nat → Nat
  | 0 => 0
  | n + 1 => cnt1 T k n + if cls T k n = n then 1 else 0
theorem cnt1_le (T : Tab) (k : Nat) : ∀ n, cnt1 T k n ≤ n
  | 0 => Nat.le_refl _
  | n + 1 => by unfold cnt1; have := cnt1_le T k n; split <;> omega
theorem cnt1_mono (T : Tab) (k : Nat) : ∀ n, cnt1 T (k + 1) n ≤ cnt1 T (k + 2) n
  | 0 => Nat.le_refl _
  | n + 1 => by
    unfold cnt1
    have := cnt1_mono T k n
    by_cases h : cls T (k + 1) n = n
    · rw [if_pos h, if_pos (cls_keep h)]; omega
    · rw [if_neg h]; omega
theorem cnt1_lt (T : Tab) (k : Nat) : ∀ n p, p < n → cls T (k + 2) p = p → cls T (k + 1) p ≠ p → cnt1 T (k + 1) n < cnt1 T (k + 2) n
  | n + 1, p, hp, h1, h2 => by
    unfold cnt1
    by_cases e : p = n
    · subst e
      have := cnt1_mono T k p
      rw [if_neg h2, if_pos h1]; omega
    · have := cnt1_lt T k n p (by omega) h1 h2
      by_cases h : cls T (k + 1) n = n
      · rw [if_pos h, if_pos (cls_keep h)]; omega
      · rw [if_neg h]; omega
theorem cnt1_congr (T : Tab) (k j : Nat) : ∀ n, (∀ q, q < n → cls T k q = cls T j q) → cnt1 T k n = cnt1 T j n
  | 0, _ => rfl
  | n + 1, h => by unfold cnt1; rw [cnt1_congr T k j n (fun q hq => h q (by omega)), h n (by omega)]
theorem cnt1_pos (T : Tab) (k : Nat) : ∀ n, 0 < n → 1 ≤ cnt1 T (k + 1) n
  | 1, _ => by
    have h : cls T (k + 1) 0 = 0 := Nat.le_zero.1 (cls_le T _ 0)
    simp [cnt1, h]
  | n + 2, _ => by have := cnt1_pos T k (n + 1) (by omega); unfold cnt1; omega
/-- The rounds tell no more apart: below n. -/
def Stable (T : Tab) (k : Nat) : Prop := ∀ q, q < T.n → cls T (k + 1) q = cls T k q
theorem stable_or (T : Tab) (k : Nat) (h : ¬ Stable T (k + 1)) : cnt1 T (k + 1) T.n < cnt1 T (k + 2) T.n := by
  have : ∃ q, q < T.n ∧ cls T (k + 2) q ≠ cls T (k + 1) q := by
    apply Classical.byContradiction
    intro hn
    exact h fun q hq => Classical.byContradiction fun e => hn ⟨q, hq, e⟩
  obtain ⟨q, hq, hne⟩ := this
  refine cnt1_lt T k T.n (cls T (k + 2) q) (Nat.lt_of_le_of_lt (cls_le _ _ _) hq) (cls_cls T (k + 1) q) fun e => hne ?_
  have h1 := cls_fine (T := T) (k := k + 1) (cls_cls T (k + 1) q)
  exact e.symm.trans h1
theorem stable_cnt {T : Tab} {k : Nat} (h : Stable T (k + 1)) : cnt1 T (k + 2) T.n = cnt1 T (k + 1) T.n := cnt1_congr T _ _ _ h
theorem stable_next {T : Tab} (hT : T.Ok) {k : Nat} (h : Stable T k) : Stable T (k + 1) := fun q hq => by
  rw [cls_succ, cls_succ]
  have e : ∀ r, r < T.n → like T (cls T (k + 1)) r q = like T (cls T k) r q := fun r hr => by
    rw [Bool.eq_iff_iff, like_iff, like_iff, h r hr, h q hq]
    constructor
    · rintro ⟨h1, h2, h3⟩
      exact ⟨h1, h2, fun x hx => by have := h3 x hx; rw [h _ (hT.nx r x hr hx), h _ (hT.nx q x hq hx)] at this; exact this⟩
    · rintro ⟨h1, h2, h3⟩
      exact ⟨h1, h2, fun x hx => by rw [h _ (hT.nx r x hr hx), h _ (hT.nx q x hq hx)]; exact h3 x hx⟩
  have hle := fst_le (fun r => like T (cls T k) r q) q
  refine fst_eq _ _ _ hle (fun j hj => ?_) (fun hlt => ?_)
  · rw [e j (by omega)]; exact fst_none _ _ j hj
  · rw [e _ (by omega)]; exact fst_some _ _ hlt
theorem stable_all {T : Tab} (hT : T.Ok) {k : Nat} (h : Stable T k) : ∀ d q, q < T.n → cls T (k + d) q = cls T k q
  | 0, _, _ => rfl
  | d + 1, q, hq => by
    have hs : ∀ d, Stable T (k + d) := fun d => by
      induction d with
      | zero => exact h
      | succ d ih => exact stable_next hT ih
    rw [show k + (d + 1) = (k + d) + 1 by omega, hs d q hq]
    exact stable_all hT h d q hq
/-- The classes in the end. -/
def fix (T : Tab) (q : Nat) : Nat := cls T (T.n + 1) q
theorem fix_of {T : Tab} (hT : T.Ok) {k : Nat} (hk : k ≤ T.n) (h : Stable T k) (q : Nat) (hq : q < T.n) : fix T q = cls T k q := by
  have := stable_all hT h (T.n + 1 - k) q hq
  rwa [show k + (T.n + 1 - k) = T.n + 1 by omega] at this
theorem fix_lt {T : Tab} (q : Nat) (hq : q < T.n) : fix T q < T.n := Nat.lt_of_le_of_lt (cls_le _ _ _) hq

/-- A search that begins at the state's own class finds the same. -/
theorem cls_next (T : Tab) (k q r : Nat) (h1 : cls T (k + 1) q ≤ r) (hr : r ≤ q) (hno : ∀ j, cls T (k + 1) q ≤ j → j < r → like T (cls T (k + 1)) j q = false) (hy : r < q → like T (cls T (k + 1)) r q = true) : cls T (k + 2) q = r := by
  rw [cls_succ]
  refine fst_eq _ _ _ hr (fun j hj => ?_) hy
  rcases Nat.lt_or_ge j (cls T (k + 1) q) with h | h
  · cases hl : like T (cls T (k + 1)) j q with
    | false => rfl
    | true =>
      have h2 := ((like_iff _ _ _ _).1 hl).1
      have h3 := cls_le T (k + 1) j
      omega
  · exact hno j h hj
theorem cls_one (T : Tab) (q r : Nat) (hr : r ≤ q) (hno : ∀ j, j < r → (alls T.L fun x => T.ot j x == T.ot q x) = false) (hy : (alls T.L fun x => T.ot r x == T.ot q x) = true) : cls T 1 q = r := by
  have e : ∀ j, like T (cls T 0) j q = alls T.L fun x => T.ot j x == T.ot q x := fun j => by
    rw [Bool.eq_iff_iff, like_iff, alls_iff]
    constructor
    · rintro ⟨_, h, _⟩ x hx; simp [h x hx]
    · intro h; exact ⟨rfl, fun x hx => by simpa using h x hx, fun _ _ => rfl⟩
  rw [cls_succ]
  exact fst_eq _ _ _ hr (fun j hj => by rw [e j]; exact hno j hj) (fun _ => by rw [e r]; exact hy)
/-- Among equal outputs alone the classes and what follows decide. -/
theorem like_same {T : Tab} {k r q : Nat} (h : cls T (k + 1) r = cls T (k + 1) q) : like T (cls T (k + 1)) r q = alls T.L fun x => cls T (k + 1) (T.nx q x) == cls T (k + 1) (T.nx r x) := by
  rw [Bool.eq_iff_iff, like_iff, alls_iff]
  constructor
  · rintro ⟨_, _, h3⟩ x hx; simp [h3 x hx]
  · intro h3
    exact ⟨h, ((like_iff _ _ _ _).1 ((cls_iff T k r q).1 h)).2.1, fun x hx => by have := h3 x hx; simp at this; exact this.symm⟩
end Go.Proofs.Ythempofohidlnaa

/- The machine of a state: the classes as they are met. -/
namespace Go.Proofs.Ythempofohidlnaa
set_option linter.unusedVariables false
set_option linter.unusedSimpArgs false

def meet (st : List Nat) (c : Nat) : List Nat := if c ∈ st then st else st ++ [c]
def meets (T : Tab) (c : Nat → Nat) (s : Nat) (st : List Nat) : Nat → List Nat
  | 0 => st
  | x + 1 => meet (meets T c s st x) (c (T.nx s x))
def bfs (T : Tab) (c : Nat → Nat) (q : Nat) : Nat → List Nat
  | 0 => [c q]
  | i + 1 => match (bfs T c q i)[i]? with
    | some s => meets T c s (bfs T c q i) T.L
    | none => bfs T c q i
def fin (T : Tab) (c : Nat → Nat) (q : Nat) : List Nat := bfs T c q T.n

theorem meet_pre (st : List Nat) (c : Nat) : ∃ r, meet st c = st ++ r := by
  unfold meet; split
  · exact ⟨[], by simp⟩
  · exact ⟨[c], rfl⟩
theorem meet_mem (st : List Nat) (c : Nat) : c ∈ meet st c := by unfold meet; split <;> simp_all
theorem meets_pre (T : Tab) (c : Nat → Nat) (s : Nat) (st : List Nat) : ∀ x, ∃ r, meets T c s st x = st ++ r
  | 0 => ⟨[], by simp [meets]⟩
  | x + 1 => by
    obtain ⟨r, hr⟩ := meets_pre T c s st x
    obtain ⟨r', hr'⟩ := meet_pre (meets T c s st x) (c (T.nx s x))
    exact ⟨r ++ r', by unfold meets; rw [hr', hr, List.append_assoc]⟩
theorem meets_mem (T : Tab) (c : Nat → Nat) (s : Nat) (st : List Nat) : ∀ x y, y < x → c (T.nx s y) ∈ meets T c s st x
  | x + 1, y, hy => by
    unfold meets
    by_cases e : y = x
    · subst e; exact meet_mem _ _
    · obtain ⟨r, hr⟩ := meet_pre (meets T c s st x) (c (T.nx s x))
      rw [hr]
      exact List.mem_append_left _ (meets_mem T c s st x y (by omega))
/-- A list of numbers below n, each once. -/
def Uniq (n : Nat) (st : List Nat) : Prop := st.Nodup ∧ ∀ s, s ∈ st → s < n
theorem Uniq.meet {n c : Nat} {st : List Nat} (h : Uniq n st) (hc : c < n) : Uniq n (meet st c) := by
  unfold Go.Proofs.Ythempofohidlnaa.meet
  split
  · exact h
  · rename_i hn
    refine ⟨List.nodup_append.2 ⟨h.1, by simp, fun a ha b hb e => ?_⟩, fun s hs => ?_⟩
    · simp at hb; subst hb; subst e; exact hn ha
    · rcases List.mem_append.1 hs with hs | hs
      · exact h.2 s hs
      · simp at hs; omega
theorem Uniq.meets {T : Tab} {c : Nat → Nat} (hT : T.Ok) (hc : ∀ q, q < T.n → c q < T.n) {s : Nat} (hs : s < T.n) {st : List Nat} (h : Uniq T.n st) : ∀ x, x ≤ T.L → Uniq T.n (meets T c s st x)
  | 0, _ => h
  | x + 1, hx => (Uniq.meets hT hc hs h x (by omega)).meet (hc _ (hT.nx s x hs (by omega)))
theorem Uniq.len {n : Nat} {st : List Nat} (h : Uniq n st) : st.length ≤ n := by
  refine inj_le st.length n (fun i => st.getD i 0) (fun i hi => ?_) (fun i j hij hj e => ?_)
  · rw [List.getD_eq_getElem?_getD, List.getElem?_eq_getElem hi]
    exact h.2 _ (List.getElem_mem hi)
  · dsimp only at e
    rw [List.getD_eq_getElem?_getD, List.getD_eq_getElem?_getD, List.getElem?_eq_getElem hj, List.getElem?_eq_getElem (show i < st.length by omega)] at e
    exact (List.pairwise_iff_getElem.1 h.1 i j (by omega) hj hij) e
section
variable {T : Tab} {c : Nat → Nat}
theorem bfs_uniq (hT : T.Ok) (hc : ∀ q, q < T.n → c q < T.n) (q : Nat) (hq : q < T.n) : ∀ i, Uniq T.n (bfs T c q i)
  | 0 => ⟨by simp [bfs], fun s hs => by simp [bfs] at hs; subst hs; exact hc q hq⟩
  | i + 1 => by
    have ih := bfs_uniq hT hc q hq i
    unfold bfs
    split
    · rename_i s hs
      exact Uniq.meets hT hc (ih.2 s (List.mem_of_getElem? hs)) ih T.L (Nat.le_refl _)
    · exact ih
theorem bfs_some (T : Tab) (c : Nat → Nat) {q i s : Nat} (h : (bfs T c q i)[i]? = some s) : bfs T c q (i + 1) = meets T c s (bfs T c q i) T.L := by rw [bfs, h]
theorem bfs_none (T : Tab) (c : Nat → Nat) {q i : Nat} (h : (bfs T c q i).length ≤ i) : bfs T c q (i + 1) = bfs T c q i := by rw [bfs, List.getElem?_eq_none h]
theorem bfs_stay (T : Tab) (c : Nat → Nat) {q i : Nat} (h : (bfs T c q i).length ≤ i) : ∀ d, bfs T c q (i + d) = bfs T c q i
  | 0 => rfl
  | d + 1 => by
    have ih := bfs_stay T c h d
    rw [← ih, show i + (d + 1) = (i + d) + 1 by omega]
    exact bfs_none T c (by rw [ih]; omega)
theorem fin_of (hT : T.Ok) (hc : ∀ q, q < T.n → c q < T.n) {q i : Nat} (hq : q < T.n) (hi : (bfs T c q i).length = i) : fin T c q = bfs T c q i := by
  have h1 := (bfs_uniq hT hc q hq i).len
  have := bfs_stay T c (q := q) (i := i) (by omega) (T.n - i)
  rwa [show i + (T.n - i) = T.n by omega] at this
theorem bfs_pre (T : Tab) (c : Nat → Nat) (q i : Nat) : ∀ d, ∃ r, bfs T c q (i + d) = bfs T c q i ++ r
  | 0 => ⟨[], by simp⟩
  | d + 1 => by
    obtain ⟨r, hr⟩ := bfs_pre T c q i d
    rw [show i + (d + 1) = (i + d) + 1 by omega]
    cases h : (bfs T c q (i + d))[i + d]? with
    | some s =>
      obtain ⟨r', hr'⟩ := meets_pre T c s (bfs T c q (i + d)) T.L
      exact ⟨r ++ r', by rw [bfs_some T c h, hr', hr, List.append_assoc]⟩
    | none => exact ⟨r, by rw [bfs, h]; exact hr⟩
/-- What is met goes on within what is met. -/
theorem fin_closed (hT : T.Ok) (hc : ∀ q, q < T.n → c q < T.n) {q : Nat} (hq : q < T.n) : ∀ s, s ∈ fin T c q → ∀ x, x < T.L → c (T.nx s x) ∈ fin T c q := by
  intro s hs x hx
  obtain ⟨i, hi, rfl⟩ := List.getElem_of_mem hs
  have hlen := (bfs_uniq hT hc q hq T.n).len
  have hi' : i < T.n := Nat.lt_of_lt_of_le hi hlen
  -- the list before round i has the element, for all rounds behind are its continuations
  have key : ∀ j, j ≤ T.n → (bfs T c q j).length ≤ j → bfs T c q j = fin T c q := fun j hj hl => by
    have := bfs_stay T c hl (T.n - j)
    rw [show j + (T.n - j) = T.n by omega] at this
    exact this.symm
  by_cases hl : (bfs T c q i).length ≤ i
  · have := key i (by omega) hl
    rw [← this] at hi
    omega
  · obtain ⟨r, hr⟩ := bfs_pre T c q i (T.n - i)
    rw [show i + (T.n - i) = T.n by omega] at hr
    have hr' : fin T c q = bfs T c q i ++ r := hr
    have hg : (bfs T c q i)[i]? = some (fin T c q)[i] := by
      have h1 : (bfs T c q i ++ r)[i]? = some (fin T c q)[i] := by rw [← hr']; exact List.getElem?_eq_getElem hi
      rwa [List.getElem?_append_left (by omega)] at h1
    obtain ⟨r2, hr2⟩ := bfs_pre T c q (i + 1) (T.n - (i + 1))
    rw [show i + 1 + (T.n - (i + 1)) = T.n by omega] at hr2
    have hm := meets_mem T c (fin T c q)[i] (bfs T c q i) T.L x hx
    rw [← bfs_some T c hg] at hm
    show c (T.nx (fin T c q)[i] x) ∈ bfs T c q T.n
    rw [hr2]
    exact List.mem_append_left _ hm
theorem fin_pos (T : Tab) (c : Nat → Nat) (q : Nat) : 0 < (fin T c q).length := by
  obtain ⟨r, hr⟩ := bfs_pre T c q 0 T.n
  rw [Nat.zero_add] at hr
  unfold fin
  rw [hr]; simp [bfs]
end

/-- The machine of some states, as far as it is written: i rows, and x letters of the next one. -/
def gthP (T : Tab) (c : Nat → Nat) (st : List Nat) (i x : Nat) : Mach :=
  ⟨T.L, st.length, fun p => if (p / 3 < i ∨ p / 3 = i ∧ p % 3 < x) ∧ p % 3 < T.L then st.idxOf (c (T.nx (st.getD (p / 3) 0) (p % 3))) else 0,
   fun p => if (p / 3 < i ∨ p / 3 = i ∧ p % 3 < x) ∧ p % 3 < T.L then T.ot (st.getD (p / 3) 0) (p % 3) else 0⟩
def gth (T : Tab) (c : Nat → Nat) (st : List Nat) : Mach := gthP T c st st.length 0
theorem gthP_row (T : Tab) (c : Nat → Nat) (st : List Nat) (i : Nat) (hL : T.L ≤ 3) : gthP T c st i T.L = gthP T c st (i + 1) 0 := by
  have e : ∀ p, ((p / 3 < i ∨ p / 3 = i ∧ p % 3 < T.L) ∧ p % 3 < T.L) = ((p / 3 < i + 1 ∨ p / 3 = i + 1 ∧ p % 3 < 0) ∧ p % 3 < T.L) := fun p => by
    apply propext
    constructor
    · rintro ⟨h1, h2⟩; exact ⟨by omega, h2⟩
    · rintro ⟨h1, h2⟩; exact ⟨by omega, h2⟩
  unfold gthP
  simp only [e]
theorem gthP_zero (T : Tab) (c : Nat → Nat) (st : List Nat) : gthP T c st 0 0 = ⟨T.L, st.length, fun _ => 0, fun _ => 0⟩ := by
  have e : ∀ p, ((p / 3 < 0 ∨ p / 3 = 0 ∧ p % 3 < 0) ∧ p % 3 < T.L) = False := fun p => by
    apply propext
    constructor
    · rintro ⟨h1, h2⟩; omega
    · exact False.elim
  unfold gthP
  simp only [e, if_false]
theorem gthP_step (T : Tab) (c : Nat → Nat) (st : List Nat) (i x s : Nat) (hx : x < T.L) (hL : T.L ≤ 3) (hs : st[i]? = some s) :
    gthP T c st i (x + 1) = { (gthP T c st i x) with nx := upd (gthP T c st i x).nx (i * 3 + x) (st.idxOf (c (T.nx s x))), ot := upd (gthP T c st i x).ot (i * 3 + x) (T.ot s x) } := by
  have hg : st.getD i 0 = s := by rw [List.getD_eq_getElem?_getD, hs]; rfl
  unfold gthP upd
  dsimp only
  congr 1
  · funext p
    by_cases e : p = i * 3 + x
    · subst e
      rw [if_pos rfl, show (i * 3 + x) / 3 = i by omega, show (i * 3 + x) % 3 = x by omega, if_pos (by omega), hg]
    · rw [if_neg e]
      by_cases h : (p / 3 < i ∨ p / 3 = i ∧ p % 3 < x) ∧ p % 3 < T.L
      · rw [if_pos h, if_pos (by omega)]
      · rw [if_neg h, if_neg (by omega)]
  · funext p
    by_cases e : p = i * 3 + x
    · subst e
      rw [if_pos rfl, show (i * 3 + x) / 3 = i by omega, show (i * 3 + x) % 3 = x by omega, if_pos (by omega), hg]
    · rw [if_neg e]
      by_cases h : (p / 3 < i ∨ p / 3 = i ∧ p % 3 < x) ∧ p % 3 < T.L
      · rw [if_pos h, if_pos (by omega)]
      · rw [if_neg h, if_neg (by omega)]
/-- The machine of the state q of a table; no machine if it has too many states. -/
def fromM (T : Tab) (q : Nat) : Mach := if (fin T (fix T) q).length ≤ 16 then gth T (fix T) (fin T (fix T) q) else ⟨0, 0, fun _ => 0, fun _ => 0⟩
def fromC (T : Tab) (q : Nat) : Int := if (fin T (fix T) q).length ≤ 16 then 0 else 3
theorem mem_idxOf_lt {l : List Nat} {a : Nat} (h : a ∈ l) : l.idxOf a < l.length := List.idxOf_lt_length_of_mem h
end Go.Proofs.Ythempofohidlnaa

/- Words as lists of letters; what states make of them: lead and l01Act. -/
namespace Go.Proofs.Ythempofohidlnaa
open Go.RowKit
set_option linter.unusedVariables false
set_option linter.unusedSimpArgs false

/-- The text of a word. -/
def wstr (u : List Nat) : ByteArray := strOfNums (u.map fun x : Nat => 48 + (x : Int))
theorem wstr_size (u : List Nat) : (wstr u).size = u.length := by simp [wstr, strOfNums_size]
theorem wstr_byte (u : List Nat) (k : Nat) (hk : k < (wstr u).size) (hu : ∀ x ∈ u, x < 200) : ((wstr u)[k]'hk).toNat = 48 + u.getD k 0 := by
  have hk' : k < u.length := by rwa [wstr_size] at hk
  have hb : u[k] < 200 := hu _ (List.getElem_mem hk')
  have : (wstr u)[k]'hk = UInt8.ofNat ((48 + (u[k] : Int)).toNat) := by
    show (wstr u).data[k]'_ = _
    simp [wstr, strOfNums]
  rw [this, List.getD_eq_getElem?_getD, List.getElem?_eq_getElem hk', Option.getD_some, UInt8.toNat_ofNat']
  omega

/-- What a state puts out for a word, and where it ends. -/
def img (m : Mach) : Nat → List Nat → List Nat
  | _, [] => []
  | q, x :: u => m.ot (q * 3 + x) :: img m (m.nx (q * 3 + x)) u
def sec (m : Mach) : Nat → List Nat → Nat
  | q, [] => q
  | q, x :: u => sec m (m.nx (q * 3 + x)) u
theorem img_length (m : Mach) : ∀ (u : List Nat) (q : Nat), (img m q u).length = u.length
  | [], _ => rfl
  | x :: u, q => by simp [img, img_length m u]
theorem sec_snoc (m : Mach) (x : Nat) : ∀ (u : List Nat) (q : Nat), sec m q (u ++ [x]) = m.nx (sec m q u * 3 + x)
  | [], _ => rfl
  | y :: u, q => by simp [sec, sec_snoc m x u]
theorem img_snoc (m : Mach) (x : Nat) : ∀ (u : List Nat) (q : Nat), img m q (u ++ [x]) = img m q u ++ [m.ot (sec m q u * 3 + x)]
  | [], _ => rfl
  | y :: u, q => by simp [img, sec, img_snoc m x u]
theorem sec_lt {m : Mach} {l s : Nat} (g : Good m l s) : ∀ (u : List Nat) (q : Nat), q < s → (∀ x ∈ u, x < l) → sec m q u < s
  | [], q, hq, _ => hq
  | x :: u, q, hq, hu => sec_lt g u _ (g.nx q x hq (hu x (by simp))) (fun y hy => hu y (by simp [hy]))
theorem img_lt {m : Mach} {l s : Nat} (g : Good m l s) : ∀ (u : List Nat) (q : Nat), q < s → (∀ x ∈ u, x < l) → ∀ y ∈ img m q u, y < l
  | [], q, _, _, y, hy => by simp [img] at hy
  | x :: u, q, hq, hu, y, hy => by
    simp only [img, List.mem_cons] at hy
    rcases hy with rfl | hy
    · exact g.ot q x hq (hu x (by simp))
    · exact img_lt g u _ (g.nx q x hq (hu x (by simp))) (fun z hz => hu z (by simp [hz])) y hy
theorem take_snoc' (u : List Nat) (k : Nat) (h : k < u.length) : u.take (k + 1) = u.take k ++ [u.getD k 0] := by
  rw [List.take_succ_eq_append_getElem h, List.getD_eq_getElem?_getD, List.getElem?_eq_getElem h]; rfl
theorem getD_mem (u : List Nat) (k : Nat) (h : k < u.length) : u.getD k 0 ∈ u := by
  rw [List.getD_eq_getElem?_getD, List.getElem?_eq_getElem h]; exact List.getElem_mem h

theorem info_u8 : (Try.prog.info? 5).map (fun i => (i.zero, i.size, i.bytes)) = some (some (.int .u8 0), 1, 1) := by kernel_rfl

/-- The digits of a list, by their places; 0 from the place k on. -/
def dgs (u : List Nat) (i : Nat) : Value := .int .u8 (if i < u.length then 48 + u.getD i 0 else 0 : Nat)

theorem dgs_snoc (im : List Nat) (ot j : Nat) : (if j = im.length then Value.int .u8 (48 + (ot : Int)) else dgs im j) = dgs (im ++ [ot]) j := by
  unfold dgs
  by_cases h : j = im.length
  · subst h
    rw [if_pos rfl, if_pos (by simp)]
    simp
  · rw [if_neg h]
    by_cases h2 : j < im.length
    · rw [if_pos h2, if_pos (by simp; omega)]
      simp [List.getD_eq_getElem?_getD, List.getElem?_append_left h2]
    · rw [if_neg h2, if_neg (by simp; omega)]

/-- A row of digits read as a text. -/
theorem conv_dgs {w : World} {b n t : Nat} {u : List Nat} (hn : u.length = n) (h : w.rowIs b t n (dgs u)) : (convert 120 9 (.slice (some ⟨b, 0, none⟩) n n)).run Try.prog w = .ok (.string (wstr u)) w := by
  refine run_convert_bytes_arg w 120 5 Try.underlying120 Try.underlying5 b 0 n n (u.map fun x : Nat => 48 + (x : Int)) (by simpa using hn) (fun i hi => ?_) 9 Try.underlying9
  rw [Nat.zero_add, World.rowIs.cell h hi]
  unfold dgs
  have hi' : i < u.length := by omega
  rw [if_pos hi']
  simp [List.getD_eq_getElem?_getD, List.getElem?_eq_getElem hi']

set_option maxHeartbeats 1000000 in
set_option maxRecDepth 100000 in
theorem lead_any (b : Nat) (w : World) (m : Mach) (hm : MB w 34 b m) (l s : Nat) (g : Good m l s) (q : Nat) (hq : q < s) (u : List Nat) (hu : ∀ x ∈ u, x < l) (hlen : u.length ≤ 1000) :
    Calls Try.prog 65 #[.pointer (some ⟨b, 0, none⟩), .int .i64 q, .string (wstr u)] w fun e w' =>
      e = .returned (.tuple #[.string (wstr (img m q u)), .int .i64 (sec m q u : Nat)]) ∧ Below w.heap.size w w' := by
  have hsz := wstr_size u
  have hmk := fun W : World => run_make_row' (P := Try.prog) 120 5 (.int .u8 0) 1 Try.underlying120 info_u8 rfl .i64 .i64 u.length (by omega) (by omega) W
  have hbyte := hid (fun k hk => wstr_byte u k hk (fun x hx => by have := hu x hx; have := g.l3; omega))
  have hmade := hid (World.rowIs_made w (.int .u8 0) u.length 5)
  have hB := hid (below_alloc (Below.refl w.heap.size w) (Nat.le_refl _) (.cells (madeCells #[.int .u8 0] u.length) 5))
  have hM := hid (hm.alloc (.cells (madeCells #[.int .u8 0] u.length) 5))
  have hblt := hid hm.lt
  have s16 := g.s16
  have l3 := g.l3
  replace g := hid g
  replace hu := hid hu
  clear hm
  generalize hws : wstr u = ws at *
  generalize hmc : madeCells #[.int .u8 0] u.length = mc at *
  replace hws := hid hws
  clear hmc
  go_enter Try.func65, Try.ntmps65
  go_wp2
  clear hmk
  go_loopw [1, 16] (fun p i wr => ∃ k : Nat, k ≤ u.length ∧ i = .int .i64 k ∧ p = .int .i64 (sec m q (u.take k) : Nat) ∧ MB wr 34 b m ∧ wr.rowIs w.heap.size 5 u.length (dgs (img m q (u.take k))) ∧ Below w.heap.size w wr) (fun _ i _ => u.length - (intOf i).toNat)
  case atStart =>
    refine ⟨0, Nat.zero_le _, rfl, rfl, hM.out, World.rowIs.congr hmade.out (fun i hi => ?_), hB.out⟩
    unfold dgs
    simp [img]
  case round =>
    obtain ⟨k, hk, rfl, rfl, r1, r2, rB⟩ := hrel
    clear hM hmade hB
    replace r1 := hid r1; replace r2 := hid r2; replace rB := hid rB
    by_cases hlt : k < u.length
    · have hx := hu.out _ (getD_mem u k hlt)
      have hb := hbyte.out k (by omega)
      have htk := hid (take_snoc' u k hlt)
      have hq2 := sec_lt g.out (u.take k) q hq (fun x hx => hu.out x (List.mem_of_mem_take hx))
      have hsn := hid (sec_snoc m (u.getD k 0) (u.take k) q)
      have him := hid (img_snoc m (u.getD k 0) (u.take k) q)
      have hol := g.out.ot _ _ hq2 hx
      have hnl := g.out.nx _ _ hq2 hx
      have hout := hid (fun W hW => out_any b W m hW (sec m q (u.take k)) (u.getD k 0) (by omega) (by omega) (by omega))
      have hnext := hid (fun W hW => next_any b W m hW (sec m q (u.take k)) (u.getD k 0) (by omega) (by omega) (by omega))
      have hil := hid (show (img m q (u.take k)).length = k by rw [img_length, List.length_take]; omega)
      obtain ⟨vo, co⟩ : ∃ v, wr.cell? ⟨w.heap.size, k, none⟩ = some v := ⟨_, r2.out.cell hlt⟩
      have fo : wr.frozen? ⟨w.heap.size, k, none⟩ = false := r2.out.frozen k
      generalize hqk : sec m q (u.take k) = qk at *
      generalize hxk : u.getD k 0 = x at *
      generalize hok : m.ot (qk * 3 + x) = ot at *
      generalize hnk : m.nx (qk * 3 + x) = nx at *
      generalize him0 : img m q (u.take k) = im at *
      replace hqk := hid hqk; replace hxk := hid hxk; replace hok := hid hok; replace hnk := hid hnk; replace him0 := hid him0
      have e1 : 48 + (x : Int) - 48 = x := by omega
      go_wp2_with (first
        | (go_at_call 118; (with_reducible refine (hout.out _ r1.out).mono ?_); rintro e w1 ⟨rfl, rfl⟩)
        | (go_at_call 119; (with_reducible refine (letter_any ot (by omega) _).mono ?_); rintro e w1 ⟨rfl, rfl⟩)
        | (go_at_call 117; (with_reducible refine (hnext.out _ (r1.out.setOther (by have := hblt.out; simp; omega) _)).mono ?_); rintro e w1 ⟨rfl, rfl⟩))
      go_roundw
      case rel =>
        refine ⟨k + 1, by omega, by go_num, by rw [htk.out, hsn.out], r1.out.setOther (by have := hblt.out; simp; omega) _, ?_, rB.out.setCell (by simp) _⟩
        rw [htk.out, him.out]
        refine World.rowIs.congr (World.rowIs.set r2.out k _) (fun i hi => ?_)
        have := dgs_snoc im ot i
        rw [hil.out] at this
        exact this
      case measure => simp [intOf]; omega
    · obtain rfl : k = u.length := by omega
      have htk : u.take u.length = u := List.take_length
      rw [htk] at r2
      have hconv := conv_dgs (img_length m u q) r2.out
      rw [htk]
      clear htk
      go_wp2
      go_ret2
      exact ⟨rfl, rB.out⟩
end Go.Proofs.Ythempofohidlnaa

/- Slices of one-cell elements that a function made itself: what they hold, how they grow, what keeps them. -/
namespace Go.Proofs.Ythempofohidlnaa
open Go.RowKit
set_option linter.unusedVariables false
set_option linter.unusedSimpArgs false

/-- The slice value v holds just the cells cs, in a block of its own from 'base' on. -/
def Own (w : World) (base e : Nat) (v : Value) (cs : List Value) : Prop := w.ownsRow base e 1 v cs.length cs

section
variable {w w' : World} {base e : Nat} {v : Value} {cs : List Value}
theorem Own.nil (w : World) (base e : Nat) : Own w base e (.slice none 0 0) [] := World.ownsRow_nil w base e 1
theorem Own.lit (w : World) (base e : Nat) (cs : List Value) (hb : base ≤ w.heap.size) (hm : cs.length ≤ 1000000) :
    Own (w.alloc (.cells cs.toArray e)) base e (.slice (some ⟨w.heap.size, 0, none⟩) cs.length cs.length) cs := by
  have := World.ownsRow_lit (base := base) (e := e) (size := 1) w cs.toArray cs.length hb (by simp only [maxLen]; omega) (by simp)
  simpa [Own] using this
theorem Own.new (w : World) (base e : Nat) (hb : base ≤ w.heap.size) : Own (w.alloc (.cells #[] e)) base e (.slice (some ⟨w.heap.size, 0, none⟩) 0 0) [] := Own.lit w base e [] hb (by simp)
theorem Own.made (w : World) (base e : Nat) (z : Value) (n : Nat) (hb : base ≤ w.heap.size) (hm : n ≤ 1000000) :
    Own (w.alloc (.cells (madeCells #[z] n) e)) base e (.slice (some ⟨w.heap.size, 0, none⟩) n n) (List.replicate n z) := by
  have hs : (madeCells #[z] n).toList = List.replicate n z := toList_madeCells_one z n
  have hsz : (madeCells #[z] n).size = n := by rw [← Array.length_toList, hs, List.length_replicate]
  have := World.ownsRow_lit (base := base) (e := e) (size := 1) w (madeCells #[z] n) n hb (by simp only [maxLen]; omega) (by rw [hsz, Nat.mul_one])
  unfold Own
  rw [List.length_replicate, ← hs]
  exact this
theorem Own.keep (h : Own w base e v cs) (hk : ∀ k, v.ownBlock = some k → w'.heap[k]? = w.heap[k]?) : Own w' base e v cs := by
  refine ⟨h.1, ?_⟩
  rcases h.2 with hn | ⟨g, cap, cur, rfl, hb, hg, rest⟩
  · exact .inl hn
  · exact .inr ⟨g, cap, cur, rfl, hb, (hk g rfl).trans hg, rest⟩
theorem Own.lt (h : Own w base e v cs) : ∀ k, v.ownBlock = some k → base ≤ k ∧ k < w.heap.size := World.ownsRow.lt h
theorem Own.below (h : Own w base e v cs) (hb : Below w.heap.size w w') : Own w' base e v cs := h.keep fun k hk => hb.block k (h.lt k hk).2
theorem Own.alloc (h : Own w base e v cs) (o : Obj) : Own (w.alloc o) base e v cs := h.keep fun k hk => Below.heap_alloc w o k (h.lt k hk).2
theorem Own.drew (h : Own w base e v cs) : Own w.drew base e v cs := h
theorem Own.drewN (h : Own w base e v cs) (n : Nat) : Own (w.drewN n) base e v cs := h
theorem Own.mono {b' : Nat} (h : Own w base e v cs) (hb : b' ≤ base) : Own w b' e v cs := by
  refine ⟨h.1, ?_⟩
  rcases h.2 with hn | ⟨g, cap, cur, rfl, hg0, rest⟩
  · exact .inl hn
  · exact .inr ⟨g, cap, cur, rfl, Nat.le_trans hb hg0, rest⟩
/-- Its form, and its cells. -/
theorem Own.form (h : Own w base e v cs) : ∃ A cap, v = .slice A cs.length cap ∧ cs.length ≤ cap ∧ ((A = none ∧ cs = [] ∧ cap = 0) ∨ ∃ g, A = some ⟨g, 0, none⟩ ∧ base ≤ g ∧ g < w.heap.size ∧ ∀ j u, cs[j]? = some u → w.cell? ⟨g, j, none⟩ = some u) := by
  rcases h.2 with ⟨rfl, hn⟩ | ⟨g, cap, cur, rfl, hb, hg, hnc, hcm, hcs, htake⟩
  · exact ⟨none, 0, by rw [hn], by omega, .inl ⟨rfl, List.eq_nil_of_length_eq_zero hn, rfl⟩⟩
  · refine ⟨some ⟨g, 0, none⟩, cap, rfl, hnc, .inr ⟨g, rfl, hb, (Array.getElem?_eq_some_iff.1 hg).1, fun j u hu => ?_⟩⟩
    have := h.cells (g := g) rfl j u hu
    have hadd : (⟨g, 0, none⟩ : Addr).add j = ⟨g, j, none⟩ := by unfold Addr.add; split <;> simp_all
    rwa [hadd] at this
/-- Its cells, where it has a block. -/
theorem Own.cellAt {g n cap : Nat} (h : Own w base e (.slice (some ⟨g, 0, none⟩) n cap) cs) (j : Nat) (u : Value) (hu : cs[j]? = some u) : w.cell? ⟨g, j, none⟩ = some u := by
  obtain ⟨A, cap', hv, _, hA⟩ := h.form
  injection hv with hv1 hv2 hv3
  rcases hA with ⟨hA, _, _⟩ | ⟨g', hA, _, _, hc⟩
  · rw [hA] at hv1; cases hv1
  · rw [hA] at hv1
    injection hv1 with hv1
    injection hv1 with hv1 _ _
    subst hv1
    exact hc j u hu
theorem Own.blk (h : Own w base e v cs) (hne : cs ≠ []) : ∃ g cap, v = .slice (some ⟨g, 0, none⟩) cs.length cap ∧ base ≤ g ∧ g < w.heap.size := by
  obtain ⟨A, cap, rfl, _, hA⟩ := h.form
  rcases hA with ⟨_, hn, _⟩ | ⟨g, rfl, hg, hlt, _⟩
  · exact absurd hn hne
  · exact ⟨g, cap, rfl, hg, hlt⟩
end

/-- One element appended, as the walk meets it: behind the box of the element. -/
theorem app1 {P : Program} {ops : Array Oper} {rest : List Oper} {o : Oper} {a : Act} {W : World} {Q : Exit → Act → World → Prop} (t e : TypeId) (z : Value) (bytes : Nat)
    (ht : P.underlying t = some (.slice e)) (hinfo : (P.info? e).map (fun i => (i.zero, i.size, i.bytes)) = some (some z, 1, bytes)) (hz : z.cells.size = 1) (hb : bytes ≤ 64)
    (hgd : o.guard = none) (s x : Operand) (ho : o.op = .call { callee := .builtin .append, args := #[s, x], argTypes := #[t, t] })
    (base : Nat) (v : Value) (cs : List Value) (hs : a.eval s = v) (hown : Own W base e v cs) (hbase : base ≤ W.heap.size) (c : Value) (hc1 : c.oneCell' = true)
    (hx : a.eval x = .slice (some ⟨W.heap.size, 0, none⟩) 1 1) (hlen : cs.length ≤ 1000000000)
    (h : ∀ g cap w', Own w' base e (.slice (some ⟨g, 0, none⟩) (cs.length + 1) cap) (cs ++ [c]) → Below base W w' → (∀ k, k < W.heap.size → v.ownBlock ≠ some k → w'.heap[k]? = W.heap[k]?) → W.heap.size < w'.heap.size → (v.ownBlock = some g ∨ W.heap.size < g) →
      wpList P ops Q rest (a.put o.dst (.slice (some ⟨g, 0, none⟩) (cs.length + 1) cap)) w') :
    wpList P ops Q (o :: rest) a (W.alloc (.cells #[c] e)) := by
  obtain ⟨i, hi, hz0, hz1, hz2⟩ := info_parts hinfo
  have hcell : (W.alloc (.cells #[c] e)).cell? ⟨W.heap.size, 0, none⟩ = some c := by
    have := World.cell?_alloc_at (w := W) #[c] e W.heap.size 0 rfl
    simp
  refine wpList_plain hgd fun K hK => ?_
  refine wp_append_lies (W.alloc (.cells #[c] e)) s x t ho base e i z 1 bytes ht hi hz0 hz1 hz2 hz (by omega) v cs.length cs hs (hown.alloc _) ⟨W.heap.size, 0, none⟩ 1 1 [c] hx rfl
    (fun j u hu => ?_) (fun u hu => by simp at hu; rw [hu]; exact hc1) (by omega) (by simp only [maxLen]; omega) (Nat.le_trans (Nat.mul_le_mul_left _ hb) (by omega)) (by simp; omega) (W.heap.size + 1) (by simp) ?_
  · cases j with
    | zero =>
      have hadd : (⟨W.heap.size, 0, none⟩ : Addr).add 0 = ⟨W.heap.size, 0, none⟩ := by simp [Addr.add]
      rw [hadd]
      simp at hu
      rw [← hu]
      exact hcell
    | succ j => simp at hu
  · intro g cap w' h1 h2 h3 h4
    have hsz : W.heap.size < w'.heap.size := by have := h2.size; simp at this; omega
    have hold : ∀ k, k < W.heap.size → v.ownBlock ≠ some k → w'.heap[k]? = W.heap[k]? := fun k hk hne => by
      rw [h2.block k (by simp; omega) (fun e => hne e.symm)]
      exact Below.heap_alloc W _ k hk
    have hlen' : (cs ++ [c]).length = cs.length + 1 := by simp
    exact hK _ _ (h g cap w' (by unfold Own; rw [hlen']; exact h1) ⟨h2.os, h2.tape, h2.output, by omega, fun k hk => hold k (by omega) (fun e => by have := (hown.lt k e).1; omega)⟩ hold hsz (h3.imp id (fun e => by omega)))

/-- Bytes of one's own as a text. -/
theorem Own.conv {w : World} {base : Nat} {v : Value} {u : List Nat} (h : Own w base 5 v (u.map fun x : Nat => .int .u8 (48 + (x : Int)))) : (convert 120 9 v).run Try.prog w = .ok (.string (wstr u)) w := by
  obtain ⟨A, cap, rfl, hcap, hA⟩ := h.form
  rcases hA with ⟨rfl, hn, rfl⟩ | ⟨g, rfl, _, _, hc⟩
  · obtain rfl : u = [] := by simpa using hn
    exact run_convert_bytes_nil w 120 5 Try.underlying120 Try.underlying5 _ _ 9 Try.underlying9
  · refine run_convert_bytes_arg w 120 5 Try.underlying120 Try.underlying5 g 0 _ cap (u.map fun x : Nat => 48 + (x : Int)) (by simp) (fun i hi => ?_) 9 Try.underlying9
    have hi' : i < u.length := by simpa using hi
    rw [Nat.zero_add]
    rw [hc i (.int .u8 (48 + (u[i] : Int))) (by simp [hi'])]
    simp [List.getD_eq_getElem?_getD, List.getElem?_eq_getElem hi']
end Go.Proofs.Ythempofohidlnaa

/- Regions that draw their order: a load may be taken first where its cell is as it was as long as the operation that waits for it has not come up. (The kit's OrdersHeld law, with a condition that falls away when it has served.) -/
namespace Go.Proofs.Ythempofohidlnaa
open Go.RowKit
set_option linter.unusedVariables false
set_option linter.unusedSimpArgs false

/-- What is kept of the world, each as long as one operation has not come up. -/
def HeldL (L : List (Nat × (World → Prop))) (listed : Array Bool) (w : World) : Prop := ∀ p, p ∈ L → listed.getD p.1 true = false → p.2 w

section
variable {P : Program} {ops : Array Oper} {Q : Exit → Act → World → Prop} {md : Region.Mode} {L : List (Nat × (World → Prop))}

def wpAnyL (P : Program) (md : Region.Mode) (ops : Array Oper) (Q : Exit → Act → World → Prop) (L : List (Nat × (World → Prop))) : Nat → Array Bool → Act → World → Prop
  | 0, listed, a, w => Region.ready md ops listed = [] ∧ Q .normal a w
  | fuel + 1, listed, a, w =>
    (Region.ready md ops listed = [] → Q .normal a w) ∧
    ∀ i, i ∈ Region.ready md ops listed → wpOp P ops Q i (fun a' w' => HeldL L (listed.setIfInBounds i true) w' ∧ wpAnyL P md ops Q L fuel (listed.setIfInBounds i true) a' w') a w

theorem wpAny_of_L : ∀ (fuel : Nat) (listed : Array Bool) (a : Act) (w : World), wpAnyL P md ops Q L fuel listed a w → wpAny P md ops Q fuel listed a w
  | 0, _, _, _, h => h
  | fuel + 1, _, _, _, h => ⟨h.1, fun i hi => wpOp_mono (fun a' w' h' => wpAny_of_L fuel _ a' w' h'.2) (h.2 i hi)⟩

/-- When the condition T may be leaned on. -/
def Leans (md : Region.Mode) (ops : Array Oper) (L : List (Nat × (World → Prop))) (i : Nat) (T : World → Prop) (listed : Array Bool) : Prop :=
  (∀ w, T w) ∨ ∃ k ok, (k, T) ∈ L ∧ k ≠ i ∧ ops[k]? = some ok ∧ (∃ e, e ∈ ok.after ∧ Region.binds md e = true ∧ e.on = i) ∧ listed.getD k true = false

theorem Leans.holds {i : Nat} {T : World → Prop} {listed : Array Bool} {w : World} (h : Leans md ops L i T listed) (hS : HeldL L listed w) : T w := by
  rcases h with h | ⟨k, ok, hm, _, _, _, hl⟩
  · exact h w
  · exact hS (k, T) hm hl

theorem wpAnyL_first {i : Nat} {oi : Oper} {v : Value} {T : World → Prop} (hi : ops[i]? = some oi) (hsel : ∀ (j : Nat) (o : Oper) cs b, ops[j]? = some o → o.op ≠ .select cs b)
    (hQ : ∀ c a w, Q (.panic c) (a.put oi.dst v) w → Q (.panic c) a w) (hne : ∀ p, p ∈ L → p.1 ≠ i) :
    ∀ (fuel : Nat) (listed : Array Bool) (a : Act) (w : World),
      (∀ j oj, ops[j]? = some oj → j ≠ i → listed.getD j true = false → (∀ e ∈ oj.after, Region.binds md e = true → e.on ≠ i) → oi.apart ops oj = true) →
      i ∈ Region.ready md ops listed → Leans md ops L i T listed → YieldsIf P ops T oi v a → HeldL L listed w →
      HeldL L (listed.setIfInBounds i true) w → wpAnyL P md ops Q L fuel (listed.setIfInBounds i true) (a.put oi.dst v) w → wpAnyL P md ops Q L (fuel + 1) listed a w := by
  intro fuel
  induction fuel with
  | zero =>
    intro listed a w _ hr hT hy hS hS' H
    refine ⟨fun h => (by rw [h] at hr; cases hr), fun j hj => ?_⟩
    by_cases hji : j = i
    · subst hji; exact hy.wpOp hi (hT.holds hS) ⟨hS', H⟩
    · have := ready_mono hj hji
      rw [H.1] at this
      cases this
  | succ fuel ih =>
    intro listed a w hfree hr hT hy hS hS' H
    refine ⟨fun h => (by rw [h] at hr; cases hr), fun j hj => ?_⟩
    by_cases hji : j = i
    · subst hji; exact hy.wpOp hi (hT.holds hS) ⟨hS', H⟩
    · have h1 := H.2 j (ready_mono hj hji)
      obtain ⟨hjun, oj, hoj, hall⟩ := mem_ready.1 hj
      have hnot : ∀ e ∈ oj.after, Region.binds md e = true → e.on ≠ i := fun e he hb heq => by
        have h1 := hall e he hb
        have h0 := (mem_ready.1 hr).1
        rw [heq] at h1
        rcases Nat.lt_or_ge i listed.size with h' | h'
        · simp [h'] at h0 h1; rw [h0] at h1; cases h1
        · simp [Array.getElem?_eq_none h'] at h1
      have h2 := wpOp_putIf hoj (hfree j oj hoj hji hjun hnot) (fun cs b => hsel i oi cs b hi) (fun cs b => hsel j oj cs b hoj) hQ hy h1
      have hfree' : ∀ k ok, ops[k]? = some ok → k ≠ i → (listed.setIfInBounds j true).getD k true = false →
          (∀ e ∈ ok.after, Region.binds md e = true → e.on ≠ i) → oi.apart ops ok = true := fun k ok hk hki hun hno => by
        refine hfree k ok hk hki ?_ hno
        by_cases hjk : j = k
        · subst hjk; exact hjun
        · rw [getD_set_ne true hjk] at hun; exact hun
      have hT' : Leans md ops L i T (listed.setIfInBounds j true) := by
        rcases hT with h | ⟨k, ok, hm, hki, hk, ⟨e, he, hb, heq⟩, hl⟩
        · exact .inl h
        · refine .inr ⟨k, ok, hm, hki, hk, ⟨e, he, hb, heq⟩, ?_⟩
          have hjk : j ≠ k := fun ejk => by
            subst ejk
            rw [hoj] at hk
            injection hk with hk
            subst hk
            exact hnot e he hb heq
          rw [getD_set_ne true hjk]; exact hl
      refine wpOp_mono (fun a' w' h3 => ?_) h2
      have hS2 : HeldL L ((listed.setIfInBounds j true).setIfInBounds i true) w' := by rw [Array.setIfInBounds_comm _ _ hji]; exact h3.2.1
      have hS1 : HeldL L (listed.setIfInBounds j true) w' := fun p hp hl => hS2 p hp (by rw [getD_set_ne true (Ne.symm (hne p hp))]; exact hl)
      refine ⟨hS1, ih (listed.setIfInBounds j true) a' w' hfree' (ready_mono hr (Ne.symm hji)) hT' h3.1 hS1 hS2 ?_⟩
      rw [Array.setIfInBounds_comm _ _ hji]
      exact h3.2.2

theorem HeldL.more {listed : Array Bool} {w : World} {i : Nat} (hne : ∀ p, p ∈ L → p.1 ≠ i) (h : HeldL L listed w) : HeldL L (listed.setIfInBounds i true) w := fun p hp hl => h p hp (by rwa [getD_set_ne true (Ne.symm (hne p hp))] at hl)

/-- Take number i first: it hangs on no world. -/
theorem wpAnyL_take0 {i : Nat} {oi : Oper} {v : Value} {fuel : Nat} {listed : Array Bool} {a : Act} {w : World} (hi : ops[i]? = some oi)
    (hs : Region.noSelect ops = true) (hf : Region.free md ops listed i = true) (hr : (Region.ready md ops listed).contains i = true) (hne : L.all (fun p => p.1 != i) = true)
    (hQ : ∀ c a w, Q (.panic c) (a.put oi.dst v) w → Q (.panic c) a w) (hy : YieldsIf P ops (fun _ => True) oi v a) (hS : HeldL L listed w)
    (h : HeldL L (listed.setIfInBounds i true) w → wpAnyL P md ops Q L fuel (listed.setIfInBounds i true) (a.put oi.dst v) w) : wpAnyL P md ops Q L (fuel + 1) listed a w :=
  have hne' : ∀ p, p ∈ L → p.1 ≠ i := fun p hp e => by have := List.all_eq_true.1 hne p hp; simp [e] at this
  have hS' := hS.more hne'
  wpAnyL_first hi (Region.noSelect_spec hs) hQ hne' fuel listed a w (Region.free_spec hi hf) (by simpa using hr) (.inl fun _ => trivial) hy hS hS' (h hS')

/-- Take number i first: a load, whose cell is as it was as long as number k waits. -/
theorem wpAnyL_takeT {i : Nat} (k : Nat) {oi ok : Oper} {v : Value} {fuel : Nat} {listed : Array Bool} {a : Act} {w : World} (T : World → Prop) (hi : ops[i]? = some oi) (hk : ops[k]? = some ok)
    (hs : Region.noSelect ops = true) (hf : Region.free md ops listed i = true) (hr : (Region.ready md ops listed).contains i = true) (hne : L.all (fun p => p.1 != i) = true) (hki : (k != i) = true)
    (hwait : ok.after.any (fun e => Region.binds md e && e.on == i) = true) (hun : listed.getD k true = false) (hm : (k, T) ∈ L)
    (hQ : ∀ c a w, Q (.panic c) (a.put oi.dst v) w → Q (.panic c) a w) (hy : YieldsIf P ops T oi v a) (hS : HeldL L listed w)
    (h : HeldL L (listed.setIfInBounds i true) w → wpAnyL P md ops Q L fuel (listed.setIfInBounds i true) (a.put oi.dst v) w) : wpAnyL P md ops Q L (fuel + 1) listed a w :=
  have hne' : ∀ p, p ∈ L → p.1 ≠ i := fun p hp e => by have := List.all_eq_true.1 hne p hp; simp [e] at this
  have hS' := hS.more hne'
  have hw : ∃ e, e ∈ ok.after ∧ Region.binds md e = true ∧ e.on = i := by
    obtain ⟨e, he, hb⟩ := Array.any_eq_true'.1 hwait
    simp only [Bool.and_eq_true, beq_iff_eq] at hb
    exact ⟨e, he, hb⟩
  wpAnyL_first hi (Region.noSelect_spec hs) hQ hne' fuel listed a w (Region.free_spec hi hf) (by simpa using hr) (.inr ⟨k, ok, hm, by simpa using hki, hk, hw, hun⟩) hy hS hS' (h hS')

/-- Whichever comes up. -/
def AllReadyL (P : Program) (md : Region.Mode) (ops : Array Oper) (Q : Exit → Act → World → Prop) (L : List (Nat × (World → Prop))) (fuel : Nat) (listed : Array Bool) (a : Act) (w : World) (rs : List Nat) : Prop :=
  ∀ i, i ∈ rs → wpOp P ops Q i (fun a' w' => HeldL L (listed.setIfInBounds i true) w' ∧ wpAnyL P md ops Q L fuel (listed.setIfInBounds i true) a' w') a w
theorem AllReadyL.nil {fuel : Nat} {listed : Array Bool} {a : Act} {w : World} : AllReadyL P md ops Q L fuel listed a w [] := fun _ h => by cases h
theorem AllReadyL.cons {fuel : Nat} {listed : Array Bool} {a : Act} {w : World} {i : Nat} {o : Oper} {rs : List Nat} (ho : ops[i]? = some o)
    (h : ∀ K' : Act → World → Prop, Shut (∀ a w, HeldL L (listed.setIfInBounds i true) w → (HeldL L (listed.setIfInBounds i true) w → wpAnyL P md ops Q L fuel (listed.setIfInBounds i true) a w) → K' a w) → if Region.wanted o (yielded ops a.tmps) = true then Oper.wp P o a w K' Q else K' (a.put o.dst undef) w)
    (hs : AllReadyL P md ops Q L fuel listed a w rs) : AllReadyL P md ops Q L fuel listed a w (i :: rs) := fun j hj => by
  rcases List.mem_cons.1 hj with rfl | hj
  · exact wpOp_step ho (fun K' hK => h K' (fun a w hS hW => hK a w ⟨hS, hW hS⟩))
  · exact hs j hj
theorem wpAnyL_ready {rs : List Nat} {fuel : Nat} {listed : Array Bool} {a : Act} {w : World} (hr : Region.ready md ops listed = rs) (hne : rs ≠ [])
    (h : AllReadyL P md ops Q L fuel listed a w rs) : wpAnyL P md ops Q L (fuel + 1) listed a w :=
  ⟨fun h0 => absurd (hr ▸ h0) hne, fun i hi => h i (hr ▸ hi)⟩
theorem wpAnyL_done {listed : Array Bool} {a : Act} {w : World} (hr : Region.ready md ops listed = []) (h : Q .normal a w) : ∀ fuel, wpAnyL P md ops Q L fuel listed a w
  | 0 => ⟨hr, h⟩
  | _ + 1 => ⟨fun _ => h, by rw [hr]; intro _ h; cases h⟩
/-- The beginning. -/
theorem wp_region_heldL {id : Nat} {a : Act} {w : World} (hm : P.follows .mixedOrders = true) (hS : HeldL L (Array.replicate ops.size false) w.drew)
    (h : HeldL L (Array.replicate ops.size false) w.drew → wpAnyL P .any ops Q L ops.size (Array.replicate ops.size false) a w.drew) : (Code.region id ops true).wp P Q a w :=
  wp_region_any hm (wpAny_of_L _ _ _ _ (h hS))
theorem HeldL.nil {listed : Array Bool} {w : World} : HeldL [] listed w := fun p hp => by cases hp
theorem HeldL.cons {k : Nat} {T : World → Prop} {listed : Array Bool} {w : World} (h1 : listed.getD k true = false → T w) (h : HeldL L listed w) : HeldL ((k, T) :: L) listed w := fun p hp hl => by
  rcases List.mem_cons.1 hp with rfl | hp
  · exact h1 hl
  · exact h p hp hl
end

/-! A load may also be taken first under the condition of an operation that waits for it through others. -/
/-- Each of the path waits for the next one, the last for i; none has come up. -/
def pathB (md : Region.Mode) (ops : Array Oper) (listed : Array Bool) (i : Nat) : List Nat → Bool
  | [] => true
  | k :: r => (k != i) && !(listed.getD k true) && (match ops[k]? with | some ok => ok.after.any (fun e => Region.binds md e && e.on == (r.headD i)) | none => false) && pathB md ops listed i r
def PathOk (md : Region.Mode) (ops : Array Oper) (listed : Array Bool) (i : Nat) : List Nat → Prop
  | [] => True
  | k :: r => k ≠ i ∧ listed.getD k true = false ∧ (∃ ok, ops[k]? = some ok ∧ ∃ e, e ∈ ok.after ∧ Region.binds md e = true ∧ e.on = r.headD i) ∧ PathOk md ops listed i r
theorem pathB_ok {md : Region.Mode} {ops : Array Oper} {listed : Array Bool} {i : Nat} : ∀ (p : List Nat), pathB md ops listed i p = true → PathOk md ops listed i p
  | [], _ => trivial
  | k :: r, h => by
    unfold pathB at h
    simp only [Bool.and_eq_true, bne_iff_ne, Bool.not_eq_true'] at h
    obtain ⟨⟨⟨h1, h2⟩, h3⟩, h4⟩ := h
    refine ⟨h1, h2, ?_, pathB_ok r h4⟩
    cases hk : ops[k]? with
    | none => rw [hk] at h3; cases h3
    | some ok =>
      rw [hk] at h3
      obtain ⟨e, he, hb⟩ := Array.any_eq_true'.1 h3
      simp only [Bool.and_eq_true, beq_iff_eq] at hb
      exact ⟨ok, rfl, e, he, hb⟩
theorem PathOk.head {md : Region.Mode} {ops : Array Oper} {listed : Array Bool} {i : Nat} (hi : listed.getD i true = false) : ∀ (p : List Nat), PathOk md ops listed i p → listed.getD (p.headD i) true = false
  | [], _ => hi
  | _ :: _, h => h.2.1
/-- One that is ready is not of the path. -/
theorem PathOk.ready {md : Region.Mode} {ops : Array Oper} {listed : Array Bool} {i j : Nat} (hi : listed.getD i true = false) (hj : j ∈ Region.ready md ops listed) : ∀ (p : List Nat), PathOk md ops listed i p → j ∉ p
  | [], _ => by simp
  | k :: r, h => by
    intro hm
    rcases List.mem_cons.1 hm with e | hm
    · subst e
      obtain ⟨_, oj, hoj, hall⟩ := mem_ready.1 hj
      obtain ⟨ok, hok, e, he, hb, hon⟩ := h.2.2.1
      rw [hoj] at hok
      injection hok with hok
      subst hok
      have h1 := hall e he hb
      rw [hon] at h1
      have h2 := PathOk.head hi r h.2.2.2
      generalize r.headD i = z at h1 h2
      rcases Nat.lt_or_ge z listed.size with h' | h'
      · simp [h'] at h1 h2; rw [h2] at h1; cases h1
      · simp [Array.getElem?_eq_none h'] at h2
    · exact PathOk.ready hi hj r h.2.2.2 hm
theorem PathOk.set {md : Region.Mode} {ops : Array Oper} {listed : Array Bool} {i j : Nat} : ∀ (p : List Nat), j ∉ p → PathOk md ops listed i p → PathOk md ops (listed.setIfInBounds j true) i p
  | [], _, _ => trivial
  | k :: r, hj, h => ⟨h.1, by rw [getD_set_ne true (fun e => hj (by simp [e]))]; exact h.2.1, h.2.2.1, PathOk.set r (fun hm => hj (by simp [hm])) h.2.2.2⟩
section
variable {P : Program} {ops : Array Oper} {Q : Exit → Act → World → Prop} {md : Region.Mode} {L : List (Nat × (World → Prop))}
theorem wpAnyL_firstP {i : Nat} {oi : Oper} {v : Value} {T : World → Prop} (k : Nat) (path : List Nat) (hm : (k, T) ∈ L) (hi : ops[i]? = some oi) (hsel : ∀ (j : Nat) (o : Oper) cs b, ops[j]? = some o → o.op ≠ .select cs b)
    (hQ : ∀ c a w, Q (.panic c) (a.put oi.dst v) w → Q (.panic c) a w) (hne : ∀ p, p ∈ L → p.1 ≠ i) :
    ∀ (fuel : Nat) (listed : Array Bool) (a : Act) (w : World),
      (∀ j oj, ops[j]? = some oj → j ≠ i → listed.getD j true = false → (∀ e ∈ oj.after, Region.binds md e = true → e.on ≠ i) → oi.apart ops oj = true) →
      i ∈ Region.ready md ops listed → PathOk md ops listed i (k :: path) → YieldsIf P ops T oi v a → HeldL L listed w →
      HeldL L (listed.setIfInBounds i true) w → wpAnyL P md ops Q L fuel (listed.setIfInBounds i true) (a.put oi.dst v) w → wpAnyL P md ops Q L (fuel + 1) listed a w := by
  intro fuel
  induction fuel with
  | zero =>
    intro listed a w _ hr hT hy hS hS' H
    refine ⟨fun h => (by rw [h] at hr; cases hr), fun j hj => ?_⟩
    by_cases hji : j = i
    · subst hji; exact hy.wpOp hi (hS (k, T) hm hT.2.1) ⟨hS', H⟩
    · have := ready_mono hj hji
      rw [H.1] at this
      cases this
  | succ fuel ih =>
    intro listed a w hfree hr hT hy hS hS' H
    refine ⟨fun h => (by rw [h] at hr; cases hr), fun j hj => ?_⟩
    by_cases hji : j = i
    · subst hji; exact hy.wpOp hi (hS (k, T) hm hT.2.1) ⟨hS', H⟩
    · have h1 := H.2 j (ready_mono hj hji)
      obtain ⟨hjun, oj, hoj, hall⟩ := mem_ready.1 hj
      have hiun : listed.getD i true = false := (mem_ready.1 hr).1
      have hnot : ∀ e ∈ oj.after, Region.binds md e = true → e.on ≠ i := fun e he hb heq => by
        have h1 := hall e he hb
        have h0 := (mem_ready.1 hr).1
        rw [heq] at h1
        rcases Nat.lt_or_ge i listed.size with h' | h'
        · simp [h'] at h0 h1; rw [h0] at h1; cases h1
        · simp [Array.getElem?_eq_none h'] at h1
      have h2 := wpOp_putIf hoj (hfree j oj hoj hji hjun hnot) (fun cs b => hsel i oi cs b hi) (fun cs b => hsel j oj cs b hoj) hQ hy h1
      have hfree' : ∀ k ok, ops[k]? = some ok → k ≠ i → (listed.setIfInBounds j true).getD k true = false →
          (∀ e ∈ ok.after, Region.binds md e = true → e.on ≠ i) → oi.apart ops ok = true := fun k ok hk hki hun hno => by
        refine hfree k ok hk hki ?_ hno
        by_cases hjk : j = k
        · subst hjk; exact hjun
        · rw [getD_set_ne true hjk] at hun; exact hun
      have hT' : PathOk md ops (listed.setIfInBounds j true) i (k :: path) := hT.set _ (hT.ready hiun hj)
      refine wpOp_mono (fun a' w' h3 => ?_) h2
      have hS2 : HeldL L ((listed.setIfInBounds j true).setIfInBounds i true) w' := by rw [Array.setIfInBounds_comm _ _ hji]; exact h3.2.1
      have hS1 : HeldL L (listed.setIfInBounds j true) w' := fun p hp hl => hS2 p hp (by rw [getD_set_ne true (Ne.symm (hne p hp))]; exact hl)
      refine ⟨hS1, ih (listed.setIfInBounds j true) a' w' hfree' (ready_mono hr (Ne.symm hji)) hT' h3.1 hS1 hS2 ?_⟩
      rw [Array.setIfInBounds_comm _ _ hji]
      exact h3.2.2
/-- Take number i first: a load, whose cell is as it was as long as number k waits; k waits for it through others. -/
theorem wpAnyL_takeP {i : Nat} (k : Nat) (path : List Nat) {oi : Oper} {v : Value} {fuel : Nat} {listed : Array Bool} {a : Act} {w : World} (T : World → Prop) (hi : ops[i]? = some oi)
    (hs : Region.noSelect ops = true) (hf : Region.free md ops listed i = true) (hr : (Region.ready md ops listed).contains i = true) (hne : L.all (fun p => p.1 != i) = true)
    (hp : pathB md ops listed i (k :: path) = true) (hm : (k, T) ∈ L)
    (hQ : ∀ c a w, Q (.panic c) (a.put oi.dst v) w → Q (.panic c) a w) (hy : YieldsIf P ops T oi v a) (hS : HeldL L listed w)
    (h : HeldL L (listed.setIfInBounds i true) w → wpAnyL P md ops Q L fuel (listed.setIfInBounds i true) (a.put oi.dst v) w) : wpAnyL P md ops Q L (fuel + 1) listed a w :=
  have hne' : ∀ p, p ∈ L → p.1 ≠ i := fun p hp e => by have := List.all_eq_true.1 hne p hp; simp [e] at this
  have hS' := hS.more hne'
  wpAnyL_firstP k path hm hi (Region.noSelect_spec hs) hQ hne' fuel listed a w (Region.free_spec hi hf) (by simpa using hr) (pathB_ok _ hp) hy hS hS' (h hS')
end

/-- One element appended, at a step of a region that draws: the element lies in a box B. -/
theorem step_app1 {P : Program} {ops : Array Oper} {o : Oper} {a : Act} {K : Act → World → Prop} {Q : Exit → Act → World → Prop} {E : Prop} {w : World} (t e : TypeId) (z : Value) (bytes : Nat)
    (ht : P.underlying t = some (.slice e)) (hinfo : (P.info? e).map (fun i => (i.zero, i.size, i.bytes)) = some (some z, 1, bytes)) (hz : z.cells.size = 1) (hb : bytes ≤ 64)
    (hgd : o.guard = none) (s x : Operand) (ho : o.op = .call { callee := .builtin .append, args := #[s, x], argTypes := #[t, t] })
    (base : Nat) (v : Value) (cs : List Value) (hs : a.eval s = v) (hown : Own w base e v cs) (hbase : base ≤ w.heap.size) (B : Nat) (c : Value) (hc1 : c.oneCell' = true) (hB : w.cell? ⟨B, 0, none⟩ = some c)
    (hx : a.eval x = .slice (some ⟨B, 0, none⟩) 1 1) (hlen : cs.length ≤ 1000000000)
    (h : ∀ g cap w', Own w' base e (.slice (some ⟨g, 0, none⟩) (cs.length + 1) cap) (cs ++ [c]) → Below base w w' → (∀ k, k < w.heap.size → v.ownBlock ≠ some k → w'.heap[k]? = w.heap[k]?) → (v.ownBlock = some g ∨ g = w.heap.size) →
      K (a.put o.dst (.slice (some ⟨g, 0, none⟩) (cs.length + 1) cap)) w') :
    if Region.wanted o (yielded ops a.tmps) = true then Oper.wp P o a w K Q else E := by
  obtain ⟨i, hi, hz0, hz1, hz2⟩ := info_parts hinfo
  have hw : Region.wanted o (yielded ops a.tmps) = true := by simp [Region.wanted, hgd]
  rw [if_pos hw]
  refine wp_append_lies w s x t ho base e i z 1 bytes ht hi hz0 hz1 hz2 hz (by omega) v cs.length cs hs hown ⟨B, 0, none⟩ 1 1 [c] hx rfl
    (fun j u hu => ?_) (fun u hu => by simp at hu; rw [hu]; exact hc1) (by omega) (by simp only [maxLen]; omega) (Nat.le_trans (Nat.mul_le_mul_left _ hb) (by omega)) hbase _ rfl ?_
  · cases j with
    | zero =>
      have hadd : (⟨B, 0, none⟩ : Addr).add 0 = ⟨B, 0, none⟩ := by simp [Addr.add]
      rw [hadd]
      simp at hu
      rw [← hu]
      exact hB
    | succ j => simp at hu
  · intro g cap w' h1 h2 h3 h4
    have hold : ∀ k, k < w.heap.size → v.ownBlock ≠ some k → w'.heap[k]? = w.heap[k]? := fun k hk hne => h2.block k hk (fun e => hne e.symm)
    have hlen' : (cs ++ [c]).length = cs.length + 1 := by simp
    exact h g cap w' (by unfold Own; rw [hlen']; exact h1) ⟨h2.os, h2.tape, h2.output, h2.size, fun k hk => hold k (by omega) (fun e => by have := (hown.lt k e).1; omega)⟩ hold h3
end Go.Proofs.Ythempofohidlnaa

/- The reference's l01Act: the word to which a state leads a word, by appends. -/
namespace Go.Proofs.Ythempofohidlnaa
open Go.RowKit
set_option linter.unusedVariables false
set_option linter.unusedSimpArgs false

/-- A word's bytes. -/
def wb (u : List Nat) : List Value := u.map fun x : Nat => .int .u8 (48 + (x : Int))
theorem wb_snoc (u : List Nat) (x : Nat) : wb (u ++ [x]) = wb u ++ [.int .u8 (48 + (x : Int))] := by simp [wb]
theorem wb_length (u : List Nat) : (wb u).length = u.length := by simp [wb]

set_option maxHeartbeats 1000000 in
set_option maxRecDepth 100000 in
theorem l01Act_any (w : World) (m : Mach) (l s : Nat) (g : Good m l s) (q : Nat) (hq : q < s) (u : List Nat) (hu : ∀ x ∈ u, x < l) (hlen : u.length ≤ 1000) :
    Calls Try.prog 110 #[.agg (mcells m), .int .i64 q, .string (wstr u)] w fun e w' =>
      e = .returned (.tuple #[.string (wstr (img m q u)), .int .i64 (sec m q u : Nat)]) ∧ Below w.heap.size w w' := by
  have hsz := wstr_size u
  have hbyte := hid (fun k hk => wstr_byte u k hk (fun x hx => by have := hu x hx; have := g.l3; omega))
  have hM := hid ((MB.new w m 34).alloc (.cells #[] 5))
  have hB := hid (below_alloc (below_alloc (Below.refl w.heap.size w) (Nat.le_refl _) (.cells (mcells m) 34)) (Nat.le_refl _) (.cells #[] 5))
  have hO := Own.new (w.alloc (.cells (mcells m) 34)) (w.heap.size + 1) 5 (by simp)
  rw [heap_alloc_size] at hO
  replace hO := hid hO
  have s16 := g.s16
  have l3 := g.l3
  replace g := hid g
  replace hu := hid hu
  generalize hws : wstr u = ws at *
  replace hws := hid hws
  go_enter Try.func110, Try.ntmps110
  go_wp2
  go_loopw [1, 8, 9] (fun p v i wr => ∃ k : Nat, k ≤ u.length ∧ i = .int .i64 k ∧ p = .int .i64 (sec m q (u.take k) : Nat) ∧ MB wr 34 w.heap.size m ∧ Own wr (w.heap.size + 1) 5 v (wb (img m q (u.take k))) ∧ Below w.heap.size w wr) (fun _ _ i _ => u.length - (intOf i).toNat)
  case atStart =>
    exact ⟨0, Nat.zero_le _, rfl, rfl, hM.out, hO.out, hB.out⟩
  case round =>
    obtain ⟨k, hk, rfl, rfl, r1, r2, rB⟩ := hrel
    clear hM hO hB
    replace r1 := hid r1; replace r2 := hid r2; replace rB := hid rB
    by_cases hlt : k < u.length
    · have hx := hu.out _ (getD_mem u k hlt)
      have hb := hbyte.out k (by omega)
      have htk := hid (take_snoc' u k hlt)
      have hq2 := sec_lt g.out (u.take k) q hq (fun x hx => hu.out x (List.mem_of_mem_take hx))
      have hsn := hid (sec_snoc m (u.getD k 0) (u.take k) q)
      have him := hid (img_snoc m (u.getD k 0) (u.take k) q)
      have hol := g.out.ot _ _ hq2 hx
      have hnl := g.out.nx _ _ hq2 hx
      have hil := hid (show (wb (img m q (u.take k))).length = k by rw [wb_length, img_length, List.length_take]; omega)
      have c1 := r1.out.cot (sec m q (u.take k)) (u.getD k 0) (by omega) (by omega)
      have c2 := hid (fun W (hW : MB W 34 w.heap.size m) => hW.cnx (sec m q (u.take k)) (u.getD k 0) (by omega) (by omega))
      have hlt1 := hid r1.out.lt
      generalize hqk : sec m q (u.take k) = qk at *
      generalize hxk : u.getD k 0 = x at *
      generalize hok : m.ot (qk * 3 + x) = ot at *
      generalize hnk : m.nx (qk * 3 + x) = nx at *
      generalize him0 : img m q (u.take k) = im at *
      replace hqk := hid hqk; replace hxk := hid hxk; replace hok := hid hok; replace hnk := hid hnk; replace him0 := hid him0
      have e1 : 48 + (x : Int) - 48 = x := by omega
      have e2 : (48 + (ot : Int)) % 256 = 48 + ot := by omega
      go_wp2_with (first
        | ((with_reducible refine gate (N := 31) rfl ?_); (refine app1 120 5 (.int .u8 0) 1 Try.underlying120 info_u8 rfl (by omega) rfl _ _ rfl (w.heap.size + 1) _ _ rfl r2.out hlt1.out _ rfl rfl (by have := hil.out; omega) ?_; intro gn cap w2 hO2 hb2 hold hsz2 _; have t1 := hid (show MB w2 34 w.heap.size m from World.rowIs.of_block r1.out (hold _ hlt1.out (fun e => by have := (r2.out.lt _ e).1; omega))); replace hO2 := hid hO2; have tB := hid (rB.out.trans (hb2.mono (Nat.le_succ _))); clear hb2 hold hsz2 c1 r1 r2 rB; have c1 := c2.out _ t1.out)))
      go_roundw
      case rel =>
        refine ⟨k + 1, by omega, by go_num, by rw [htk.out, hsn.out], t1.out, ?_, tB.out⟩
        rw [htk.out, him.out, wb_snoc]
        exact hO2.out
      case measure => simp [intOf]; omega
    · obtain rfl : k = u.length := by omega
      have htk : u.take u.length = u := List.take_length
      rw [htk] at r2
      have hconv := r2.out.conv
      rw [htk]
      clear htk
      go_wp2
      go_ret2
      exact ⟨rfl, rB.out⟩
end Go.Proofs.Ythempofohidlnaa
