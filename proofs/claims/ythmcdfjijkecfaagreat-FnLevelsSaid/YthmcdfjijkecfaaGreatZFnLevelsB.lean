/- What the proof of FnLevels leans on, part 2 of 19. -/
import Derived.Test.YthmcdfjijkecfaaGreatZFnLevelsA
import Derived.RegionTactic
import Derived.BigRegion
import Derived.StillTailTactics
import Derived.Deep.CutBlock
import Derived.Deep.RegionHeld3
import Derived.Deep.DeepCutAuto
import Derived.Laws.BytesArg
import Derived.OwnWalk
import Derived.Deep.AppendLies
import Derived.Laws.OwnMore
import Derived.Deep.RegionWith
import Derived.IntWalk
import Derived.Deep.MidRow
import Derived.BigQuiet
/- The inverse machine: what the program's inverse and the reference's l01Inverse both come to. -/
namespace Go.Proofs.YthmcdfjijkecfaaGreat
open Go.RowKit
set_option linter.unusedVariables false
set_option linter.unusedSimpArgs false

theorem heap_alloc_size (w : World) (o : Obj) : (w.alloc o).heap.size = w.heap.size + 1 := by simp

/-- One entry of the inverse. -/
def stepI (m : Mach) (q x : Nat) (o : Mach) : Mach :=
  { o with nx := upd o.nx (q * 3 + m.ot (q * 3 + x)) (m.nx (q * 3 + x)), ot := upd o.ot (q * 3 + m.ot (q * 3 + x)) x }
def rowI (m : Mach) (q : Nat) : Nat → Mach → Mach
  | 0, o => o
  | x + 1, o => stepI m q x (rowI m q x o)
def allI (m : Mach) (l : Nat) : Nat → Mach
  | 0 => ⟨m.L, m.S, fun _ => 0, fun _ => 0⟩
  | q + 1 => rowI m q l (allI m l q)
/-- The inverse machine of a machine with l letters and s states. -/
def inv (m : Mach) (l s : Nat) : Mach := allI m l s

theorem rowI_LS (m : Mach) (q : Nat) (o : Mach) : ∀ x, (rowI m q x o).L = o.L ∧ (rowI m q x o).S = o.S
  | 0 => ⟨rfl, rfl⟩
  | x + 1 => rowI_LS m q o x
theorem allI_LS (m : Mach) (l : Nat) : ∀ q, (allI m l q).L = m.L ∧ (allI m l q).S = m.S
  | 0 => ⟨rfl, rfl⟩
  | q + 1 => by
    have h := rowI_LS m q (allI m l q) l
    have k := allI_LS m l q
    exact ⟨h.1.trans k.1, h.2.trans k.2⟩

theorem rowI_out (m : Mach) (q : Nat) (o : Mach) (i : Nat) : ∀ x, (∀ y, y < x → i ≠ q * 3 + m.ot (q * 3 + y)) → (rowI m q x o).nx i = o.nx i ∧ (rowI m q x o).ot i = o.ot i
  | 0, _ => ⟨rfl, rfl⟩
  | x + 1, h => by
    obtain ⟨h1, h2⟩ := rowI_out m q o i x (fun y hy => h y (by omega))
    have hx := h x (by omega)
    unfold rowI stepI upd
    dsimp only
    rw [if_neg hx, if_neg hx]
    exact ⟨h1, h2⟩

theorem rowI_in (m : Mach) (q : Nat) (o : Mach) : ∀ x, (∀ y z, y < z → z < x → m.ot (q * 3 + y) ≠ m.ot (q * 3 + z)) → ∀ y, y < x →
    (rowI m q x o).nx (q * 3 + m.ot (q * 3 + y)) = m.nx (q * 3 + y) ∧ (rowI m q x o).ot (q * 3 + m.ot (q * 3 + y)) = y
  | 0, _, y, hy => absurd hy (by omega)
  | x + 1, h, y, hy => by
    unfold rowI stepI upd
    dsimp only
    by_cases e : y = x
    · subst e; rw [if_pos rfl, if_pos rfl]; exact ⟨rfl, rfl⟩
    · have hne := h y x (by omega) (by omega)
      rw [if_neg (by omega), if_neg (by omega)]
      exact rowI_in m q o x (fun a b hab hb => h a b hab (by omega)) y (by omega)

theorem allI_out (m : Mach) (l : Nat) (i : Nat) : ∀ s, (∀ q y, q < s → y < l → i ≠ q * 3 + m.ot (q * 3 + y)) → (allI m l s).nx i = 0 ∧ (allI m l s).ot i = 0
  | 0, _ => ⟨rfl, rfl⟩
  | s + 1, h => by
    have h1 := rowI_out m s (allI m l s) i l (fun y hy => h s y (by omega) hy)
    have h2 := allI_out m l i s (fun q y hq hy => h q y (by omega) hy)
    exact ⟨h1.1.trans h2.1, h1.2.trans h2.2⟩

theorem allI_in (m : Mach) (l : Nat) (hl : l ≤ 3) : ∀ s, (∀ q x, q < s → x < l → m.ot (q * 3 + x) < l) → (∀ q, q < s → ∀ y x, y < x → x < l → m.ot (q * 3 + y) ≠ m.ot (q * 3 + x)) →
    ∀ q y, q < s → y < l → (allI m l s).nx (q * 3 + m.ot (q * 3 + y)) = m.nx (q * 3 + y) ∧ (allI m l s).ot (q * 3 + m.ot (q * 3 + y)) = y
  | 0, _, _, q, y, hq, _ => absurd hq (by omega)
  | s + 1, hb, hi, q, y, hq, hy => by
    by_cases e : q = s
    · subst e
      exact rowI_in m q (allI m l q) l (fun a b hab hb => hi q (by omega) a b hab hb) y hy
    · have h1 := rowI_out m s (allI m l s) (q * 3 + m.ot (q * 3 + y)) l (fun z hz => by
        have := hb q y (by omega) hy
        have := hb s z (by omega) hz
        omega)
      have h2 := allI_in m l hl s (fun q x hq hx => hb q x (by omega) hx) (fun q hq => hi q (by omega)) q y (by omega) hy
      exact ⟨h1.1.trans h2.1, h1.2.trans h2.2⟩

/-- The inverse of a machine is a machine. -/
theorem inv_good {m : Mach} {l s : Nat} (g : Good m l s) : Good (inv m l s) l s := by
  have hin := allI_in m l g.l3 s g.ot g.inj
  have hsurj : ∀ q, q < s → ∀ k, k < l → ∃ y, y < l ∧ m.ot (q * 3 + y) = k := fun q hq => surj_of_inj (f := fun y => m.ot (q * 3 + y)) (fun y hy => g.ot q y hq hy) (fun y x hy hx => g.inj q hq y x hy hx)
  refine ⟨(allI_LS m l s).1.trans g.L, (allI_LS m l s).2.trans g.S, g.l2, g.l3, g.s1, g.s16, fun q x hq hx => ?_, fun q x hq hx => ?_, fun q hq y x hy hx e => ?_, fun q x hq hx hn => ?_⟩
  · obtain ⟨y, hy, rfl⟩ := hsurj q hq x hx
    show (allI m l s).nx _ < s
    rw [(hin q y hq hy).1]; exact g.nx q y hq hy
  · obtain ⟨y, hy, rfl⟩ := hsurj q hq x hx
    show (allI m l s).ot _ < l
    rw [(hin q y hq hy).2]; exact hy
  · obtain ⟨a, ha, ea⟩ := hsurj q hq x hx
    obtain ⟨b, hb, eb⟩ := hsurj q hq y (by omega)
    have h1 : (allI m l s).ot (q * 3 + x) = a := by rw [← ea]; exact (hin q a hq ha).2
    have h2 : (allI m l s).ot (q * 3 + y) = b := by rw [← eb]; exact (hin q b hq hb).2
    have e' : (allI m l s).ot (q * 3 + y) = (allI m l s).ot (q * 3 + x) := e
    rw [h1, h2] at e'
    rw [e', ea] at eb
    omega
  · have := allI_out m l (q * 3 + x) s (fun p y hp hy => by
      have h1 := g.ot p y hp hy
      have h3 := g.l3
      intro e
      have hpq : p = q := by omega
      subst hpq
      exact hn ⟨hp, by omega⟩)
    exact this

theorem inv_ok {m : Mach} {l s : Nat} (g : Good m l s) : (inv m l s).Ok := fun i => by
  have h := inv_good g
  have hin := allI_in m l g.l3 s g.ot g.inj
  by_cases hex : ∃ q y, q < s ∧ y < l ∧ i = q * 3 + m.ot (q * 3 + y)
  · obtain ⟨q, y, hq, hy, rfl⟩ := hex
    have h1 : (inv m l s).nx (q * 3 + m.ot (q * 3 + y)) = m.nx (q * 3 + y) := (hin q y hq hy).1
    have h2 : (inv m l s).ot (q * 3 + m.ot (q * 3 + y)) = y := (hin q y hq hy).2
    have := g.nx q y hq hy
    have := g.s16
    have := g.l3
    rw [h1, h2]; exact ⟨by omega, by omega⟩
  · have := allI_out m l i s (fun q y hq hy e => hex ⟨q, y, hq, hy, e⟩)
    have h1 : (inv m l s).nx i = 0 := this.1
    have h2 : (inv m l s).ot i = 0 := this.2
    rw [h1, h2]; exact ⟨by omega, by omega⟩

theorem storeCells_mach {w : World} {b t : Nat} {f : Nat → Value} (hrow : w.rowIs b t 98 f) (m : Mach) :
    ∃ W1, (storeCells ⟨b, 0, none⟩ (mcells m).toList).run Tryz.prog w = .ok () W1 ∧ MB W1 t b m ∧ (∀ k, k ≠ b → W1.heap[k]? = w.heap[k]?) ∧ W1.heap.size = w.heap.size ∧ (∀ (B : Nat) (a : World), B ≤ b → Below B a w → Below B a W1) := by
  have ht := rowIs_there hrow 0 98 (by omega)
  have hl : (mcells m).toList.length = 98 := by simp [size_mcells]
  have := run_storeCells_cells (P := Tryz.prog) b 0 (mcells m).toList 0 w (fun j hj => by simpa using (ht j (by omega)).1) (fun j hj => by simpa using (ht j (by omega)).2)
    (fun v hv => (Array.all_eq_true_iff_forall_mem.1 (one_mach m)) v (by simpa using hv))
  exact ⟨_, this, World.rowIs.congr (rowIs_setCells _ _ _ _ hrow) fun i hi => put_all _ _ _ _ hi, fun k hk => block_setCells hk _ _ _, heap_setCells _ _ _, fun B a hB hb => below_setCells hB _ _ hb⟩

set_option maxHeartbeats 2000000 in
set_option maxRecDepth 100000 in
theorem l01Inverse_any (w : World) (m : Mach) (l s : Nat) (g : Good m l s) (hk : m.Ok) :
    Calls Tryz.prog 137 #[.agg (mcells m)] w fun e w' => e = .returned (.agg (mcells (inv m l s))) ∧ Below w.heap.size w w' := by
  have cL := mcells_L m
  have cS := mcells_S m
  have hz := zero_mach
  have l2 := g.l2; have l3 := g.l3; have s1 := g.s1; have s16 := g.s16
  have gL := hid g.L
  have gS := hid g.S
  have h1 := hid (MB.new w m 27)
  have h0 := hid (fun w' : World => MB.new w' ⟨0, 0, fun _ => 0, fun _ => 0⟩ 27)
  have hB := hid (below_alloc (below_alloc (below_alloc (Below.refl w.heap.size w) (Nat.le_refl _) (.cells (mcells m) 27)) (Nat.le_refl _) (.cells (mcells ⟨0, 0, fun _ => 0, fun _ => 0⟩) 27)) (Nat.le_refl _) (.cells (mcells ⟨0, 0, fun _ => 0, fun _ => 0⟩) 27))
  replace g := hid g
  replace hk := hid hk
  generalize mcells ⟨0, 0, fun _ => 0, fun _ => 0⟩ = zs at *
  go_enter Tryz.func137, Tryz.ntmps137
  go_wp2_with (first
    | ((with_reducible refine gate (N := 11) rfl ?_); refine build_mach rfl _ _ rfl m.L m.S rfl rfl ?_)
    | ((with_reducible refine gateOp (op := .store 27 (.tmp 3) (.tmp 11)) rfl ?_); have q3 := hid (h0.out ((w.alloc (.cells (mcells m) 27)).alloc (.cells zs 27))); have q2 := hid ((h0.out (w.alloc (.cells (mcells m) 27))).alloc (.cells zs 27)); have q1 := hid ((h1.out.alloc (.cells zs 27)).alloc (.cells zs 27)); clear h0 h1 hz; rw [heap_alloc_size, heap_alloc_size] at q3; rw [heap_alloc_size] at q2; generalize ((w.alloc (.cells (mcells m) 27)).alloc (.cells zs 27)).alloc (.cells zs 27) = W0 at *; refine store_mach rfl _ _ rfl (w.heap.size + 1 + 1) rfl ⟨m.L, m.S, fun _ => 0, fun _ => 0⟩ rfl 27 _ q3.out ?_; intro W1 p3 ho hsz hbl; have p1 := hid (World.rowIs.of_block q1.out (ho _ (by omega))); have p2 := hid (World.rowIs.of_block q2.out (ho _ (by omega))); have pB := hid (hbl _ _ (by omega) hB.out); replace p3 := hid p3; clear ho hsz hbl q1 q2 q3 hB))
  clear cL cS
  go_loopw [4] (fun i wr => ∃ q : Nat, q ≤ s ∧ i = .int .i64 q ∧ MB wr 27 w.heap.size m ∧ MB wr 27 (w.heap.size + 1) ⟨0, 0, fun _ => 0, fun _ => 0⟩ ∧ MB wr 27 (w.heap.size + 1 + 1) (allI m l q) ∧ Below w.heap.size w wr) (fun i _ => s - (intOf i).toNat)
  case atStart => exact ⟨0, by omega, rfl, p1.out, p2.out, p3.out, pB.out⟩
  case round =>
    obtain ⟨q, hq, rfl, r1, r2, r3, rB⟩ := hrel
    clear p1 p2 p3 pB
    have cL := r1.cL
    have cS := r1.cS
    rw [gL.out] at cL
    rw [gS.out] at cS
    replace r1 := hid r1; replace r2 := hid r2; replace r3 := hid r3; replace rB := hid rB
    by_cases hlq : q < s
    · have dq : decide ((q : Int) < (s : Int)) = true := decide_eq_true (by omega)
      obtain ⟨wo, rfl⟩ : ∃ wo : World, wo = wr := ⟨_, rfl⟩
      go_wp2
      clear cL cS
      go_loopw [5] (fun i wr => ∃ x : Nat, x ≤ l ∧ i = .int .i64 x ∧ MB wr 27 w.heap.size m ∧ MB wr 27 (w.heap.size + 1) ⟨0, 0, fun _ => 0, fun _ => 0⟩ ∧ MB wr 27 (w.heap.size + 1 + 1) (rowI m q x (allI m l q)) ∧ Below w.heap.size w wr) (fun i _ => l - (intOf i).toNat)
      case atStart => exact ⟨0, by omega, rfl, r1.out, r2.out, r3.out, rB.out⟩
      case round =>
        obtain ⟨x, hx, rfl, t1, t2, t3, tB⟩ := hrel
        have cL := t1.cL
        have cS := t1.cS
        rw [gL.out] at cL
        rw [gS.out] at cS
        replace t1 := hid t1; replace t2 := hid t2; replace t3 := hid t3; replace tB := hid tB
        by_cases hlx : x < l
        · have dx : decide ((x : Int) < (l : Int)) = true := decide_eq_true (by omega)
          have h2 := t1.out.cot q x (by omega) (by omega)
          have hn := g.out.nx q x hlq hlx
          have ho := g.out.ot q x hlq hlx
          have hstep := hid (show rowI m q (x + 1) (allI m l q) = stepI m q x (rowI m q x (allI m l q)) from rfl)
          have hst2 := hid (show stepI m q x (rowI m q x (allI m l q)) = { rowI m q x (allI m l q) with nx := upd (rowI m q x (allI m l q)).nx (q * 3 + m.ot (q * 3 + x)) (m.nx (q * 3 + x)), ot := upd (rowI m q x (allI m l q)).ot (q * 3 + m.ot (q * 3 + x)) x } from rfl)
          have h1c := hid (fun W (hW : MB W 27 w.heap.size m) => hW.cnx q x (by omega) (by omega))
          generalize hnx : m.nx (q * 3 + x) = nx at *
          generalize hot : m.ot (q * 3 + x) = ot at *
          replace hnx := hid hnx; replace hot := hid hot
          obtain ⟨vo, co⟩ : ∃ u, wr.cell? ⟨w.heap.size + 1 + 1, 50 + q * 3 + ot, none⟩ = some u := ⟨_, t3.out.cot q ot (by omega) (by omega)⟩
          have fo : wr.frozen? ⟨w.heap.size + 1 + 1, 50 + q * 3 + ot, none⟩ = false := World.rowIs.frozen t3.out _
          have xm : ((x : Int) % 256) = x := by omega
          go_upto_region 10 with (fail)
          have y1 := hid (t1.out.setOther (a := ⟨w.heap.size + 1 + 1, 50 + q * 3 + ot, none⟩) (by simp; omega) (.int .u8 (x : Nat)))
          have y2 := hid (t2.out.setOther (a := ⟨w.heap.size + 1 + 1, 50 + q * 3 + ot, none⟩) (by simp) (.int .u8 (x : Nat)))
          have y3 := hid (t3.out.setOt q ot x (by omega) (by omega))
          have yB := hid (tB.out.setCell (p := ⟨w.heap.size + 1 + 1, 50 + q * 3 + ot, none⟩) (by simp; omega) (.int .u8 (x : Nat)))
          clear t1 t2 t3 tB cL cS h2 co fo
          generalize wr.setCell ⟨w.heap.size + 1 + 1, 50 + q * 3 + ot, none⟩ (.int .u8 (x : Nat)) = W2 at *
          have h1 := h1c.out W2 y1.out
          obtain ⟨vo, co⟩ : ∃ u, W2.cell? ⟨w.heap.size + 1 + 1, 2 + q * 3 + ot, none⟩ = some u := ⟨_, y3.out.cnx q ot (by omega) (by omega)⟩
          have fo : W2.frozen? ⟨w.heap.size + 1 + 1, 2 + q * 3 + ot, none⟩ = false := World.rowIs.frozen y3.out _
          go_region
          go_wp2
          go_roundw
          case rel =>
            refine ⟨x + 1, by omega, by go_num, (y1.out.setOther (by simp; omega) _).drew, (y2.out.setOther (by simp) _).drew, ?_, (yB.out.setCell (by simp; omega) _).drew⟩
            have := (y3.out.setNx q ot nx (by omega) (by omega)).drew
            rw [hstep.out, hst2.out]
            exact this
          case measure => simp [intOf]; omega
        · obtain rfl : x = l := by omega
          go_wp2
          go_roundw
          case rel => exact ⟨q + 1, by omega, by go_num, t1.out, t2.out, t3.out, tB.out⟩
          case measure => simp [intOf]; omega
    · obtain rfl : q = s := by omega
      go_wp2_with (first
        | ((with_reducible refine gate (N := 48) rfl ?_); refine load_mach rfl _ rfl (w.heap.size + 1 + 1) rfl _ r3.out ?_)
        | ((with_reducible refine gateOp (op := .store 27 (.tmp 2) (.tmp 48)) rfl ?_); refine store_mach rfl _ _ rfl (w.heap.size + 1) rfl _ rfl 27 _ r2.out ?_; intro W3 p2 ho hsz hbl; have pB := hid (hbl _ _ (by omega) rB.out); replace p2 := hid p2; clear ho hsz hbl))
      exact ret_mach rfl rfl p2.out rfl ⟨rfl, pB.out⟩

set_option maxHeartbeats 2000000 in
set_option maxRecDepth 100000 in
theorem inverse_any (b : Nat) (w : World) (m : Mach) (hm : MB w 27 b m) (l s : Nat) (g : Good m l s) (hk : m.Ok) :
    Calls Tryz.prog 98 #[.pointer (some ⟨b, 0, none⟩)] w fun e w' => e = .returned (.agg (mcells (inv m l s))) ∧ Below w.heap.size w w' := by
  have hz := zero_mach
  have l2 := g.l2; have l3 := g.l3; have s1 := g.s1; have s16 := g.s16
  have gL := hid g.L
  have gS := hid g.S
  have h0 := hid (fun w' : World => MB.new w' ⟨0, 0, fun _ => 0, fun _ => 0⟩ 27)
  have hblt := hm.lt
  replace hm := hid hm
  replace g := hid g
  replace hk := hid hk
  have hset := set_LS ⟨(l : Int), (s : Int), m.nx, m.ot⟩
  have hzsz := size_mcells ⟨0, 0, fun _ => 0, fun _ => 0⟩
  generalize hls : mcells ⟨(l : Int), (s : Int), fun _ => 0, fun _ => 0⟩ = ls at *
  replace hls := hid hls
  generalize mcells ⟨0, 0, fun _ => 0, fun _ => 0⟩ = zs at *
  have hzne : ¬ zs = #[] := fun e => by rw [e] at hzsz; simp at hzsz
  go_enter Tryz.func98, Tryz.ntmps98
  go_upto_region 1 with (fail)
  have p2 := hid (h0.out w)
  have q1 := hid (hm.out.alloc (.cells zs 27))
  have hB := hid (below_alloc (Below.refl w.heap.size w) (Nat.le_refl _) (.cells zs 27))
  have p3 := hid (h0.out (w.alloc (.cells zs 27)))
  have p2b := hid (p2.out.alloc (.cells zs 27))
  have q1b := hid (q1.out.alloc (.cells zs 27))
  have hBb := hid (below_alloc hB.out (Nat.le_refl _) (.cells zs 27))
  rw [heap_alloc_size] at p3
  have cL := q1.out.cL
  have cS := q1.out.cS
  rw [gL.out] at cL
  rw [gS.out] at cS
  obtain ⟨W1, hrun, r3, ho, hsz, hbl⟩ := storeCells_mach p3.out.drew ⟨(l : Int), (s : Int), fun _ => 0, fun _ => 0⟩
  rw [hls.out] at hrun
  have hlsz : ls.size = 98 := by rw [← hls.out]; exact size_mcells _
  have r2 := hid (show MB W1 27 w.heap.size ⟨0, 0, fun _ => 0, fun _ => 0⟩ from World.rowIs.of_block p2b.out.drew (ho _ (by omega)))
  have r1 := hid (show MB W1 27 b m from World.rowIs.of_block q1b.out.drew (ho _ (by omega)))
  have rB := hid (hbl _ _ (by omega) hBb.out.drew)
  replace r3 := hid (show MB W1 27 (w.heap.size + 1) (allI m l 0) by unfold allI; rw [gL.out, gS.out]; exact r3)
  clear ho hsz hbl p2 p2b q1b hB hBb p3
  go_region_held3 (fun w' => w'.cell? ⟨b, 0, none⟩ = some (.int .i64 (l : Int)) ∧ w'.cell? ⟨b, 1, none⟩ = some (.int .i64 (s : Int)))
    (first
      | go_keep
      | exact ⟨by rw [← gL.out]; exact r1.out.cL, by rw [← gS.out]; exact r1.out.cS⟩)
    (fail)
  clear cL cS hrun
  have cL := r1.out.cL
  have cS := r1.out.cS
  rw [gL.out] at cL
  rw [gS.out] at cS
  go_wp2
  clear cL cS
  go_loopw [20] (fun i wr => ∃ q : Nat, q ≤ s ∧ i = .int .i64 q ∧ MB wr 27 b m ∧ MB wr 27 w.heap.size ⟨0, 0, fun _ => 0, fun _ => 0⟩ ∧ MB wr 27 (w.heap.size + 1) (allI m l q) ∧ Below w.heap.size w wr) (fun i _ => s - (intOf i).toNat)
  case atStart => exact ⟨0, by omega, rfl, r1.out, r2.out, r3.out, rB.out⟩
  case round =>
    obtain ⟨q, hq, rfl, r1, r2, r3, rB⟩ := hrel
    have cL := r1.cL
    have cS := r1.cS
    rw [gL.out] at cL
    rw [gS.out] at cS
    replace r1 := hid r1; replace r2 := hid r2; replace r3 := hid r3; replace rB := hid rB
    by_cases hlq : q < s
    · have dq : decide ((q : Int) < (s : Int)) = true := decide_eq_true (by omega)
      obtain ⟨wo, rfl⟩ : ∃ wo : World, wo = wr := ⟨_, rfl⟩
      go_wp2
      clear cL cS
      go_loopw [27] (fun i wr => ∃ x : Nat, x ≤ l ∧ i = .int .i64 x ∧ MB wr 27 b m ∧ MB wr 27 w.heap.size ⟨0, 0, fun _ => 0, fun _ => 0⟩ ∧ MB wr 27 (w.heap.size + 1) (rowI m q x (allI m l q)) ∧ Below w.heap.size w wr) (fun i _ => l - (intOf i).toNat)
      case atStart => exact ⟨0, by omega, rfl, r1.out, r2.out, r3.out, rB.out⟩
      case round =>
        obtain ⟨x, hx, rfl, t1, t2, t3, tB⟩ := hrel
        replace t1 := hid t1; replace t2 := hid t2; replace t3 := hid t3; replace tB := hid tB
        by_cases hlx : x < l
        · have dx : decide ((x : Int) < (l : Int)) = true := decide_eq_true (by omega)
          have hn := g.out.nx q x hlq hlx
          have ho := g.out.ot q x hlq hlx
          have h1 := t1.out.cnx q x (by omega) (by omega)
          have hstep := hid (show rowI m q (x + 1) (allI m l q) = stepI m q x (rowI m q x (allI m l q)) from rfl)
          have hst2 := hid (show stepI m q x (rowI m q x (allI m l q)) = { rowI m q x (allI m l q) with nx := upd (rowI m q x (allI m l q)).nx (q * 3 + m.ot (q * 3 + x)) (m.nx (q * 3 + x)), ot := upd (rowI m q x (allI m l q)).ot (q * 3 + m.ot (q * 3 + x)) x } from rfl)
          have hcall := hid (fun W (hW : MB W 27 b m) => out_any b W m hW q x (by omega) (by omega) (by omega))
          generalize m.nx (q * 3 + x) = nx at *
          generalize m.ot (q * 3 + x) = ot at *
          obtain ⟨vo, co⟩ : ∃ u, wr.cell? ⟨w.heap.size + 1, 50 + q * 3 + ot, none⟩ = some u := ⟨_, t3.out.cot q ot (by omega) (by omega)⟩
          have fo : wr.frozen? ⟨w.heap.size + 1, 50 + q * 3 + ot, none⟩ = false := World.rowIs.frozen t3.out _
          obtain ⟨vn, cn⟩ : ∃ u, wr.cell? ⟨w.heap.size + 1, 2 + q * 3 + ot, none⟩ = some u := ⟨_, t3.out.cnx q ot (by omega) (by omega)⟩
          have fn : wr.frozen? ⟨w.heap.size + 1, 2 + q * 3 + ot, none⟩ = false := World.rowIs.frozen t3.out _
          have xm : ((x : Int) % 256) = x := by omega
          go_wp2_with (go_at_call 176; refine (hcall.out _ t1.out).mono ?_; rintro e w' ⟨rfl, rfl⟩)
          go_region
          go_wp2
          go_roundw
          case rel =>
            have y3 := ((t3.out.setOt q ot x (by omega) (by omega)).setNx q ot nx (by omega) (by omega)).drew
            have hbl := t1.out.lt
            exact ⟨x + 1, by omega, by go_num, ((t1.out.setOther (by simp; omega) _).setOther (by simp; omega) _).drew, ((t2.out.setOther (by simp) _).setOther (by simp) _).drew, by rw [hstep.out, hst2.out]; exact y3, ((tB.out.setCell (by simp) _).setCell (by simp) _).drew⟩
          case measure => simp [intOf]; omega
        · obtain rfl : x = l := by omega
          go_wp2
          go_roundw
          case rel => exact ⟨q + 1, by omega, by go_num, t1.out, t2.out, t3.out, tB.out⟩
          case measure => simp [intOf]; omega
    · obtain rfl : q = s := by omega
      go_wp2_with (first
        | ((with_reducible refine gate (N := 56) rfl ?_); refine load_mach rfl _ rfl (w.heap.size + 1) rfl _ r3.out ?_)
        | ((with_reducible refine gateOp (op := .store 27 (.tmp 2) (.tmp 56)) rfl ?_); refine store_mach rfl _ _ rfl w.heap.size rfl _ rfl 27 _ r2.out ?_; intro W3 p2 ho hsz hbl; have pB := hid (hbl _ _ (Nat.le_refl _) rB.out); replace p2 := hid p2; clear ho hsz hbl))
      exact ret_mach rfl rfl p2.out rfl ⟨rfl, pB.out⟩
end Go.Proofs.YthmcdfjijkecfaaGreat

/- Words as lists of letters; what states make of them: lead and l01Act. -/
namespace Go.Proofs.YthmcdfjijkecfaaGreat
open Go.RowKit
set_option linter.unusedVariables false
set_option linter.unusedSimpArgs false

/-- The text of a word. -/
def wstr (u : List Nat) : ByteArray := strOfNums (u.map fun x : Nat => 48 + (x : Int))
theorem wstr_size (u : List Nat) : (wstr u).size = u.length := by simp [wstr, strOfNums_size]
theorem wstr_byte (u : List Nat) (k : Nat) (hk : k < (wstr u).size) (hu : ∀ x ∈ u, x < 200) : ((wstr u)[k]'hk).toNat = 48 + u.getD k 0 := by
  have hk' : k < u.length := by rwa [wstr_size] at hk
  have hb : u[k] < 200 := hu _ (List.getElem_mem hk')
  have : (wstr u)[k]'hk = UInt8.ofNat ((48 + (u[k] : Int)).toNat) := by
    show (wstr u).data[k]'_ = _
    simp [wstr, strOfNums]
  rw [this, List.getD_eq_getElem?_getD, List.getElem?_eq_getElem hk', Option.getD_some, UInt8.toNat_ofNat']
  omega

/-- What a state puts out for a word, and where it ends. -/
def img (m : Mach) : Nat → List Nat → List Nat
  | _, [] => []
  | q, x :: u => m.ot (q * 3 + x) :: img m (m.nx (q * 3 + x)) u
def sec (m : Mach) : Nat → List Nat → Nat
  | q, [] => q
  | q, x :: u => sec m (m.nx (q * 3 + x)) u
theorem img_length (m : Mach) : ∀ (u : List Nat) (q : Nat), (img m q u).length = u.length
  | [], _ => rfl
  | x :: u, q => by simp [img, img_length m u]
theorem sec_snoc (m : Mach) (x : Nat) : ∀ (u : List Nat) (q : Nat), sec m q (u ++ [x]) = m.nx (sec m q u * 3 + x)
  | [], _ => rfl
  | y :: u, q => by simp [sec, sec_snoc m x u]
theorem img_snoc (m : Mach) (x : Nat) : ∀ (u : List Nat) (q : Nat), img m q (u ++ [x]) = img m q u ++ [m.ot (sec m q u * 3 + x)]
  | [], _ => rfl
  | y :: u, q => by simp [img, sec, img_snoc m x u]
theorem sec_lt {m : Mach} {l s : Nat} (g : Good m l s) : ∀ (u : List Nat) (q : Nat), q < s → (∀ x ∈ u, x < l) → sec m q u < s
  | [], q, hq, _ => hq
  | x :: u, q, hq, hu => sec_lt g u _ (g.nx q x hq (hu x (by simp))) (fun y hy => hu y (by simp [hy]))
theorem img_lt {m : Mach} {l s : Nat} (g : Good m l s) : ∀ (u : List Nat) (q : Nat), q < s → (∀ x ∈ u, x < l) → ∀ y ∈ img m q u, y < l
  | [], q, _, _, y, hy => by simp [img] at hy
  | x :: u, q, hq, hu, y, hy => by
    simp only [img, List.mem_cons] at hy
    rcases hy with rfl | hy
    · exact g.ot q x hq (hu x (by simp))
    · exact img_lt g u _ (g.nx q x hq (hu x (by simp))) (fun z hz => hu z (by simp [hz])) y hy
theorem take_snoc' (u : List Nat) (k : Nat) (h : k < u.length) : u.take (k + 1) = u.take k ++ [u.getD k 0] := by
  rw [List.take_succ_eq_append_getElem h, List.getD_eq_getElem?_getD, List.getElem?_eq_getElem h]; rfl
theorem getD_mem (u : List Nat) (k : Nat) (h : k < u.length) : u.getD k 0 ∈ u := by
  rw [List.getD_eq_getElem?_getD, List.getElem?_eq_getElem h]; exact List.getElem_mem h

theorem info_u8 : (Tryz.prog.info? 5).map (fun i => (i.zero, i.size, i.bytes)) = some (some (.int .u8 0), 1, 1) := by kernel_rfl

/-- The digits of a list, by their places; 0 from the place k on. -/
def dgs (u : List Nat) (i : Nat) : Value := .int .u8 (if i < u.length then 48 + u.getD i 0 else 0 : Nat)

theorem dgs_snoc (im : List Nat) (ot j : Nat) : (if j = im.length then Value.int .u8 (48 + (ot : Int)) else dgs im j) = dgs (im ++ [ot]) j := by
  unfold dgs
  by_cases h : j = im.length
  · subst h
    rw [if_pos rfl, if_pos (by simp)]
    simp
  · rw [if_neg h]
    by_cases h2 : j < im.length
    · rw [if_pos h2, if_pos (by simp; omega)]
      simp [List.getD_eq_getElem?_getD, List.getElem?_append_left h2]
    · rw [if_neg h2, if_neg (by simp; omega)]

/-- A row of digits read as a text. -/
theorem conv_dgs {w : World} {b n t : Nat} {u : List Nat} (hn : u.length = n) (h : w.rowIs b t n (dgs u)) : (convert 22 9 (.slice (some ⟨b, 0, none⟩) n n)).run Tryz.prog w = .ok (.string (wstr u)) w := by
  refine run_convert_bytes_arg w 22 5 Tryz.underlying22 Tryz.underlying5 b 0 n n (u.map fun x : Nat => 48 + (x : Int)) (by simpa using hn) (fun i hi => ?_) 9 Tryz.underlying9
  rw [Nat.zero_add, World.rowIs.cell h hi]
  unfold dgs
  have hi' : i < u.length := by omega
  rw [if_pos hi']
  simp [List.getD_eq_getElem?_getD, List.getElem?_eq_getElem hi']

set_option maxHeartbeats 1000000 in
set_option maxRecDepth 100000 in
theorem lead_any (b : Nat) (w : World) (m : Mach) (hm : MB w 27 b m) (l s : Nat) (g : Good m l s) (q : Nat) (hq : q < s) (u : List Nat) (hu : ∀ x ∈ u, x < l) (hlen : u.length ≤ 1000) :
    Calls Tryz.prog 90 #[.pointer (some ⟨b, 0, none⟩), .int .i64 q, .string (wstr u)] w fun e w' =>
      e = .returned (.tuple #[.string (wstr (img m q u)), .int .i64 (sec m q u : Nat)]) ∧ Below w.heap.size w w' := by
  have hsz := wstr_size u
  have hmk := fun W : World => run_make_row' (P := Tryz.prog) 22 5 (.int .u8 0) 1 Tryz.underlying22 info_u8 rfl .i64 .i64 u.length (by omega) (by omega) W
  have hbyte := hid (fun k hk => wstr_byte u k hk (fun x hx => by have := hu x hx; have := g.l3; omega))
  have hmade := hid (World.rowIs_made w (.int .u8 0) u.length 5)
  have hB := hid (below_alloc (Below.refl w.heap.size w) (Nat.le_refl _) (.cells (madeCells #[.int .u8 0] u.length) 5))
  have hM := hid (hm.alloc (.cells (madeCells #[.int .u8 0] u.length) 5))
  have hblt := hid hm.lt
  have s16 := g.s16
  have l3 := g.l3
  replace g := hid g
  replace hu := hid hu
  clear hm
  generalize hws : wstr u = ws at *
  generalize hmc : madeCells #[.int .u8 0] u.length = mc at *
  replace hws := hid hws
  clear hmc
  go_enter Tryz.func90, Tryz.ntmps90
  go_wp2
  clear hmk
  go_loopw [1, 16] (fun p i wr => ∃ k : Nat, k ≤ u.length ∧ i = .int .i64 k ∧ p = .int .i64 (sec m q (u.take k) : Nat) ∧ MB wr 27 b m ∧ wr.rowIs w.heap.size 5 u.length (dgs (img m q (u.take k))) ∧ Below w.heap.size w wr) (fun _ i _ => u.length - (intOf i).toNat)
  case atStart =>
    refine ⟨0, Nat.zero_le _, rfl, rfl, hM.out, World.rowIs.congr hmade.out (fun i hi => ?_), hB.out⟩
    unfold dgs
    simp [img]
  case round =>
    obtain ⟨k, hk, rfl, rfl, r1, r2, rB⟩ := hrel
    clear hM hmade hB
    replace r1 := hid r1; replace r2 := hid r2; replace rB := hid rB
    by_cases hlt : k < u.length
    · have hx := hu.out _ (getD_mem u k hlt)
      have hb := hbyte.out k (by omega)
      have htk := hid (take_snoc' u k hlt)
      have hq2 := sec_lt g.out (u.take k) q hq (fun x hx => hu.out x (List.mem_of_mem_take hx))
      have hsn := hid (sec_snoc m (u.getD k 0) (u.take k) q)
      have him := hid (img_snoc m (u.getD k 0) (u.take k) q)
      have hol := g.out.ot _ _ hq2 hx
      have hnl := g.out.nx _ _ hq2 hx
      have hout := hid (fun W hW => out_any b W m hW (sec m q (u.take k)) (u.getD k 0) (by omega) (by omega) (by omega))
      have hnext := hid (fun W hW => next_any b W m hW (sec m q (u.take k)) (u.getD k 0) (by omega) (by omega) (by omega))
      have hil := hid (show (img m q (u.take k)).length = k by rw [img_length, List.length_take]; omega)
      obtain ⟨vo, co⟩ : ∃ v, wr.cell? ⟨w.heap.size, k, none⟩ = some v := ⟨_, r2.out.cell hlt⟩
      have fo : wr.frozen? ⟨w.heap.size, k, none⟩ = false := r2.out.frozen k
      generalize hqk : sec m q (u.take k) = qk at *
      generalize hxk : u.getD k 0 = x at *
      generalize hok : m.ot (qk * 3 + x) = ot at *
      generalize hnk : m.nx (qk * 3 + x) = nx at *
      generalize him0 : img m q (u.take k) = im at *
      replace hqk := hid hqk; replace hxk := hid hxk; replace hok := hid hok; replace hnk := hid hnk; replace him0 := hid him0
      have e1 : 48 + (x : Int) - 48 = x := by omega
      go_wp2_with (first
        | (go_at_call 176; (with_reducible refine (hout.out _ r1.out).mono ?_); rintro e w1 ⟨rfl, rfl⟩)
        | (go_at_call 183; (with_reducible refine (letter_any ot (by omega) _).mono ?_); rintro e w1 ⟨rfl, rfl⟩)
        | (go_at_call 177; (with_reducible refine (hnext.out _ (r1.out.setOther (by have := hblt.out; simp; omega) _)).mono ?_); rintro e w1 ⟨rfl, rfl⟩))
      go_roundw
      case rel =>
        refine ⟨k + 1, by omega, by go_num, by rw [htk.out, hsn.out], r1.out.setOther (by have := hblt.out; simp; omega) _, ?_, rB.out.setCell (by simp) _⟩
        rw [htk.out, him.out]
        refine World.rowIs.congr (World.rowIs.set r2.out k _) (fun i hi => ?_)
        have := dgs_snoc im ot i
        rw [hil.out] at this
        exact this
      case measure => simp [intOf]; omega
    · obtain rfl : k = u.length := by omega
      have htk : u.take u.length = u := List.take_length
      rw [htk] at r2
      have hconv := conv_dgs (img_length m u q) r2.out
      rw [htk]
      clear htk
      go_wp2
      go_ret2
      exact ⟨rfl, rB.out⟩
end Go.Proofs.YthmcdfjijkecfaaGreat

/- Slices of one-cell elements that a function made itself: what they hold, how they grow, what keeps them. -/
namespace Go.Proofs.YthmcdfjijkecfaaGreat
open Go.RowKit
set_option linter.unusedVariables false
set_option linter.unusedSimpArgs false

/-- The slice value v holds just the cells cs, in a block of its own from 'base' on. -/
def Own (w : World) (base e : Nat) (v : Value) (cs : List Value) : Prop := w.ownsRow base e 1 v cs.length cs

section
variable {w w' : World} {base e : Nat} {v : Value} {cs : List Value}
theorem Own.nil (w : World) (base e : Nat) : Own w base e (.slice none 0 0) [] := World.ownsRow_nil w base e 1
theorem Own.lit (w : World) (base e : Nat) (cs : List Value) (hb : base ≤ w.heap.size) (hm : cs.length ≤ 1000000) :
    Own (w.alloc (.cells cs.toArray e)) base e (.slice (some ⟨w.heap.size, 0, none⟩) cs.length cs.length) cs := by
  have := World.ownsRow_lit (base := base) (e := e) (size := 1) w cs.toArray cs.length hb (by simp only [maxLen]; omega) (by simp)
  simpa [Own] using this
theorem Own.new (w : World) (base e : Nat) (hb : base ≤ w.heap.size) : Own (w.alloc (.cells #[] e)) base e (.slice (some ⟨w.heap.size, 0, none⟩) 0 0) [] := Own.lit w base e [] hb (by simp)
theorem Own.made (w : World) (base e : Nat) (z : Value) (n : Nat) (hb : base ≤ w.heap.size) (hm : n ≤ 1000000) :
    Own (w.alloc (.cells (madeCells #[z] n) e)) base e (.slice (some ⟨w.heap.size, 0, none⟩) n n) (List.replicate n z) := by
  have hs : (madeCells #[z] n).toList = List.replicate n z := toList_madeCells_one z n
  have hsz : (madeCells #[z] n).size = n := by rw [← Array.length_toList, hs, List.length_replicate]
  have := World.ownsRow_lit (base := base) (e := e) (size := 1) w (madeCells #[z] n) n hb (by simp only [maxLen]; omega) (by rw [hsz, Nat.mul_one])
  unfold Own
  rw [List.length_replicate, ← hs]
  exact this
theorem Own.keep (h : Own w base e v cs) (hk : ∀ k, v.ownBlock = some k → w'.heap[k]? = w.heap[k]?) : Own w' base e v cs := by
  refine ⟨h.1, ?_⟩
  rcases h.2 with hn | ⟨g, cap, cur, rfl, hb, hg, rest⟩
  · exact .inl hn
  · exact .inr ⟨g, cap, cur, rfl, hb, (hk g rfl).trans hg, rest⟩
theorem Own.lt (h : Own w base e v cs) : ∀ k, v.ownBlock = some k → base ≤ k ∧ k < w.heap.size := World.ownsRow.lt h
theorem Own.below (h : Own w base e v cs) (hb : Below w.heap.size w w') : Own w' base e v cs := h.keep fun k hk => hb.block k (h.lt k hk).2
theorem Own.alloc (h : Own w base e v cs) (o : Obj) : Own (w.alloc o) base e v cs := h.keep fun k hk => Below.heap_alloc w o k (h.lt k hk).2
theorem Own.drew (h : Own w base e v cs) : Own w.drew base e v cs := h
theorem Own.drewN (h : Own w base e v cs) (n : Nat) : Own (w.drewN n) base e v cs := h
theorem Own.mono {b' : Nat} (h : Own w base e v cs) (hb : b' ≤ base) : Own w b' e v cs := by
  refine ⟨h.1, ?_⟩
  rcases h.2 with hn | ⟨g, cap, cur, rfl, hg0, rest⟩
  · exact .inl hn
  · exact .inr ⟨g, cap, cur, rfl, Nat.le_trans hb hg0, rest⟩
/-- Its form, and its cells. -/
theorem Own.form (h : Own w base e v cs) : ∃ A cap, v = .slice A cs.length cap ∧ cs.length ≤ cap ∧ ((A = none ∧ cs = [] ∧ cap = 0) ∨ ∃ g, A = some ⟨g, 0, none⟩ ∧ base ≤ g ∧ g < w.heap.size ∧ ∀ j u, cs[j]? = some u → w.cell? ⟨g, j, none⟩ = some u) := by
  rcases h.2 with ⟨rfl, hn⟩ | ⟨g, cap, cur, rfl, hb, hg, hnc, hcm, hcs, htake⟩
  · exact ⟨none, 0, by rw [hn], by omega, .inl ⟨rfl, List.eq_nil_of_length_eq_zero hn, rfl⟩⟩
  · refine ⟨some ⟨g, 0, none⟩, cap, rfl, hnc, .inr ⟨g, rfl, hb, (Array.getElem?_eq_some_iff.1 hg).1, fun j u hu => ?_⟩⟩
    have := h.cells (g := g) rfl j u hu
    have hadd : (⟨g, 0, none⟩ : Addr).add j = ⟨g, j, none⟩ := by unfold Addr.add; split <;> simp_all
    rwa [hadd] at this
/-- Its cells, where it has a block. -/
theorem Own.cellAt {g n cap : Nat} (h : Own w base e (.slice (some ⟨g, 0, none⟩) n cap) cs) (j : Nat) (u : Value) (hu : cs[j]? = some u) : w.cell? ⟨g, j, none⟩ = some u := by
  obtain ⟨A, cap', hv, _, hA⟩ := h.form
  injection hv with hv1 hv2 hv3
  rcases hA with ⟨hA, _, _⟩ | ⟨g', hA, _, _, hc⟩
  · rw [hA] at hv1; cases hv1
  · rw [hA] at hv1
    injection hv1 with hv1
    injection hv1 with hv1 _ _
    subst hv1
    exact hc j u hu
theorem Own.blk (h : Own w base e v cs) (hne : cs ≠ []) : ∃ g cap, v = .slice (some ⟨g, 0, none⟩) cs.length cap ∧ base ≤ g ∧ g < w.heap.size := by
  obtain ⟨A, cap, rfl, _, hA⟩ := h.form
  rcases hA with ⟨_, hn, _⟩ | ⟨g, rfl, hg, hlt, _⟩
  · exact absurd hn hne
  · exact ⟨g, cap, rfl, hg, hlt⟩
end

/-- One element appended, as the walk meets it: behind the box of the element. -/
theorem app1 {P : Program} {ops : Array Oper} {rest : List Oper} {o : Oper} {a : Act} {W : World} {Q : Exit → Act → World → Prop} (t e : TypeId) (z : Value) (bytes : Nat)
    (ht : P.underlying t = some (.slice e)) (hinfo : (P.info? e).map (fun i => (i.zero, i.size, i.bytes)) = some (some z, 1, bytes)) (hz : z.cells.size = 1) (hb : bytes ≤ 64)
    (hgd : o.guard = none) (s x : Operand) (ho : o.op = .call { callee := .builtin .append, args := #[s, x], argTypes := #[t, t] })
    (base : Nat) (v : Value) (cs : List Value) (hs : a.eval s = v) (hown : Own W base e v cs) (hbase : base ≤ W.heap.size) (c : Value) (hc1 : c.oneCell' = true)
    (hx : a.eval x = .slice (some ⟨W.heap.size, 0, none⟩) 1 1) (hlen : cs.length ≤ 1000000000)
    (h : ∀ g cap w', Own w' base e (.slice (some ⟨g, 0, none⟩) (cs.length + 1) cap) (cs ++ [c]) → Below base W w' → (∀ k, k < W.heap.size → v.ownBlock ≠ some k → w'.heap[k]? = W.heap[k]?) → W.heap.size < w'.heap.size → (v.ownBlock = some g ∨ W.heap.size < g) →
      wpList P ops Q rest (a.put o.dst (.slice (some ⟨g, 0, none⟩) (cs.length + 1) cap)) w') :
    wpList P ops Q (o :: rest) a (W.alloc (.cells #[c] e)) := by
  obtain ⟨i, hi, hz0, hz1, hz2⟩ := info_parts hinfo
  have hcell : (W.alloc (.cells #[c] e)).cell? ⟨W.heap.size, 0, none⟩ = some c := by
    have := World.cell?_alloc_at (w := W) #[c] e W.heap.size 0 rfl
    simp
  refine wpList_plain hgd fun K hK => ?_
  refine wp_append_lies (W.alloc (.cells #[c] e)) s x t ho base e i z 1 bytes ht hi hz0 hz1 hz2 hz (by omega) v cs.length cs hs (hown.alloc _) ⟨W.heap.size, 0, none⟩ 1 1 [c] hx rfl
    (fun j u hu => ?_) (fun u hu => by simp at hu; rw [hu]; exact hc1) (by omega) (by simp only [maxLen]; omega) (Nat.le_trans (Nat.mul_le_mul_left _ hb) (by omega)) (by simp; omega) (W.heap.size + 1) (by simp) ?_
  · cases j with
    | zero =>
      have hadd : (⟨W.heap.size, 0, none⟩ : Addr).add 0 = ⟨W.heap.size, 0, none⟩ := by simp [Addr.add]
      rw [hadd]
      simp at hu
      rw [← hu]
      exact hcell
    | succ j => simp at hu
  · intro g cap w' h1 h2 h3 h4
    have hsz : W.heap.size < w'.heap.size := by have := h2.size; simp at this; omega
    have hold : ∀ k, k < W.heap.size → v.ownBlock ≠ some k → w'.heap[k]? = W.heap[k]? := fun k hk hne => by
      rw [h2.block k (by simp; omega) (fun e => hne e.symm)]
      exact Below.heap_alloc W _ k hk
    have hlen' : (cs ++ [c]).length = cs.length + 1 := by simp
    exact hK _ _ (h g cap w' (by unfold Own; rw [hlen']; exact h1) ⟨h2.os, h2.tape, h2.output, by omega, fun k hk => hold k (by omega) (fun e => by have := (hown.lt k e).1; omega)⟩ hold hsz (h3.imp id (fun e => by omega)))

/-- Bytes of one's own as a text. -/
theorem Own.conv {w : World} {base : Nat} {v : Value} {u : List Nat} (h : Own w base 5 v (u.map fun x : Nat => .int .u8 (48 + (x : Int)))) : (convert 22 9 v).run Tryz.prog w = .ok (.string (wstr u)) w := by
  obtain ⟨A, cap, rfl, hcap, hA⟩ := h.form
  rcases hA with ⟨rfl, hn, rfl⟩ | ⟨g, rfl, _, _, hc⟩
  · obtain rfl : u = [] := by simpa using hn
    exact run_convert_bytes_nil w 22 5 Tryz.underlying22 Tryz.underlying5 _ _ 9 Tryz.underlying9
  · refine run_convert_bytes_arg w 22 5 Tryz.underlying22 Tryz.underlying5 g 0 _ cap (u.map fun x : Nat => 48 + (x : Int)) (by simp) (fun i hi => ?_) 9 Tryz.underlying9
    have hi' : i < u.length := by simpa using hi
    rw [Nat.zero_add]
    rw [hc i (.int .u8 (48 + (u[i] : Int))) (by simp [hi'])]
    simp [List.getD_eq_getElem?_getD, List.getElem?_eq_getElem hi']
end Go.Proofs.YthmcdfjijkecfaaGreat

/- The reference's l01Act: the word to which a state leads a word, by appends. -/
namespace Go.Proofs.YthmcdfjijkecfaaGreat
open Go.RowKit
set_option linter.unusedVariables false
set_option linter.unusedSimpArgs false

/-- A word's bytes. -/
def wb (u : List Nat) : List Value := u.map fun x : Nat => .int .u8 (48 + (x : Int))
theorem wb_snoc (u : List Nat) (x : Nat) : wb (u ++ [x]) = wb u ++ [.int .u8 (48 + (x : Int))] := by simp [wb]
theorem wb_length (u : List Nat) : (wb u).length = u.length := by simp [wb]

set_option maxHeartbeats 1000000 in
set_option maxRecDepth 100000 in
theorem l01Act_any (w : World) (m : Mach) (l s : Nat) (g : Good m l s) (q : Nat) (hq : q < s) (u : List Nat) (hu : ∀ x ∈ u, x < l) (hlen : u.length ≤ 1000) :
    Calls Tryz.prog 220 #[.agg (mcells m), .int .i64 q, .string (wstr u)] w fun e w' =>
      e = .returned (.tuple #[.string (wstr (img m q u)), .int .i64 (sec m q u : Nat)]) ∧ Below w.heap.size w w' := by
  have hsz := wstr_size u
  have hbyte := hid (fun k hk => wstr_byte u k hk (fun x hx => by have := hu x hx; have := g.l3; omega))
  have hM := hid ((MB.new w m 27).alloc (.cells #[] 5))
  have hB := hid (below_alloc (below_alloc (Below.refl w.heap.size w) (Nat.le_refl _) (.cells (mcells m) 27)) (Nat.le_refl _) (.cells #[] 5))
  have hO := Own.new (w.alloc (.cells (mcells m) 27)) (w.heap.size + 1) 5 (by simp)
  rw [heap_alloc_size] at hO
  replace hO := hid hO
  have s16 := g.s16
  have l3 := g.l3
  replace g := hid g
  replace hu := hid hu
  generalize hws : wstr u = ws at *
  replace hws := hid hws
  go_enter Tryz.func220, Tryz.ntmps220
  go_wp2
  go_loopw [1, 8, 9] (fun p v i wr => ∃ k : Nat, k ≤ u.length ∧ i = .int .i64 k ∧ p = .int .i64 (sec m q (u.take k) : Nat) ∧ MB wr 27 w.heap.size m ∧ Own wr (w.heap.size + 1) 5 v (wb (img m q (u.take k))) ∧ Below w.heap.size w wr) (fun _ _ i _ => u.length - (intOf i).toNat)
  case atStart =>
    exact ⟨0, Nat.zero_le _, rfl, rfl, hM.out, hO.out, hB.out⟩
  case round =>
    obtain ⟨k, hk, rfl, rfl, r1, r2, rB⟩ := hrel
    clear hM hO hB
    replace r1 := hid r1; replace r2 := hid r2; replace rB := hid rB
    by_cases hlt : k < u.length
    · have hx := hu.out _ (getD_mem u k hlt)
      have hb := hbyte.out k (by omega)
      have htk := hid (take_snoc' u k hlt)
      have hq2 := sec_lt g.out (u.take k) q hq (fun x hx => hu.out x (List.mem_of_mem_take hx))
      have hsn := hid (sec_snoc m (u.getD k 0) (u.take k) q)
      have him := hid (img_snoc m (u.getD k 0) (u.take k) q)
      have hol := g.out.ot _ _ hq2 hx
      have hnl := g.out.nx _ _ hq2 hx
      have hil := hid (show (wb (img m q (u.take k))).length = k by rw [wb_length, img_length, List.length_take]; omega)
      have c1 := r1.out.cot (sec m q (u.take k)) (u.getD k 0) (by omega) (by omega)
      have c2 := hid (fun W (hW : MB W 27 w.heap.size m) => hW.cnx (sec m q (u.take k)) (u.getD k 0) (by omega) (by omega))
      have hlt1 := hid r1.out.lt
      generalize hqk : sec m q (u.take k) = qk at *
      generalize hxk : u.getD k 0 = x at *
      generalize hok : m.ot (qk * 3 + x) = ot at *
      generalize hnk : m.nx (qk * 3 + x) = nx at *
      generalize him0 : img m q (u.take k) = im at *
      replace hqk := hid hqk; replace hxk := hid hxk; replace hok := hid hok; replace hnk := hid hnk; replace him0 := hid him0
      have e1 : 48 + (x : Int) - 48 = x := by omega
      have e2 : (48 + (ot : Int)) % 256 = 48 + ot := by omega
      go_wp2_with (first
        | ((with_reducible refine gate (N := 31) rfl ?_); (refine app1 22 5 (.int .u8 0) 1 Tryz.underlying22 info_u8 rfl (by omega) rfl _ _ rfl (w.heap.size + 1) _ _ rfl r2.out hlt1.out _ rfl rfl (by have := hil.out; omega) ?_; intro gn cap w2 hO2 hb2 hold hsz2 _; have t1 := hid (show MB w2 27 w.heap.size m from World.rowIs.of_block r1.out (hold _ hlt1.out (fun e => by have := (r2.out.lt _ e).1; omega))); replace hO2 := hid hO2; have tB := hid (rB.out.trans (hb2.mono (Nat.le_succ _))); clear hb2 hold hsz2 c1 r1 r2 rB; have c1 := c2.out _ t1.out)))
      go_roundw
      case rel =>
        refine ⟨k + 1, by omega, by go_num, by rw [htk.out, hsn.out], t1.out, ?_, tB.out⟩
        rw [htk.out, him.out, wb_snoc]
        exact hO2.out
      case measure => simp [intOf]; omega
    · obtain rfl : k = u.length := by omega
      have htk : u.take u.length = u := List.take_length
      rw [htk] at r2
      have hconv := r2.out.conv
      rw [htk]
      clear htk
      go_wp2
      go_ret2
      exact ⟨rfl, rB.out⟩
end Go.Proofs.YthmcdfjijkecfaaGreat

/- Words and their numbers: wordOf, numberOf of the program and of the reference. -/
namespace Go.Proofs.YthmcdfjijkecfaaGreat
open Go.RowKit
set_option linter.unusedVariables false
set_option linter.unusedSimpArgs false

/-- The word of the length n with the number k, for d letters. -/
def wrd (d : Nat) : Nat → Nat → List Nat
  | 0, _ => []
  | n + 1, k => wrd d n (k / d) ++ [k % d]
/-- The number of a word. -/
def num (d : Nat) (u : List Nat) : Nat := u.foldl (fun n x => n * d + x) 0

theorem wrd_length (d : Nat) : ∀ n k, (wrd d n k).length = n
  | 0, _ => rfl
  | n + 1, k => by simp [wrd, wrd_length d n]
theorem wrd_lt (d : Nat) (hd : 0 < d) : ∀ n k, ∀ x ∈ wrd d n k, x < d
  | 0, _, x, h => by simp [wrd] at h
  | n + 1, k, x, h => by
    simp only [wrd, List.mem_append, List.mem_singleton] at h
    rcases h with h | rfl
    · exact wrd_lt d hd n _ x h
    · exact Nat.mod_lt _ hd
theorem num_snoc (d : Nat) (u : List Nat) (x : Nat) : num d (u ++ [x]) = num d u * d + x := by simp [num]
theorem num_wrd (d : Nat) (hd : 0 < d) : ∀ n k, k < pw d n → num d (wrd d n k) = k
  | 0, k, h => by simp only [pw] at h; simp [wrd, num]; omega
  | n + 1, k, h => by
    rw [wrd, num_snoc, num_wrd d hd n (k / d) (by rw [Nat.div_lt_iff_lt_mul hd]; exact h)]
    exact Nat.div_add_mod' k d
theorem num_lt (d : Nat) : ∀ (n : Nat) (u : List Nat), u.length = n → (∀ x ∈ u, x < d) → num d u < pw d n
  | 0, u, h, _ => by obtain rfl := List.eq_nil_of_length_eq_zero h; simp [num, pw]
  | n + 1, u, h, hu => by
    have hne : u ≠ [] := fun e => by rw [e] at h; simp at h
    obtain ⟨v, x, rfl⟩ : ∃ v x, u = v ++ [x] := ⟨u.dropLast, u.getLast hne, (List.dropLast_concat_getLast hne).symm⟩
    have hv := num_lt d n v (by simpa using h) (fun y hy => hu y (by simp [hy]))
    have hx := hu x (by simp)
    rw [num_snoc]
    show _ < pw d n * d
    calc num d v * d + x < num d v * d + d := by omega
      _ = (num d v + 1) * d := by rw [Nat.succ_mul]
      _ ≤ pw d n * d := Nat.mul_le_mul_right _ hv
theorem wrd_num (d : Nat) (hd : 0 < d) : ∀ (n : Nat) (u : List Nat), u.length = n → (∀ x ∈ u, x < d) → wrd d n (num d u) = u
  | 0, u, h, _ => by obtain rfl := List.eq_nil_of_length_eq_zero h; rfl
  | n + 1, u, h, hu => by
    have hne : u ≠ [] := fun e => by rw [e] at h; simp at h
    obtain ⟨v, x, rfl⟩ : ∃ v x, u = v ++ [x] := ⟨u.dropLast, u.getLast hne, (List.dropLast_concat_getLast hne).symm⟩
    have hx := hu x (by simp)
    have h1 : (num d v * d + x) / d = num d v := by
      rw [Nat.mul_comm, Nat.mul_add_div hd, Nat.div_eq_of_lt hx, Nat.add_zero]
    have h2 : (num d v * d + x) % d = x := by
      rw [Nat.mul_comm, Nat.mul_add_mod, Nat.mod_eq_of_lt hx]
    rw [num_snoc]
    show wrd d n ((num d v * d + x) / d) ++ [(num d v * d + x) % d] = v ++ [x]
    rw [h1, h2, wrd_num d hd n v (by simpa using h) (fun y hy => hu y (by simp [hy]))]

/-- The last j digits of a word stand, and before them zero bytes. -/
def dgsB (u : List Nat) (from' : Nat) (i : Nat) : Value := .int .u8 (if from' ≤ i ∧ i < u.length then 48 + u.getD i 0 else 0 : Nat)

/-- The number that is left after j digits. -/
def shr (d : Nat) (k : Nat) : Nat → Nat
  | 0 => k
  | j + 1 => shr d k j / d
theorem shr_le (d k : Nat) : ∀ j, shr d k j ≤ k
  | 0 => Nat.le_refl _
  | j + 1 => Nat.le_trans (Nat.div_le_self _ _) (shr_le d k j)
theorem shr_succ (d k : Nat) : ∀ j, shr d (k / d) j = shr d k (j + 1)
  | 0 => rfl
  | j + 1 => by rw [shr, shr_succ d k j]; rfl
theorem wrd_getD (d : Nat) : ∀ n k j, j < n → (wrd d n k).getD (n - 1 - j) 0 = shr d k j % d
  | 0, _, j, h => absurd h (by omega)
  | n + 1, k, 0, _ => by
    simp [wrd, shr, wrd_length, List.getD_eq_getElem?_getD]
  | n + 1, k, j + 1, h => by
    have := wrd_getD d n (k / d) j (by omega)
    rw [shr_succ] at this
    rw [← this, wrd, List.getD_eq_getElem?_getD, List.getD_eq_getElem?_getD, List.getElem?_append_left (by rw [wrd_length]; omega)]
    congr 2; omega

theorem shr_dgs (d n k c i : Nat) (hc : c < n) : (if i = c then Value.int .u8 (48 + ((shr d k (n - (c + 1)) % d : Nat) : Int)) else dgsB (wrd d n k) (c + 1) i) = dgsB (wrd d n k) c i := by
  unfold dgsB
  rw [wrd_length]
  by_cases h : i = c
  · subst h
    have := wrd_getD d n k (n - (i + 1)) (by omega)
    rw [show n - 1 - (n - (i + 1)) = i by omega] at this
    rw [if_pos rfl, if_pos (by omega), this]
    simp
  · rw [if_neg h]
    by_cases h2 : c + 1 ≤ i ∧ i < n
    · rw [if_pos h2, if_pos (by omega)]
    · rw [if_neg h2, if_neg (by omega)]
theorem dgsB_zero (u : List Nat) (i : Nat) : dgsB u 0 i = dgs u i := by simp [dgsB, dgs]

set_option maxHeartbeats 1000000 in
set_option maxRecDepth 100000 in
theorem wordOf_any (d n k : Nat) (hd : 0 < d) (h3 : d ≤ 3) (hn : n ≤ 40) (hk : k ≤ 1000000000) (w : World) :
    Calls Tryz.prog 127 #[.int .i64 d, .int .i64 n, .int .i64 k] w fun e w' => e = .returned (.string (wstr (wrd d n k))) ∧ Below w.heap.size w w' := by
  have hmk := fun W : World => run_make_row' (P := Tryz.prog) 22 5 (.int .u8 0) 1 Tryz.underlying22 info_u8 rfl .i64 .i64 n (by omega) (by omega) W
  have hmade := hid (World.rowIs_made w (.int .u8 0) n 5)
  have hB := hid (below_alloc (Below.refl w.heap.size w) (Nat.le_refl _) (.cells (madeCells #[.int .u8 0] n) 5))
  generalize hmc : madeCells #[.int .u8 0] n = mc at *
  clear hmc
  go_enter Tryz.func127, Tryz.ntmps127
  go_wp2
  clear hmk
  go_loopw [2, 8] (fun p i wr => ∃ c : Nat, c ≤ n ∧ i = .int .i64 ((c : Int) - 1) ∧ p = .int .i64 (shr d k (n - c) : Nat) ∧ wr.rowIs w.heap.size 5 n (dgsB (wrd d n k) c) ∧ Below w.heap.size w wr) (fun _ i _ => ((intOf i) + 1).toNat)
  case atStart =>
    refine ⟨n, Nat.le_refl _, by go_num, by rw [Nat.sub_self]; rfl, World.rowIs.congr hmade.out (fun i hi => ?_), hB.out⟩
    unfold dgsB
    rw [if_neg (by omega)]; rfl
  case round =>
    obtain ⟨c, hc, rfl, rfl, r1, rB⟩ := hrel
    clear hmade hB
    have hle := shr_le d k (n - c)
    replace r1 := hid r1; replace rB := hid rB
    cases c with
    | succ c =>
      have hst := hid (fun i => shr_dgs d n k c i hc)
      have hsd := hid (show shr d k (n - c) = shr d k (n - (c + 1)) / d by rw [show n - c = (n - (c + 1)) + 1 by omega]; rfl)
      have hmod := Nat.mod_lt (shr d k (n - (c + 1))) hd
      obtain ⟨vo, co⟩ : ∃ v, wr.cell? ⟨w.heap.size, c, none⟩ = some v := ⟨_, r1.out.cell (by omega)⟩
      have fo : wr.frozen? ⟨w.heap.size, c, none⟩ = false := r1.out.frozen _
      have hdv := Nat.div_le_self (shr d k (n - (c + 1))) d
      generalize hp : shr d k (n - (c + 1)) = p at *
      replace hp := hid hp
      have e0 : ((c + 1 : Nat) : Int) - 1 = c := by omega
      rw [e0]
      clear e0
      have d0 : ¬ (d : Int) = 0 := by omega
      have m1 : Int.tmod (p : Int) (d : Int) = ((p % d : Nat) : Int) := by rw [Int.tmod_eq_emod_of_nonneg (by omega)]; omega
      have m2 : Int.tdiv (p : Int) (d : Int) = ((p / d : Nat) : Int) := by rw [Int.tdiv_eq_ediv_of_nonneg (by omega)]; omega
      generalize p % d = r at *
      generalize hpd : p / d = q at *
      replace hpd := hid hpd
      go_wp2_with (first
        | (go_at_call 183; (with_reducible refine (letter_any r (by omega) _).mono ?_); rintro e w1 ⟨rfl, rfl⟩))
      go_roundw
      case rel =>
        exact ⟨c, by omega, rfl, by rw [hsd.out], World.rowIs.congr (World.rowIs.set r1.out c _) (fun i _ => hst.out i), rB.out.setCell (by simp) _⟩
      case measure => simp [intOf]
    | zero =>
      have hconv := conv_dgs (wrd_length d n k) (World.rowIs.congr r1.out (fun i hi => by rw [dgsB_zero]))
      go_wp2
      go_ret
      exact ⟨rfl, rB.out⟩

/-- A word's letters as the number grows, in range. -/
theorem num_step (d : Nat) (hd : 0 < d) (u : List Nat) (hu : ∀ x ∈ u, x < d) (hb : pw d u.length < 9223372036854775808) (k : Nat) (hk : k < u.length) :
    num d (u.take (k + 1)) = num d (u.take k) * d + u.getD k 0 ∧ num d (u.take k) * d + u.getD k 0 < 9223372036854775808 := by
  have h1 : num d (u.take (k + 1)) = num d (u.take k) * d + u.getD k 0 := by rw [take_snoc' u k hk, num_snoc]
  have h2 := num_lt d (k + 1) (u.take (k + 1)) (by rw [List.length_take]; omega) (fun x hx => hu x (List.mem_of_mem_take hx))
  have h3 := pw_le d hd (show k + 1 ≤ u.length by omega)
  exact ⟨h1, by omega⟩

set_option maxHeartbeats 1000000 in
set_option maxRecDepth 100000 in
theorem numberOf_any (d : Nat) (hd : 0 < d) (h3 : d ≤ 3) (u : List Nat) (hu : ∀ x ∈ u, x < d) (hb : pw d u.length < 9223372036854775808) (hlen : u.length ≤ 1000) (w : World) :
    Calls Tryz.prog 193 #[.int .i64 d, .string (wstr u)] w fun e w' => e = .returned (.int .i64 (num d u : Nat)) ∧ w = w' := by
  have hsz := wstr_size u
  have hbyte := hid (fun k hk => wstr_byte u k hk (fun x hx => by have := hu x hx; omega))
  have hst := hid (fun k hk => num_step d hd u hu hb k hk)
  have hmem := hid (fun k hk => hu _ (getD_mem u k hk))
  generalize hws : wstr u = ws at *
  clear hws hu hb
  go_enter Tryz.func193, Tryz.ntmps193
  go_wp2
  go_loop [5, 9] (fun p i => ∃ k : Nat, k ≤ u.length ∧ i = .int .i64 k ∧ p = .int .i64 (num d (u.take k) : Nat)) (fun _ i => u.length - (intOf i).toNat)
  case atStart => exact ⟨0, by omega, rfl, rfl⟩
  case round =>
    obtain ⟨k, hk, rfl, rfl⟩ := hrel
    by_cases hlt : k < u.length
    · have hby := hbyte.out k (by omega)
      have hx := hmem.out k hlt
      obtain ⟨hs1, hs2⟩ := hst.out k hlt
      generalize u.getD k 0 = x at *
      generalize num d (u.take k) = p at *
      replace hs1 := hid hs1
      have e1 : 48 + (x : Int) - 48 = x := by omega
      have e2 : (p : Int) * (d : Int) = ((p * d : Nat) : Int) := by simp
      have hpd : p * d < 9223372036854775808 := by omega
      generalize hpe : p * d = pd at *
      replace hpe := hid hpe
      go_wp2
      go_round
      case rel => exact ⟨k + 1, by omega, by go_num, by rw [hs1.out]; simp⟩
      case measure => simp [intOf]; omega
    · obtain rfl : k = u.length := by omega
      rw [List.take_length]
      go_wp2
      go_ret
      exact ⟨rfl, rfl⟩

set_option maxHeartbeats 1000000 in
set_option maxRecDepth 100000 in
theorem l01NumberOf_any (d : Nat) (hd : 0 < d) (h3 : d ≤ 3) (u : List Nat) (hu : ∀ x ∈ u, x < d) (hb : pw d u.length < 9223372036854775808) (hlen : u.length ≤ 1000) (w : World) :
    Calls Tryz.prog 210 #[.int .i64 d, .string (wstr u)] w fun e w' => e = .returned (.int .i64 (num d u : Nat)) ∧ w = w' := by
  have hsz := wstr_size u
  have hbyte := hid (fun k hk => wstr_byte u k hk (fun x hx => by have := hu x hx; omega))
  have hst := hid (fun k hk => num_step d hd u hu hb k hk)
  have hmem := hid (fun k hk => hu _ (getD_mem u k hk))
  generalize hws : wstr u = ws at *
  clear hws hu hb
  go_enter Tryz.func210, Tryz.ntmps210
  go_wp2
  go_loop [5, 6] (fun p i => ∃ k : Nat, k ≤ u.length ∧ i = .int .i64 k ∧ p = .int .i64 (num d (u.take k) : Nat)) (fun _ i => u.length - (intOf i).toNat)
  case atStart => exact ⟨0, by omega, rfl, rfl⟩
  case round =>
    obtain ⟨k, hk, rfl, rfl⟩ := hrel
    by_cases hlt : k < u.length
    · have hby := hbyte.out k (by omega)
      have hx := hmem.out k hlt
      obtain ⟨hs1, hs2⟩ := hst.out k hlt
      generalize u.getD k 0 = x at *
      generalize num d (u.take k) = p at *
      replace hs1 := hid hs1
      have e1 : 48 + (x : Int) - 48 = x := by omega
      have e2 : (p : Int) * (d : Int) = ((p * d : Nat) : Int) := by simp
      have hpd : p * d < 9223372036854775808 := by omega
      generalize hpe : p * d = pd at *
      replace hpe := hid hpe
      go_wp2
      go_round
      case rel => exact ⟨k + 1, by omega, by go_num, by rw [hs1.out]; simp⟩
      case measure => simp [intOf]; omega
    · obtain rfl : k = u.length := by omega
      rw [List.take_length]
      go_wp2
      go_ret
      exact ⟨rfl, rfl⟩

theorem wstr_append (u v : List Nat) : wstr (u ++ v) = wstr u ++ wstr v := by
  simp [wstr, strOfNums, ByteArray.ext_iff]
theorem conv1 (b : Nat) (W : World) (r : Nat) (hc : W.cell? ⟨b, 0, none⟩ = some (.int .u8 (48 + (r : Int)))) :
    (convert 22 9 (.slice (some ⟨b, 0, none⟩) 1 1)).run Tryz.prog W = .ok (.string (wstr [r])) W := by
  refine run_convert_bytes_arg W 22 5 Tryz.underlying22 Tryz.underlying5 b 0 1 1 [48 + (r : Int)] (by simp) (fun i hi => ?_) 9 Tryz.underlying9
  obtain rfl : i = 0 := by simpa using hi
  rw [hc]; rfl

theorem fin1 {w w1 : World} (hb : Below w.drew.heap.size w.drew w1) (o : Obj) : Below w.heap.size w (w1.alloc o) :=
  Below.alloc (w := w1) (show Below w.heap.size w w1 from Below.trans (Below.drew (Below.refl w.heap.size w)) hb) hb.size o
theorem fin2 {w w1 : World} {o : Obj} (hb : Below (w.alloc o).drew.heap.size (w.alloc o).drew w1) : Below w.heap.size w w1 :=
  (below_alloc (Below.refl w.heap.size w) (Nat.le_refl _) o).drew.trans (hb.mono (by rw [show (w.alloc o).drew.heap.size = (w.alloc o).heap.size from rfl, heap_alloc_size]; omega))

set_option maxHeartbeats 2000000 in
set_option maxRecDepth 100000 in
theorem l01WordOf_any (d : Nat) (hd : 0 < d) (h3 : d ≤ 3) : ∀ (n k : Nat) (_ : n ≤ 40) (_ : k ≤ 1000000000) (w : World),
    Calls Tryz.prog 128 #[.int .i64 d, .int .i64 n, .int .i64 k] w fun e w' => e = .returned (.string (wstr (wrd d n k))) ∧ Below w.heap.size w w'
  | 0, k, hn, hk, w => by
    have hw := hid (show wstr (wrd d 0 k) = ByteArray.empty by rfl)
    have hw' := hid (show ByteArray.empty = ({ data := #[] } : ByteArray) by rfl)
    rw [hw.out, hw'.out]
    go_enter Tryz.func128, Tryz.ntmps128
    go_wp2
    go_ret
    exact ⟨rfl, Below.refl _ _⟩
  | n + 1, k, hn, hk, w => by
    have hdv := Nat.div_le_self k d
    have ih := hid (fun W => l01WordOf_any d hd h3 n (k / d) (by omega) (by omega) W)
    have hmod := Nat.mod_lt k hd
    have hw := hid (show wrd d (n + 1) k = wrd d n (k / d) ++ [k % d] from rfl)
    have d0 : ¬ (d : Int) = 0 := by omega
    have m1 : Int.tmod (k : Int) (d : Int) = ((k % d : Nat) : Int) := by rw [Int.tmod_eq_emod_of_nonneg (by omega)]; omega
    have m2 : Int.tdiv (k : Int) (d : Int) = ((k / d : Nat) : Int) := by rw [Int.tdiv_eq_ediv_of_nonneg (by omega)]; omega
    generalize hr : k % d = r at *
    generalize hpd : k / d = q at *
    replace hpd := hid hpd; replace hr := hid hr
    go_enter Tryz.func128, Tryz.ntmps128
    have e1 : ((n + 1 : Nat) : Int) - 1 = n := by omega
    have s1 : IntKind.i64.wrap (((n + 1 : Nat) : Int) - 1) = n := by rw [e1]; exact IntWalk.i64_in _ (by omega)
    have s4 : IntKind.i64.wrap (q : Int) = q := IntWalk.i64_in _ (by omega)
    have s2 : IntKind.i64.wrap (48 + (r : Int)) = 48 + r := IntWalk.i64_in _ (by omega)
    have s3 : IntKind.u8.wrap (48 + (r : Int)) = 48 + r := IntWalk.u8_in _ (by omega)
    have hcv := fun (b : Nat) (W : World) (hc : W.cell? ⟨b, 0, none⟩ = some (.int .u8 (48 + (r : Int)))) => conv1 b W r hc
    have hz1 : (wstr (wrd d n q)).size = n := by rw [wstr_size, wrd_length]
    have hz2 : (wstr [r]).size = 1 := by rw [wstr_size]; rfl
    have hz3 : (wstr (wrd d n q) ++ wstr [r]).size = n + 1 := by rw [ByteArray.size_append, hz1, hz2]
    replace hw := hid (show wstr (wrd d (n + 1) k) = wstr (wrd d n q) ++ wstr [r] by rw [hw.out, wstr_append])
    generalize wstr (wrd d (n + 1) k) = res at *
    generalize wstr (wrd d n q) = res1 at *
    generalize wstr [r] = res2 at *
    go_upto_region 3 with (fail)
    go_region_with (go_at_call 128; (with_reducible refine (ih.out _).mono ?_); rintro e w1 ⟨rfl, hb⟩; (have hc1 := fun h => hb.cell (p := ⟨w.heap.size, 0, none⟩) h; simp at hc1))
    all_goals (go_wp2; go_ret; refine ⟨by rw [hw.out]; rfl, ?_⟩; first | exact fin1 hb _ | exact fin2 hb)
end Go.Proofs.YthmcdfjijkecfaaGreat

/- Levels: the words of a level, and what a state makes of them. -/
namespace Go.Proofs.YthmcdfjijkecfaaGreat
open Go.RowKit
set_option linter.unusedVariables false
set_option linter.unusedSimpArgs false

/-- Numbers as the cells of a slice. -/
def ints (l : List Int) : List Value := l.map (Value.int .i64)
def nats (l : List Nat) : List Value := l.map fun x : Nat => .int .i64 (x : Int)
theorem ints_length (l : List Int) : (ints l).length = l.length := by simp [ints]
theorem nats_length (l : List Nat) : (nats l).length = l.length := by simp [nats]
theorem ints_snoc (l : List Int) (x : Int) : ints (l ++ [x]) = ints l ++ [.int .i64 x] := by simp [ints]
theorem nats_snoc (l : List Nat) (x : Nat) : nats (l ++ [x]) = nats l ++ [.int .i64 (x : Int)] := by simp [nats]
theorem nats_ints (l : List Nat) : nats l = ints (l.map Int.ofNat) := by simp [nats, ints]
theorem info_i64 : (Tryz.prog.info? 2).map (fun i => (i.zero, i.size, i.bytes)) = some (some (.int .i64 0), 1, 8) := by kernel_rfl

/-- What a state makes of a level: the numbers of the words to which it leads the words. -/
def perm (m : Mach) (d q n : Nat) : List Nat := (List.range (pw d n)).map fun k => num d (img m q (wrd d n k))
theorem perm_length (m : Mach) (d q n : Nat) : (perm m d q n).length = pw d n := by simp [perm]

/-- The words of a level. -/
def lvl (d n k : Nat) : List Value := (List.range k).map fun i => .string (wstr (wrd d n i))
theorem lvl_snoc (d n k : Nat) : lvl d n (k + 1) = lvl d n k ++ [.string (wstr (wrd d n k))] := by simp [lvl, List.range_succ]
theorem lvl_length (d n k : Nat) : (lvl d n k).length = k := by simp [lvl]
theorem lvl_get (d n k i : Nat) (h : i < k) : (lvl d n k)[i]? = some (.string (wstr (wrd d n i))) := by simp [lvl, h]
/-- A level of a state, in part. -/
def rng (f : Nat → Nat) (k : Nat) : List Value := nats ((List.range k).map f)
theorem rng_snoc (f : Nat → Nat) (k : Nat) : rng f (k + 1) = rng f k ++ [.int .i64 ((f k : Nat) : Int)] := by simp [rng, nats, List.range_succ]
theorem rng_length (f : Nat → Nat) (k : Nat) : (rng f k).length = k := by simp [rng, nats]

theorem info_str : (Tryz.prog.info? 9).map (fun i => (i.zero, i.size, i.bytes)) = some (some (.string { data := #[] }), 1, 16) := by kernel_rfl
set_option maxHeartbeats 1000000 in
set_option maxRecDepth 100000 in
theorem level_any (d n : Nat) (hd : 0 < d) (h3 : d ≤ 3) (hn : n ≤ 40) (hb : pw d n ≤ 100000) (w : World) :
    Calls Tryz.prog 182 #[.int .i64 d, .int .i64 n] w fun e w' => ∃ v, e = .returned v ∧ Own w' w.heap.size 9 v (lvl d n (pw d n)) ∧ Below w.heap.size w w' := by
  have hp := hid (fun W => power_any d n hd (by omega) (by omega) W)
  have hw := hid (fun k hk W => wordOf_any d n k hd h3 hn hk W)
  generalize pw d n = M at *
  go_enter Tryz.func182, Tryz.ntmps182
  go_wp2_with (first
    | (go_at_call 171; (with_reducible refine (hp.out _).mono ?_); rintro e w1 ⟨rfl, rfl⟩))
  go_loopw [5, 10] (fun v i wr => ∃ k : Nat, k ≤ M ∧ i = .int .i64 k ∧ Own wr w.heap.size 9 v (lvl d n k) ∧ Below w.heap.size w wr) (fun _ i _ => M - (intOf i).toNat)
  case atStart => exact ⟨0, Nat.zero_le _, rfl, Own.nil _ _ _, Below.refl _ _⟩
  case round =>
    obtain ⟨k, hk, rfl, r1, rB⟩ := hrel
    have hll := hid (lvl_length d n k)
    replace r1 := hid r1; replace rB := hid rB
    by_cases hlt : k < M
    · have dk : decide ((k : Int) < (M : Int)) = true := decide_eq_true (by omega)
      have hsn := hid (lvl_snoc d n k)
      go_wp2_with (first
        | (go_at_call 127; (with_reducible refine (hw.out k (by omega) _).mono ?_); rintro e w1 ⟨rfl, hb1⟩; replace r1 := hid (r1.out.below hb1); replace rB := hid (rB.out.trans (hb1.mono rB.out.size)); clear hb1)
        | ((with_reducible refine gate (N := 19) rfl ?_); refine app1 64 9 (.string { data := #[] }) 16 Tryz.underlying64 info_str rfl (by omega) rfl _ _ rfl w.heap.size _ _ rfl r1.out rB.out.size _ rfl rfl (by have := hll.out; omega) ?_; intro gn cap w2 hO2 hb2 hold hsz2 _; replace hO2 := hid hO2; have tB := hid (rB.out.trans hb2); clear hb2 hold hsz2 r1 rB))
      go_roundw
      case rel => exact ⟨k + 1, by omega, by go_num, by rw [hsn.out]; exact hO2.out, tB.out⟩
      case measure => simp [intOf]; omega
    · obtain rfl : k = M := by omega
      go_wp2
      go_ret
      exact ⟨_, rfl, r1.out, rB.out⟩

set_option maxHeartbeats 2000000 in
set_option maxRecDepth 100000 in
theorem permutation_any (d n : Nat) (hd : 0 < d) (h3 : d ≤ 3) (hn : n ≤ 40) (hb : pw d n ≤ 100000) (w : World) (c1 c2 : Value) (F : List Nat → List Nat)
    (hF : ∀ u, u.length = n → (∀ x ∈ u, x < d) → (F u).length = n ∧ ∀ x ∈ F u, x < d)
    (hf : ∀ W, Below w.heap.size w W → ∀ u, u.length = n → (∀ x ∈ u, x < d) → Calls Tryz.prog 198 #[.string (wstr u), c1, c2] W fun e W' => e = .returned (.string (wstr (F u))) ∧ Below W.heap.size W W') :
    Calls Tryz.prog 94 #[.int .i64 d, .int .i64 n, .func (.func 198) #[] #[c1, c2]] w fun e w' => ∃ v, e = .returned v ∧ Own w' w.heap.size 2 v (rng (fun k => num d (F (wrd d n k))) (pw d n)) ∧ Below w.heap.size w w' := by
  have hl := hid (level_any d n hd h3 hn hb w)
  have hpos := pw_pos d hd n
  have hwl := hid (fun k => wrd_length d n k)
  have hwm := hid (fun k => wrd_lt d hd n k)
  have hFo := hid (fun k => hF (wrd d n k) (wrd_length d n k) (wrd_lt d hd n k))
  have hnum := hid (fun k W => numberOf_any d hd h3 (F (wrd d n k)) (hFo.out k).2 (by rw [(hFo.out k).1]; omega) (by rw [(hFo.out k).1]; omega) W)
  replace hf := hid hf
  clear hF
  generalize hM : pw d n = M at *
  go_enter Tryz.func94, Tryz.ntmps94
  go_wp2_with (first
    | (go_at_call 182; (with_reducible refine (hl.out).mono ?_); rintro e w1 ⟨v, rfl, hO, hB⟩; obtain ⟨g, cap, rfl, hg1, hg2⟩ := hO.blk (fun e => by have := lvl_length d n M; rw [e] at this; simp at this; omega); have hll := lvl_length d n M; rw [hll] at hO; rw [hll]; clear hll; replace hO := hid hO; replace hB := hid hB; clear hl))
  go_loopw [7, 14] (fun v i wr => ∃ k : Nat, k ≤ M ∧ i = .int .i64 k ∧ Own wr w1.heap.size 2 v (rng (fun k => num d (F (wrd d n k))) k) ∧ Below w1.heap.size w1 wr) (fun _ i _ => M - (intOf i).toNat)
  case atStart => exact ⟨0, Nat.zero_le _, rfl, Own.nil _ _ _, Below.refl _ _⟩
  case round =>
    obtain ⟨k, hk, rfl, r1, rB⟩ := hrel
    have hll := hid (rng_length (fun k => num d (F (wrd d n k))) k)
    replace r1 := hid r1; replace rB := hid rB
    by_cases hlt : k < M
    · have dk : decide ((k : Int) < (M : Int)) = true := decide_eq_true (by omega)
      have hsn := hid (rng_snoc (fun k => num d (F (wrd d n k))) k)
      have ck := (hO.out.below rB.out).cellAt k _ (lvl_get d n M k hlt)
      have hBw := hid (hB.out.trans (rB.out.mono hB.out.size))
      go_wp2_with (first
        | (go_at_call 198; (with_reducible refine (hf.out _ hBw.out _ (hwl.out k) (hwm.out k)).mono ?_); rintro e w2 ⟨rfl, hb1⟩; replace r1 := hid (r1.out.below hb1); replace rB := hid (rB.out.trans (hb1.mono rB.out.size)); clear hb1 ck hBw)
        | (go_at_call 193; (with_reducible refine (hnum.out k _).mono ?_); rintro e w3 ⟨rfl, rfl⟩)
        | ((with_reducible refine gate (N := 25) rfl ?_); refine app1 32 2 (.int .i64 0) 8 Tryz.underlying32 info_i64 rfl (by omega) rfl _ _ rfl w1.heap.size _ _ rfl r1.out rB.out.size _ rfl rfl (by have := hll.out; omega) ?_; intro gn cap w2 hO2 hb2 hold hsz2 _; replace hO2 := hid hO2; have tB := hid (rB.out.trans hb2); clear hb2 hold hsz2 r1 rB))
      go_roundw
      case rel => exact ⟨k + 1, by omega, by go_num, by rw [hsn.out]; exact hO2.out, tB.out⟩
      case measure => simp [intOf]; omega
    · obtain rfl : k = M := by omega
      go_wp2
      go_ret
      exact ⟨_, rfl, r1.out.mono hB.out.size, hB.out.trans (rB.out.mono hB.out.size)⟩

set_option maxHeartbeats 2000000 in
set_option maxRecDepth 100000 in
theorem ofState1_any (b : Nat) (w : World) (m : Mach) (hm : MB w 27 b m) (l s : Nat) (g : Good m l s) (q : Nat) (hq : q < s) (u : List Nat) (hu : ∀ x ∈ u, x < l) (hlen : u.length ≤ 1000)
    (b1 b2 : Nat) (h1 : w.cell? ⟨b1, 0, none⟩ = some (.pointer (some ⟨b, 0, none⟩))) (h2 : w.cell? ⟨b2, 0, none⟩ = some (.int .i64 q)) :
    Calls Tryz.prog 198 #[.string (wstr u), .pointer (some ⟨b1, 0, none⟩), .pointer (some ⟨b2, 0, none⟩)] w fun e w' => e = .returned (.string (wstr (img m q u))) ∧ Below w.heap.size w w' := by
  have hl := hid (lead_any b w m hm l s g q hq u hu hlen)
  clear hm
  go_enter Tryz.func198, Tryz.ntmps198
  go_wp2_with (first
    | (go_at_call 90; (with_reducible refine (hl.out).mono ?_); rintro e w1 ⟨rfl, hb⟩; replace hb := hid hb))
  go_ret
  exact ⟨rfl, hb.out⟩

set_option maxHeartbeats 2000000 in
set_option maxRecDepth 100000 in
theorem ofState_any (b : Nat) (w : World) (m : Mach) (hm : MB w 27 b m) (l s : Nat) (g : Good m l s) (q : Nat) (hq : q < s) (n : Nat) (hn : n ≤ 40) (hb : pw l n ≤ 100000) :
    Calls Tryz.prog 103 #[.pointer (some ⟨b, 0, none⟩), .int .i64 q, .int .i64 n] w fun e w' => ∃ v, e = .returned v ∧ Own w' w.heap.size 2 v (nats (perm m l q n)) ∧ Below w.heap.size w w' := by
  have hM := hid ((hm.alloc (.cells #[.pointer (some ⟨b, 0, none⟩)] 95)).alloc (.cells #[.int .i64 q] 2))
  have hB := hid (below_alloc (below_alloc (Below.refl w.heap.size w) (Nat.le_refl _) (.cells #[.pointer (some ⟨b, 0, none⟩)] 95)) (Nat.le_refl _) (.cells #[.int .i64 q] 2))
  have cL := hM.out.cL
  have c1 : ((w.alloc (.cells #[.pointer (some ⟨b, 0, none⟩)] 95)).alloc (.cells #[.int .i64 q] 2)).cell? ⟨w.heap.size, 0, none⟩ = some (.pointer (some ⟨b, 0, none⟩)) := by simp
  have c2 : ((w.alloc (.cells #[.pointer (some ⟨b, 0, none⟩)] 95)).alloc (.cells #[.int .i64 q] 2)).cell? ⟨w.heap.size + 1, 0, none⟩ = some (.int .i64 q) := by simp
  rw [g.L] at cL
  have hblt := hm.lt
  have hs2 : ((w.alloc (.cells #[.pointer (some ⟨b, 0, none⟩)] 95)).alloc (.cells #[.int .i64 q] 2)).heap.size = w.heap.size + 2 := by rw [heap_alloc_size, heap_alloc_size]
  have l2 := g.l2
  have l3 := g.l3
  have hper := hid (permutation_any l n (by omega) l3 hn hb _ (.pointer (some ⟨w.heap.size, 0, none⟩)) (.pointer (some ⟨w.heap.size + 1, 0, none⟩)) (fun u => img m q u) (fun u hu hx => ⟨(img_length m u q).trans hu, img_lt g u q hq hx⟩)
    (fun W hW u hu hx => ofState1_any b W m (hM.out.below hW hM.out.lt) l s g q hq u hx (by omega) w.heap.size (w.heap.size + 1) ((hW.cell (by dsimp only; omega)).trans c1) ((hW.cell (by dsimp only; omega)).trans c2)))
  have hres := hid (show rng (fun k => num l (img m q (wrd l n k))) (pw l n) = nats (perm m l q n) from rfl)
  clear c2 hs2
  replace hm := hid hm
  replace g := hid g
  have hmf : ∀ (fn : Fn) (first cap : Array Value) (w : World), (Instr.makeFunc fn first cap).run Tryz.prog w = .ok (.func fn first cap) w := fun _ _ _ _ => rfl
  go_enter Tryz.func103, Tryz.ntmps103
  go_wp2_with (first
    | (go_at_call 94; (with_reducible refine (hper.out).mono ?_); rintro e w1 ⟨v, rfl, hO, hb⟩; replace hO := hid hO; replace hb := hid hb))
  go_ret
  exact ⟨_, rfl, by rw [← hres.out]; exact hO.out.mono hB.out.size, hB.out.trans (hb.out.mono hB.out.size)⟩

theorem load_run {w : World} {b : Nat} {m : Mach} (hm : MB w 27 b m) : (loadVar 27 ⟨b, 0, none⟩).run Tryz.prog w = .ok (.agg (mcells m)) w := by
  have := run_loadVar_mid (P := Tryz.prog) w b 0 27 (mcells m).toList _ (fun j v hv => by
    have hj : j < 98 := by have := (List.getElem?_eq_some_iff.1 hv).1; rwa [Array.length_toList, size_mcells] at this
    have h2 := World.rowIs.cell hm hj
    have h3 := mcells_get m j hj
    rw [Array.getElem?_toList, h3] at hv
    rw [Nat.zero_add, h2, hv]) Tryz.underlying27 rfl (by rw [Array.length_toList, size_mcells]; exact sz_mach)
  simpa using this
theorem exec_load {a : Act} {o : Oper} {W : World} {A : Addr} {ty : TypeId} {v : Value} (x : Operand) (ho : o.op = .load ty x) (hx : a.eval x = .pointer (some A)) (h : (loadVar ty A).run Tryz.prog W = .ok v W) :
    (execOp a.eval o).run Tryz.prog W = .ok (.value v) W := by
  unfold execOp
  simp only [ho, hx, Instr.loadAt, Instr.sureAddr, Sem.run_bind, Sem.run_pure, Result.andThen_ok, h]
/-- What a region keeps of the world while it calls: a machine in its block, its letters, and all that lay before. -/
theorem keepM {W w1 w0 : World} {b B0 : Nat} {m : Mach} {l : Nat} (h : Hid (MB W 27 b m) ∧ Hid (Below B0 w0 W) ∧ (loadVar 27 ⟨b, 0, none⟩).run Tryz.prog W = .ok (.agg (mcells m)) W ∧ W.cell? ⟨b, 0, none⟩ = some (.int .i64 (l : Int)))
    (hb : Hid (Below W.heap.size W w1) ∧ B0 ≤ w0.heap.size) : Hid (MB w1 27 b m) ∧ Hid (Below B0 w0 w1) ∧ (loadVar 27 ⟨b, 0, none⟩).run Tryz.prog w1 = .ok (.agg (mcells m)) w1 ∧ w1.cell? ⟨b, 0, none⟩ = some (.int .i64 (l : Int)) := by
  have h1 := h.1.out.below hb.1.out h.1.out.lt
  exact ⟨h1, h.2.1.out.trans (hb.1.out.mono (Nat.le_trans hb.2 h.2.1.out.size)), load_run h1, (hb.1.out.cell h.1.out.lt).trans h.2.2.2⟩

set_option maxHeartbeats 2000000 in
set_option maxRecDepth 100000 in
theorem l01Level_any (w : World) (m : Mach) (l s : Nat) (g : Good m l s) (q : Nat) (hq : q < s) (n : Nat) (hn : n ≤ 40) (hb : pw l n ≤ 100000) :
    Calls Tryz.prog 172 #[.agg (mcells m), .int .i64 q, .int .i64 n] w fun e w' => ∃ v, e = .returned v ∧ Own w' w.heap.size 2 v (nats (perm m l q n)) ∧ Below w.heap.size w w' := by
  have hM := hid ((MB.new w m 27).alloc (.cells #[] 2))
  have hB := hid (below_alloc (below_alloc (Below.refl w.heap.size w) (Nat.le_refl _) (.cells (mcells m) 27)) (Nat.le_refl _) (.cells #[] 2))
  have hO := Own.new (w.alloc (.cells (mcells m) 27)) (w.heap.size + 1) 2 (by simp)
  rw [heap_alloc_size] at hO
  replace hO := hid hO
  have hres := hid (show rng (fun k => num l (img m q (wrd l n k))) (pw l n) = nats (perm m l q n) from rfl)
  have l2 := g.l2
  have l3 := g.l3
  have gL := hid g.L
  have hpw := hid (fun W => l01Power_any l n (by omega) (by omega) (by omega) W)
  have hwo := hid (fun k (hk : k < pw l n) W => l01WordOf_any l (by omega) l3 n k hn (by omega) W)
  have hact := hid (fun k W => l01Act_any W m l s g q hq (wrd l n k) (wrd_lt l (by omega) n k) (by rw [wrd_length]; omega))
  have him := hid (fun k => img_lt g (wrd l n k) q hq (wrd_lt l (by omega) n k))
  have hil := hid (fun k => (img_length m (wrd l n k) q).trans (wrd_length l n k))
  have hnum := hid (fun k W => l01NumberOf_any l (by omega) l3 (img m q (wrd l n k)) (him.out k) (by rw [hil.out k]; omega) (by rw [hil.out k]; omega) W)
  clear him hil
  replace g := hid g
  generalize hMn : pw l n = M at *
  go_enter Tryz.func172, Tryz.ntmps172
  go_wp2
  go_loopw [7, 8] (fun v i wr => ∃ k : Nat, k ≤ M ∧ i = .int .i64 k ∧ MB wr 27 w.heap.size m ∧ Own wr (w.heap.size + 1) 2 v (rng (fun k => num l (img m q (wrd l n k))) k) ∧ Below w.heap.size w wr) (fun _ i _ => M - (intOf i).toNat)
  case atStart => exact ⟨0, Nat.zero_le _, rfl, hM.out, hO.out, hB.out⟩
  case round =>
    obtain ⟨k, hk, rfl, r1, r2, rB⟩ := hrel
    clear hM hB hO
    have hll := hid (rng_length (fun k => num l (img m q (wrd l n k))) k)
    have cL := r1.cL
    rw [gL.out] at cL
    have hlt1 := hid r1.lt
    replace r1 := hid r1; replace r2 := hid r2; replace rB := hid rB
    by_cases hlt : k < M
    · have dk : decide ((k : Int) < (M : Int)) = true := decide_eq_true (by omega)
      have hsn := hid (rng_snoc (fun k => num l (img m q (wrd l n k))) k)
      have hld := load_run r1.out
      go_wp2_with (first
        | (go_at_call 120; (with_reducible refine (hpw.out _).mono ?_); rintro e w1 ⟨rfl, rfl⟩))
      refine wp_region_held_drew (S := fun w' => Hid (MB w' 27 w.heap.size m) ∧ Hid (Below wr.heap.size wr w') ∧ (loadVar 27 ⟨w.heap.size, 0, none⟩).run Tryz.prog w' = .ok (.agg (mcells m)) w' ∧ w'.cell? ⟨w.heap.size, 0, none⟩ = some (.int .i64 (l : Int))) (by kernel_rfl) ⟨hid r1.out.drew, hid (Below.refl _ _).drew, load_run r1.out.drew, cL⟩ (fun hHeld => ?_)
      refine wpAnyH_take (i := 0) (v := .agg (mcells m)) rfl (by kernel_rfl) (by kernel_rfl) (by kernel_rfl) (fun _ _ _ h => h) (Or.inl ⟨by rfl, ?_⟩) (by assumption) ?_
      · (intro W hW; exact exec_load _ rfl rfl (load_run hW.1.out))
      try simp only [Act.put, List.setIfInBounds_toArray, List.set_cons_zero, List.set_cons_succ]
      refine wpAnyH_take (i := 1) (v := ?_) rfl (by kernel_rfl) (by kernel_rfl) (by kernel_rfl) (fun _ _ _ h => h) (Or.inl ⟨by rfl, ?_⟩) (by assumption) ?_
      rotate_left
      · (intro W hW; (try dsimp only at hW); go_simp; (with_reducible rfl))
      try simp only [Act.put, List.setIfInBounds_toArray, List.set_cons_zero, List.set_cons_succ]
      refine wpAnyH_take (i := 2) (v := ?_) rfl (by kernel_rfl) (by kernel_rfl) (by kernel_rfl) (fun _ _ _ h => h) (Or.inl ⟨by rfl, ?_⟩) (by assumption) ?_
      rotate_left
      · (intro W hW; (try dsimp only at hW); go_simp; (with_reducible rfl))
      try simp only [Act.put, List.setIfInBounds_toArray, List.set_cons_zero, List.set_cons_succ]
      refine wpAnyH_take (i := 3) (v := ?_) rfl (by kernel_rfl) (by kernel_rfl) (by kernel_rfl) (fun _ _ _ h => h) (Or.inl ⟨by rfl, ?_⟩) (by assumption) ?_
      rotate_left
      · (intro W hW; (try dsimp only at hW); go_simp; (with_reducible rfl))
      try simp only [Act.put, List.setIfInBounds_toArray, List.set_cons_zero, List.set_cons_succ]
      refine wpAnyH_take (i := 4) (v := ?_) rfl (by kernel_rfl) (by kernel_rfl) (by kernel_rfl) (fun _ _ _ h => h) (Or.inl ⟨by rfl, ?_⟩) (by assumption) ?_
      rotate_left
      · (intro W hW; (try dsimp only at hW); go_simp; (with_reducible rfl))
      try simp only [Act.put, List.setIfInBounds_toArray, List.set_cons_zero, List.set_cons_succ]
      refine wpAnyH_take (i := 5) (v := ?_) rfl (by kernel_rfl) (by kernel_rfl) (by kernel_rfl) (fun _ _ _ h => h) (Or.inl ⟨by rfl, ?_⟩) (by assumption) ?_
      rotate_left
      · (intro W hW; (try dsimp only at hW); go_simp; (with_reducible rfl))
      try simp only [Act.put, List.setIfInBounds_toArray, List.set_cons_zero, List.set_cons_succ]
      refine wpAnyH_ready (rs := [6]) (by kernel_rfl) (by simp) ?_
      refine AllReadyH.cons rfl (fun K hK => ?_) AllReadyH.nil
      go_simp
      go_at_call 128; (with_reducible refine (hwo.out k hlt _).mono ?_); rintro e w1 ⟨rfl, hb1⟩; replace hb1 := hid hb1; go_simp
      refine hK.out _ _ (keepM hHeld ⟨hb1, Nat.le_refl _⟩) (fun hHeld' => ?_)
      clear hK K hb1 hHeld
      have hHeld := hHeld'
      clear hHeld'
      try simp only [Act.put, List.setIfInBounds_toArray, List.set_cons_zero, List.set_cons_succ]
      refine wpAnyH_ready (rs := [7]) (by kernel_rfl) (by simp) ?_
      refine AllReadyH.cons rfl (fun K hK => ?_) AllReadyH.nil
      go_simp
      go_at_call 220; (with_reducible refine (hact.out k _).mono ?_); rintro e w2 ⟨rfl, hb1⟩; replace hb1 := hid hb1; go_simp
      refine hK.out _ _ (keepM hHeld ⟨hb1, Nat.le_refl _⟩) (fun hHeld' => ?_)
      clear hK K hb1 hHeld
      have hHeld := hHeld'
      clear hHeld'
      try simp only [Act.put, List.setIfInBounds_toArray, List.set_cons_zero, List.set_cons_succ]
      refine wpAnyH_take (i := 8) (v := ?_) rfl (by kernel_rfl) (by kernel_rfl) (by kernel_rfl) (fun _ _ _ h => h) (Or.inl ⟨by rfl, ?_⟩) (by assumption) ?_
      rotate_left
      · (intro W hW; (try dsimp only at hW); go_simp; (with_reducible rfl))
      try simp only [Act.put, List.setIfInBounds_toArray, List.set_cons_zero, List.set_cons_succ]
      refine wpAnyH_take (i := 9) (v := ?_) rfl (by kernel_rfl) (by kernel_rfl) (by kernel_rfl) (fun _ _ _ h => h) (Or.inl ⟨by rfl, ?_⟩) (by assumption) ?_
      rotate_left
      · (intro W hW; (try dsimp only at hW); go_simp; (with_reducible rfl))
      try simp only [Act.put, List.setIfInBounds_toArray, List.set_cons_zero, List.set_cons_succ]
      refine wpAnyH_take (i := 10) (v := ?_) rfl (by kernel_rfl) (by kernel_rfl) (by kernel_rfl) (fun _ _ _ h => h) (Or.inl ⟨by rfl, ?_⟩) (by assumption) ?_
      rotate_left
      · (intro W hW; (try dsimp only at hW); go_simp; (with_reducible rfl))
      try simp only [Act.put, List.setIfInBounds_toArray, List.set_cons_zero, List.set_cons_succ]
      refine wpAnyH_take (i := 11) (v := ?_) rfl (by kernel_rfl) (by kernel_rfl) (by kernel_rfl) (fun _ _ _ h => h) (Or.inl ⟨by rfl, ?_⟩) (by assumption) ?_
      rotate_left
      · (intro W hW; (try dsimp only at hW); go_simp; (with_reducible rfl))
      try simp only [Act.put, List.setIfInBounds_toArray, List.set_cons_zero, List.set_cons_succ]
      refine wpAnyH_take (i := 12) (v := ?_) rfl (by kernel_rfl) (by kernel_rfl) (by kernel_rfl) (fun _ _ _ h => h) (Or.inl ⟨by rfl, ?_⟩) (by assumption) ?_
      rotate_left
      · (intro W hW; (try dsimp only at hW); go_simp; (with_reducible rfl))
      try simp only [Act.put, List.setIfInBounds_toArray, List.set_cons_zero, List.set_cons_succ]
      refine wpAnyH_done (by kernel_rfl) ?_ _
      obtain ⟨t1, tb, _, cL2⟩ := hHeld
      have t2 := hid (r2.out.below tb.out)
      have tB := hid (rB.out.trans (tb.out.mono rB.out.size))
      have tlt := hid t1.out.lt
      clear hld cL r1 r2 rB tb
      go_wp2_with (first
        | (go_at_call 210; (with_reducible refine (hnum.out k _).mono ?_); rintro e w3 ⟨rfl, rfl⟩)
        | ((with_reducible refine gate (N := 37) rfl ?_); refine app1 32 2 (.int .i64 0) 8 Tryz.underlying32 info_i64 rfl (by omega) rfl _ _ rfl (w.heap.size + 1) _ _ rfl t2.out tlt.out _ rfl rfl (by have := hll.out; omega) ?_; intro gn cap w4 hO2 hb2 hold hsz2 _; have y1 := hid (show MB w4 27 w.heap.size m from World.rowIs.of_block t1.out (hold _ tlt.out (fun e => by have := (t2.out.lt _ e).1; omega))); replace hO2 := hid hO2; have yB := hid (tB.out.trans (hb2.mono (Nat.le_succ _))); clear hb2 hold hsz2 t1 t2 tB cL2))
      go_roundw
      case rel => exact ⟨k + 1, by omega, by go_num, y1.out, by rw [hsn.out]; exact hO2.out, yB.out⟩
      case measure => simp [intOf]; omega
    · obtain rfl : k = M := by omega
      go_wp2_with (first
        | (go_at_call 120; (with_reducible refine (hpw.out _).mono ?_); rintro e w1 ⟨rfl, rfl⟩))
      go_ret
      exact ⟨_, rfl, by rw [← hres.out]; exact r2.out.mono (Nat.le_succ _), rB.out⟩
end Go.Proofs.YthmcdfjijkecfaaGreat

/- Lists of numbers that come back: compared, marked, and held. -/
namespace Go.Proofs.YthmcdfjijkecfaaGreat
open Go.RowKit
set_option linter.unusedVariables false
set_option linter.unusedSimpArgs false

theorem Own.set {w : World} {base e g n cap : Nat} {cs : List Value} (h : Own w base e (.slice (some ⟨g, 0, none⟩) n cap) cs) (hn : cs.length = n) (j : Nat) (u : Value) (hj : j < n) :
    Own (w.setCell ⟨g, j, none⟩ u) base e (.slice (some ⟨g, 0, none⟩) n cap) (cs.set j u) := by
  unfold Own at *
  rw [List.length_set, hn]
  rw [hn] at h
  exact (World.ownsRow.stored h j u).1
theorem Own.frozenAt {w : World} {base e g n cap : Nat} {cs : List Value} (h : Own w base e (.slice (some ⟨g, 0, none⟩) n cap) cs) (hn : cs.length = n) (j : Nat) : w.frozen? ⟨g, j, none⟩ = false := by
  unfold Own at h
  rw [hn] at h
  exact World.ownsRow.frozenAt h j


/-- The marks. -/
def marks (k n : Nat) : List Value := (List.range n).map fun i => .int .i64 ((k + i : Nat) : Int)
theorem marks_get (k n i : Nat) (h : i < n) : (marks k n)[i]? = some (.int .i64 ((k + i : Nat) : Int)) := by simp [marks, h]
theorem marks_length (k n : Nat) : (marks k n).length = n := by simp [marks]



end Go.Proofs.YthmcdfjijkecfaaGreat
