/- What the proof of FnDuals leans on, part 5 of 26. -/
import Derived.Test.YtbmkkaecfogmoaaZFnDualsD
import Derived.RegionTactic
import Derived.BigRegion
import Derived.StillTailTactics
import Derived.Deep.CutBlock
import Derived.Deep.RegionHeld3
import Derived.Deep.DeepCutAuto
/- The inverse machine: what the program's inverse and the reference's l01Inverse both come to. -/
namespace Go.Proofs.Ytbmkkaecfogmoaa
open Go.RowKit
set_option linter.unusedVariables false
set_option linter.unusedSimpArgs false

theorem heap_alloc_size (w : World) (o : Obj) : (w.alloc o).heap.size = w.heap.size + 1 := by simp

/-- One entry of the inverse. -/
def stepI (m : Mach) (q x : Nat) (o : Mach) : Mach :=
  { o with nx := upd o.nx (q * 3 + m.ot (q * 3 + x)) (m.nx (q * 3 + x)), ot := upd o.ot (q * 3 + m.ot (q * 3 + x)) x }
def rowI (m : Mach) (q : Nat) : Nat → Mach → Mach
  | 0, o => o
  | x + 1, o => stepI m q x (rowI m q x o)
def allI (m : Mach) (l : Nat) : Nat → Mach
  | 0 => ⟨m.L, m.S, fun _ => 0, fun _ => 0⟩
  | q + 1 => rowI m q l (allI m l q)
/-- The inverse machine of a machine with l letters and s states. -/
def inv (m : Mach) (l s : Nat) : Mach := allI m l s

theorem rowI_LS (m : Mach) (q : Nat) (o : Mach) : ∀ x, (rowI m q x o).L = o.L ∧ (rowI m q x o).S = o.S
  | 0 => ⟨rfl, rfl⟩
  | x + 1 => rowI_LS m q o x
theorem allI_LS (m : Mach) (l : Nat) : ∀ q, (allI m l q).L = m.L ∧ (allI m l q).S = m.S
  | 0 => ⟨rfl, rfl⟩
  | q + 1 => by
    have h := rowI_LS m q (allI m l q) l
    have k := allI_LS m l q
    exact ⟨h.1.trans k.1, h.2.trans k.2⟩

theorem rowI_out (m : Mach) (q : Nat) (o : Mach) (i : Nat) : ∀ x, (∀ y, y < x → i ≠ q * 3 + m.ot (q * 3 + y)) → (rowI m q x o).nx i = o.nx i ∧ (rowI m q x o).ot i = o.ot i
  | 0, _ => ⟨rfl, rfl⟩
  | x + 1, h => by
    obtain ⟨h1, h2⟩ := rowI_out m q o i x (fun y hy => h y (by omega))
    have hx := h x (by omega)
    unfold rowI stepI upd
    dsimp only
    rw [if_neg hx, if_neg hx]
    exact ⟨h1, h2⟩

theorem rowI_in (m : Mach) (q : Nat) (o : Mach) : ∀ x, (∀ y z, y < z → z < x → m.ot (q * 3 + y) ≠ m.ot (q * 3 + z)) → ∀ y, y < x →
    (rowI m q x o).nx (q * 3 + m.ot (q * 3 + y)) = m.nx (q * 3 + y) ∧ (rowI m q x o).ot (q * 3 + m.ot (q * 3 + y)) = y
  | 0, _, y, hy => absurd hy (by omega)
  | x + 1, h, y, hy => by
    unfold rowI stepI upd
    dsimp only
    by_cases e : y = x
    · subst e; rw [if_pos rfl, if_pos rfl]; exact ⟨rfl, rfl⟩
    · have hne := h y x (by omega) (by omega)
      rw [if_neg (by omega), if_neg (by omega)]
      exact rowI_in m q o x (fun a b hab hb => h a b hab (by omega)) y (by omega)

theorem allI_out (m : Mach) (l : Nat) (i : Nat) : ∀ s, (∀ q y, q < s → y < l → i ≠ q * 3 + m.ot (q * 3 + y)) → (allI m l s).nx i = 0 ∧ (allI m l s).ot i = 0
  | 0, _ => ⟨rfl, rfl⟩
  | s + 1, h => by
    have h1 := rowI_out m s (allI m l s) i l (fun y hy => h s y (by omega) hy)
    have h2 := allI_out m l i s (fun q y hq hy => h q y (by omega) hy)
    exact ⟨h1.1.trans h2.1, h1.2.trans h2.2⟩

theorem allI_in (m : Mach) (l : Nat) (hl : l ≤ 3) : ∀ s, (∀ q x, q < s → x < l → m.ot (q * 3 + x) < l) → (∀ q, q < s → ∀ y x, y < x → x < l → m.ot (q * 3 + y) ≠ m.ot (q * 3 + x)) →
    ∀ q y, q < s → y < l → (allI m l s).nx (q * 3 + m.ot (q * 3 + y)) = m.nx (q * 3 + y) ∧ (allI m l s).ot (q * 3 + m.ot (q * 3 + y)) = y
  | 0, _, _, q, y, hq, _ => absurd hq (by omega)
  | s + 1, hb, hi, q, y, hq, hy => by
    by_cases e : q = s
    · subst e
      exact rowI_in m q (allI m l q) l (fun a b hab hb => hi q (by omega) a b hab hb) y hy
    · have h1 := rowI_out m s (allI m l s) (q * 3 + m.ot (q * 3 + y)) l (fun z hz => by
        have := hb q y (by omega) hy
        have := hb s z (by omega) hz
        omega)
      have h2 := allI_in m l hl s (fun q x hq hx => hb q x (by omega) hx) (fun q hq => hi q (by omega)) q y (by omega) hy
      exact ⟨h1.1.trans h2.1, h1.2.trans h2.2⟩

/-- The inverse of a machine is a machine. -/
theorem inv_good {m : Mach} {l s : Nat} (g : Good m l s) : Good (inv m l s) l s := by
  have hin := allI_in m l g.l3 s g.ot g.inj
  have hsurj : ∀ q, q < s → ∀ k, k < l → ∃ y, y < l ∧ m.ot (q * 3 + y) = k := fun q hq => surj_of_inj (f := fun y => m.ot (q * 3 + y)) (fun y hy => g.ot q y hq hy) (fun y x hy hx => g.inj q hq y x hy hx)
  refine ⟨(allI_LS m l s).1.trans g.L, (allI_LS m l s).2.trans g.S, g.l2, g.l3, g.s1, g.s16, fun q x hq hx => ?_, fun q x hq hx => ?_, fun q hq y x hy hx e => ?_, fun q x hq hx hn => ?_⟩
  · obtain ⟨y, hy, rfl⟩ := hsurj q hq x hx
    show (allI m l s).nx _ < s
    rw [(hin q y hq hy).1]; exact g.nx q y hq hy
  · obtain ⟨y, hy, rfl⟩ := hsurj q hq x hx
    show (allI m l s).ot _ < l
    rw [(hin q y hq hy).2]; exact hy
  · obtain ⟨a, ha, ea⟩ := hsurj q hq x hx
    obtain ⟨b, hb, eb⟩ := hsurj q hq y (by omega)
    have h1 : (allI m l s).ot (q * 3 + x) = a := by rw [← ea]; exact (hin q a hq ha).2
    have h2 : (allI m l s).ot (q * 3 + y) = b := by rw [← eb]; exact (hin q b hq hb).2
    have e' : (allI m l s).ot (q * 3 + y) = (allI m l s).ot (q * 3 + x) := e
    rw [h1, h2] at e'
    rw [e', ea] at eb
    omega
  · have := allI_out m l (q * 3 + x) s (fun p y hp hy => by
      have h1 := g.ot p y hp hy
      have h3 := g.l3
      intro e
      have hpq : p = q := by omega
      subst hpq
      exact hn ⟨hp, by omega⟩)
    exact this

theorem inv_ok {m : Mach} {l s : Nat} (g : Good m l s) : (inv m l s).Ok := fun i => by
  have h := inv_good g
  have hin := allI_in m l g.l3 s g.ot g.inj
  by_cases hex : ∃ q y, q < s ∧ y < l ∧ i = q * 3 + m.ot (q * 3 + y)
  · obtain ⟨q, y, hq, hy, rfl⟩ := hex
    have h1 : (inv m l s).nx (q * 3 + m.ot (q * 3 + y)) = m.nx (q * 3 + y) := (hin q y hq hy).1
    have h2 : (inv m l s).ot (q * 3 + m.ot (q * 3 + y)) = y := (hin q y hq hy).2
    have := g.nx q y hq hy
    have := g.s16
    have := g.l3
    rw [h1, h2]; exact ⟨by omega, by omega⟩
  · have := allI_out m l i s (fun q y hq hy e => hex ⟨q, y, hq, hy, e⟩)
    have h1 : (inv m l s).nx i = 0 := this.1
    have h2 : (inv m l s).ot i = 0 := this.2
    rw [h1, h2]; exact ⟨by omega, by omega⟩

theorem storeCells_mach {w : World} {b t : Nat} {f : Nat → Value} (hrow : w.rowIs b t 98 f) (m : Mach) :
    ∃ W1, (storeCells ⟨b, 0, none⟩ (mcells m).toList).run Try.prog w = .ok () W1 ∧ MB W1 t b m ∧ (∀ k, k ≠ b → W1.heap[k]? = w.heap[k]?) ∧ W1.heap.size = w.heap.size ∧ (∀ (B : Nat) (a : World), B ≤ b → Below B a w → Below B a W1) := by
  have ht := rowIs_there hrow 0 98 (by omega)
  have hl : (mcells m).toList.length = 98 := by simp [size_mcells]
  have := run_storeCells_cells (P := Try.prog) b 0 (mcells m).toList 0 w (fun j hj => by simpa using (ht j (by omega)).1) (fun j hj => by simpa using (ht j (by omega)).2)
    (fun v hv => (Array.all_eq_true_iff_forall_mem.1 (one_mach m)) v (by simpa using hv))
  exact ⟨_, this, World.rowIs.congr (rowIs_setCells _ _ _ _ hrow) fun i hi => put_all _ _ _ _ hi, fun k hk => block_setCells hk _ _ _, heap_setCells _ _ _, fun B a hB hb => below_setCells hB _ _ hb⟩

set_option maxHeartbeats 2000000 in
set_option maxRecDepth 100000 in
theorem l01Inverse_any (w : World) (m : Mach) (l s : Nat) (g : Good m l s) (hk : m.Ok) :
    Calls Try.prog 156 #[.agg (mcells m)] w fun e w' => e = .returned (.agg (mcells (inv m l s))) ∧ Below w.heap.size w w' := by
  have cL := mcells_L m
  have cS := mcells_S m
  have hz := zero_mach
  have l2 := g.l2; have l3 := g.l3; have s1 := g.s1; have s16 := g.s16
  have gL := hid g.L
  have gS := hid g.S
  have h1 := hid (MB.new w m 27)
  have h0 := hid (fun w' : World => MB.new w' ⟨0, 0, fun _ => 0, fun _ => 0⟩ 27)
  have hB := hid (below_alloc (below_alloc (below_alloc (Below.refl w.heap.size w) (Nat.le_refl _) (.cells (mcells m) 27)) (Nat.le_refl _) (.cells (mcells ⟨0, 0, fun _ => 0, fun _ => 0⟩) 27)) (Nat.le_refl _) (.cells (mcells ⟨0, 0, fun _ => 0, fun _ => 0⟩) 27))
  replace g := hid g
  replace hk := hid hk
  generalize mcells ⟨0, 0, fun _ => 0, fun _ => 0⟩ = zs at *
  go_enter Try.func156, Try.ntmps156
  go_wp2_with (first
    | ((with_reducible refine gate (N := 11) rfl ?_); refine build_mach rfl _ _ rfl m.L m.S rfl rfl ?_)
    | ((with_reducible refine gateOp (op := .store 27 (.tmp 3) (.tmp 11)) rfl ?_); have q3 := hid (h0.out ((w.alloc (.cells (mcells m) 27)).alloc (.cells zs 27))); have q2 := hid ((h0.out (w.alloc (.cells (mcells m) 27))).alloc (.cells zs 27)); have q1 := hid ((h1.out.alloc (.cells zs 27)).alloc (.cells zs 27)); clear h0 h1 hz; rw [heap_alloc_size, heap_alloc_size] at q3; rw [heap_alloc_size] at q2; generalize ((w.alloc (.cells (mcells m) 27)).alloc (.cells zs 27)).alloc (.cells zs 27) = W0 at *; refine store_mach rfl _ _ rfl (w.heap.size + 1 + 1) rfl ⟨m.L, m.S, fun _ => 0, fun _ => 0⟩ rfl 27 _ q3.out ?_; intro W1 p3 ho hsz hbl; have p1 := hid (World.rowIs.of_block q1.out (ho _ (by omega))); have p2 := hid (World.rowIs.of_block q2.out (ho _ (by omega))); have pB := hid (hbl _ _ (by omega) hB.out); replace p3 := hid p3; clear ho hsz hbl q1 q2 q3 hB))
  clear cL cS
  go_loopw [4] (fun i wr => ∃ q : Nat, q ≤ s ∧ i = .int .i64 q ∧ MB wr 27 w.heap.size m ∧ MB wr 27 (w.heap.size + 1) ⟨0, 0, fun _ => 0, fun _ => 0⟩ ∧ MB wr 27 (w.heap.size + 1 + 1) (allI m l q) ∧ Below w.heap.size w wr) (fun i _ => s - (intOf i).toNat)
  case atStart => exact ⟨0, by omega, rfl, p1.out, p2.out, p3.out, pB.out⟩
  case round =>
    obtain ⟨q, hq, rfl, r1, r2, r3, rB⟩ := hrel
    clear p1 p2 p3 pB
    have cL := r1.cL
    have cS := r1.cS
    rw [gL.out] at cL
    rw [gS.out] at cS
    replace r1 := hid r1; replace r2 := hid r2; replace r3 := hid r3; replace rB := hid rB
    by_cases hlq : q < s
    · have dq : decide ((q : Int) < (s : Int)) = true := decide_eq_true (by omega)
      obtain ⟨wo, rfl⟩ : ∃ wo : World, wo = wr := ⟨_, rfl⟩
      go_wp2
      clear cL cS
      go_loopw [5] (fun i wr => ∃ x : Nat, x ≤ l ∧ i = .int .i64 x ∧ MB wr 27 w.heap.size m ∧ MB wr 27 (w.heap.size + 1) ⟨0, 0, fun _ => 0, fun _ => 0⟩ ∧ MB wr 27 (w.heap.size + 1 + 1) (rowI m q x (allI m l q)) ∧ Below w.heap.size w wr) (fun i _ => l - (intOf i).toNat)
      case atStart => exact ⟨0, by omega, rfl, r1.out, r2.out, r3.out, rB.out⟩
      case round =>
        obtain ⟨x, hx, rfl, t1, t2, t3, tB⟩ := hrel
        have cL := t1.cL
        have cS := t1.cS
        rw [gL.out] at cL
        rw [gS.out] at cS
        replace t1 := hid t1; replace t2 := hid t2; replace t3 := hid t3; replace tB := hid tB
        by_cases hlx : x < l
        · have dx : decide ((x : Int) < (l : Int)) = true := decide_eq_true (by omega)
          have h2 := t1.out.cot q x (by omega) (by omega)
          have hn := g.out.nx q x hlq hlx
          have ho := g.out.ot q x hlq hlx
          have hstep := hid (show rowI m q (x + 1) (allI m l q) = stepI m q x (rowI m q x (allI m l q)) from rfl)
          have hst2 := hid (show stepI m q x (rowI m q x (allI m l q)) = { rowI m q x (allI m l q) with nx := upd (rowI m q x (allI m l q)).nx (q * 3 + m.ot (q * 3 + x)) (m.nx (q * 3 + x)), ot := upd (rowI m q x (allI m l q)).ot (q * 3 + m.ot (q * 3 + x)) x } from rfl)
          have h1c := hid (fun W (hW : MB W 27 w.heap.size m) => hW.cnx q x (by omega) (by omega))
          generalize hnx : m.nx (q * 3 + x) = nx at *
          generalize hot : m.ot (q * 3 + x) = ot at *
          replace hnx := hid hnx; replace hot := hid hot
          obtain ⟨vo, co⟩ : ∃ u, wr.cell? ⟨w.heap.size + 1 + 1, 50 + q * 3 + ot, none⟩ = some u := ⟨_, t3.out.cot q ot (by omega) (by omega)⟩
          have fo : wr.frozen? ⟨w.heap.size + 1 + 1, 50 + q * 3 + ot, none⟩ = false := World.rowIs.frozen t3.out _
          have xm : ((x : Int) % 256) = x := by omega
          go_upto_region 10 with (fail)
          have y1 := hid (t1.out.setOther (a := ⟨w.heap.size + 1 + 1, 50 + q * 3 + ot, none⟩) (by simp; omega) (.int .u8 (x : Nat)))
          have y2 := hid (t2.out.setOther (a := ⟨w.heap.size + 1 + 1, 50 + q * 3 + ot, none⟩) (by simp) (.int .u8 (x : Nat)))
          have y3 := hid (t3.out.setOt q ot x (by omega) (by omega))
          have yB := hid (tB.out.setCell (p := ⟨w.heap.size + 1 + 1, 50 + q * 3 + ot, none⟩) (by simp; omega) (.int .u8 (x : Nat)))
          clear t1 t2 t3 tB cL cS h2 co fo
          generalize wr.setCell ⟨w.heap.size + 1 + 1, 50 + q * 3 + ot, none⟩ (.int .u8 (x : Nat)) = W2 at *
          have h1 := h1c.out W2 y1.out
          obtain ⟨vo, co⟩ : ∃ u, W2.cell? ⟨w.heap.size + 1 + 1, 2 + q * 3 + ot, none⟩ = some u := ⟨_, y3.out.cnx q ot (by omega) (by omega)⟩
          have fo : W2.frozen? ⟨w.heap.size + 1 + 1, 2 + q * 3 + ot, none⟩ = false := World.rowIs.frozen y3.out _
          go_region
          go_wp2
          go_roundw
          case rel =>
            refine ⟨x + 1, by omega, by go_num, (y1.out.setOther (by simp; omega) _).drew, (y2.out.setOther (by simp) _).drew, ?_, (yB.out.setCell (by simp; omega) _).drew⟩
            have := (y3.out.setNx q ot nx (by omega) (by omega)).drew
            rw [hstep.out, hst2.out]
            exact this
          case measure => simp [intOf]; omega
        · obtain rfl : x = l := by omega
          go_wp2
          go_roundw
          case rel => exact ⟨q + 1, by omega, by go_num, t1.out, t2.out, t3.out, tB.out⟩
          case measure => simp [intOf]; omega
    · obtain rfl : q = s := by omega
      go_wp2_with (first
        | ((with_reducible refine gate (N := 48) rfl ?_); refine load_mach rfl _ rfl (w.heap.size + 1 + 1) rfl _ r3.out ?_)
        | ((with_reducible refine gateOp (op := .store 27 (.tmp 2) (.tmp 48)) rfl ?_); refine store_mach rfl _ _ rfl (w.heap.size + 1) rfl _ rfl 27 _ r2.out ?_; intro W3 p2 ho hsz hbl; have pB := hid (hbl _ _ (by omega) rB.out); replace p2 := hid p2; clear ho hsz hbl))
      exact ret_mach rfl rfl p2.out rfl ⟨rfl, pB.out⟩

set_option maxHeartbeats 2000000 in
set_option maxRecDepth 100000 in
theorem inverse_any (b : Nat) (w : World) (m : Mach) (hm : MB w 27 b m) (l s : Nat) (g : Good m l s) (hk : m.Ok) :
    Calls Try.prog 168 #[.pointer (some ⟨b, 0, none⟩)] w fun e w' => e = .returned (.agg (mcells (inv m l s))) ∧ Below w.heap.size w w' := by
  have hz := zero_mach
  have l2 := g.l2; have l3 := g.l3; have s1 := g.s1; have s16 := g.s16
  have gL := hid g.L
  have gS := hid g.S
  have h0 := hid (fun w' : World => MB.new w' ⟨0, 0, fun _ => 0, fun _ => 0⟩ 27)
  have hblt := hm.lt
  replace hm := hid hm
  replace g := hid g
  replace hk := hid hk
  have hset := set_LS ⟨(l : Int), (s : Int), m.nx, m.ot⟩
  have hzsz := size_mcells ⟨0, 0, fun _ => 0, fun _ => 0⟩
  generalize hls : mcells ⟨(l : Int), (s : Int), fun _ => 0, fun _ => 0⟩ = ls at *
  replace hls := hid hls
  generalize mcells ⟨0, 0, fun _ => 0, fun _ => 0⟩ = zs at *
  have hzne : ¬ zs = #[] := fun e => by rw [e] at hzsz; simp at hzsz
  go_enter Try.func168, Try.ntmps168
  go_upto_region 1 with (fail)
  have p2 := hid (h0.out w)
  have q1 := hid (hm.out.alloc (.cells zs 27))
  have hB := hid (below_alloc (Below.refl w.heap.size w) (Nat.le_refl _) (.cells zs 27))
  have p3 := hid (h0.out (w.alloc (.cells zs 27)))
  have p2b := hid (p2.out.alloc (.cells zs 27))
  have q1b := hid (q1.out.alloc (.cells zs 27))
  have hBb := hid (below_alloc hB.out (Nat.le_refl _) (.cells zs 27))
  rw [heap_alloc_size] at p3
  have cL := q1.out.cL
  have cS := q1.out.cS
  rw [gL.out] at cL
  rw [gS.out] at cS
  obtain ⟨W1, hrun, r3, ho, hsz, hbl⟩ := storeCells_mach p3.out.drew ⟨(l : Int), (s : Int), fun _ => 0, fun _ => 0⟩
  rw [hls.out] at hrun
  have hlsz : ls.size = 98 := by rw [← hls.out]; exact size_mcells _
  have r2 := hid (show MB W1 27 w.heap.size ⟨0, 0, fun _ => 0, fun _ => 0⟩ from World.rowIs.of_block p2b.out.drew (ho _ (by omega)))
  have r1 := hid (show MB W1 27 b m from World.rowIs.of_block q1b.out.drew (ho _ (by omega)))
  have rB := hid (hbl _ _ (by omega) hBb.out.drew)
  replace r3 := hid (show MB W1 27 (w.heap.size + 1) (allI m l 0) by unfold allI; rw [gL.out, gS.out]; exact r3)
  clear ho hsz hbl p2 p2b q1b hB hBb p3
  go_region_held3 (fun w' => w'.cell? ⟨b, 0, none⟩ = some (.int .i64 (l : Int)) ∧ w'.cell? ⟨b, 1, none⟩ = some (.int .i64 (s : Int)))
    (first
      | go_keep
      | exact ⟨by rw [← gL.out]; exact r1.out.cL, by rw [← gS.out]; exact r1.out.cS⟩)
    (fail)
  clear cL cS hrun
  have cL := r1.out.cL
  have cS := r1.out.cS
  rw [gL.out] at cL
  rw [gS.out] at cS
  go_wp2
  clear cL cS
  go_loopw [20] (fun i wr => ∃ q : Nat, q ≤ s ∧ i = .int .i64 q ∧ MB wr 27 b m ∧ MB wr 27 w.heap.size ⟨0, 0, fun _ => 0, fun _ => 0⟩ ∧ MB wr 27 (w.heap.size + 1) (allI m l q) ∧ Below w.heap.size w wr) (fun i _ => s - (intOf i).toNat)
  case atStart => exact ⟨0, by omega, rfl, r1.out, r2.out, r3.out, rB.out⟩
  case round =>
    obtain ⟨q, hq, rfl, r1, r2, r3, rB⟩ := hrel
    have cL := r1.cL
    have cS := r1.cS
    rw [gL.out] at cL
    rw [gS.out] at cS
    replace r1 := hid r1; replace r2 := hid r2; replace r3 := hid r3; replace rB := hid rB
    by_cases hlq : q < s
    · have dq : decide ((q : Int) < (s : Int)) = true := decide_eq_true (by omega)
      obtain ⟨wo, rfl⟩ : ∃ wo : World, wo = wr := ⟨_, rfl⟩
      go_wp2
      clear cL cS
      go_loopw [27] (fun i wr => ∃ x : Nat, x ≤ l ∧ i = .int .i64 x ∧ MB wr 27 b m ∧ MB wr 27 w.heap.size ⟨0, 0, fun _ => 0, fun _ => 0⟩ ∧ MB wr 27 (w.heap.size + 1) (rowI m q x (allI m l q)) ∧ Below w.heap.size w wr) (fun i _ => l - (intOf i).toNat)
      case atStart => exact ⟨0, by omega, rfl, r1.out, r2.out, r3.out, rB.out⟩
      case round =>
        obtain ⟨x, hx, rfl, t1, t2, t3, tB⟩ := hrel
        replace t1 := hid t1; replace t2 := hid t2; replace t3 := hid t3; replace tB := hid tB
        by_cases hlx : x < l
        · have dx : decide ((x : Int) < (l : Int)) = true := decide_eq_true (by omega)
          have hn := g.out.nx q x hlq hlx
          have ho := g.out.ot q x hlq hlx
          have h1 := t1.out.cnx q x (by omega) (by omega)
          have hstep := hid (show rowI m q (x + 1) (allI m l q) = stepI m q x (rowI m q x (allI m l q)) from rfl)
          have hst2 := hid (show stepI m q x (rowI m q x (allI m l q)) = { rowI m q x (allI m l q) with nx := upd (rowI m q x (allI m l q)).nx (q * 3 + m.ot (q * 3 + x)) (m.nx (q * 3 + x)), ot := upd (rowI m q x (allI m l q)).ot (q * 3 + m.ot (q * 3 + x)) x } from rfl)
          have hcall := hid (fun W (hW : MB W 27 b m) => out_any b W m hW q x (by omega) (by omega) (by omega))
          generalize m.nx (q * 3 + x) = nx at *
          generalize m.ot (q * 3 + x) = ot at *
          obtain ⟨vo, co⟩ : ∃ u, wr.cell? ⟨w.heap.size + 1, 50 + q * 3 + ot, none⟩ = some u := ⟨_, t3.out.cot q ot (by omega) (by omega)⟩
          have fo : wr.frozen? ⟨w.heap.size + 1, 50 + q * 3 + ot, none⟩ = false := World.rowIs.frozen t3.out _
          obtain ⟨vn, cn⟩ : ∃ u, wr.cell? ⟨w.heap.size + 1, 2 + q * 3 + ot, none⟩ = some u := ⟨_, t3.out.cnx q ot (by omega) (by omega)⟩
          have fn : wr.frozen? ⟨w.heap.size + 1, 2 + q * 3 + ot, none⟩ = false := World.rowIs.frozen t3.out _
          have xm : ((x : Int) % 256) = x := by omega
          go_wp2_with (go_at_call 185; refine (hcall.out _ t1.out).mono ?_; rintro e w' ⟨rfl, rfl⟩)
          go_region
          go_wp2
          go_roundw
          case rel =>
            have y3 := ((t3.out.setOt q ot x (by omega) (by omega)).setNx q ot nx (by omega) (by omega)).drew
            have hbl := t1.out.lt
            exact ⟨x + 1, by omega, by go_num, ((t1.out.setOther (by simp; omega) _).setOther (by simp; omega) _).drew, ((t2.out.setOther (by simp) _).setOther (by simp) _).drew, by rw [hstep.out, hst2.out]; exact y3, ((tB.out.setCell (by simp) _).setCell (by simp) _).drew⟩
          case measure => simp [intOf]; omega
        · obtain rfl : x = l := by omega
          go_wp2
          go_roundw
          case rel => exact ⟨q + 1, by omega, by go_num, t1.out, t2.out, t3.out, tB.out⟩
          case measure => simp [intOf]; omega
    · obtain rfl : q = s := by omega
      go_wp2_with (first
        | ((with_reducible refine gate (N := 56) rfl ?_); refine load_mach rfl _ rfl (w.heap.size + 1) rfl _ r3.out ?_)
        | ((with_reducible refine gateOp (op := .store 27 (.tmp 2) (.tmp 56)) rfl ?_); refine store_mach rfl _ _ rfl w.heap.size rfl _ rfl 27 _ r2.out ?_; intro W3 p2 ho hsz hbl; have pB := hid (hbl _ _ (Nat.le_refl _) rB.out); replace p2 := hid p2; clear ho hsz hbl))
      exact ret_mach rfl rfl p2.out rfl ⟨rfl, pB.out⟩
end Go.Proofs.Ytbmkkaecfogmoaa

/- Equal machines are found equal by eqMachine; the dual machine; the two DualMachine answer alike. -/
namespace Go.Proofs.Ytbmkkaecfogmoaa
open Go.RowKit
set_option linter.unusedVariables false
set_option linter.unusedSimpArgs false


theorem still_gate {P : Program} {ops : Array Oper} {o : Oper} {rest : List Oper} {a : Act} {w : World} {Q : Act → Prop} (N : Nat) (_ : o.dst = some N) (h : wpStill P ops w Q (o :: rest) a) : wpStill P ops w Q (o :: rest) a := h
/-- In a region that draws, all reads ahead of the rest: a row read whole. -/
theorem still_row {P : Program} {ops : Array Oper} {o : Oper} {rest : List Oper} {a : Act} {w : World} {Q : Act → Prop} (hgd : o.guard = none) (ty : TypeId) (x : Operand) (ho : o.op = .load ty x)
    (b off : Nat) (hx : a.eval x = .pointer (some ⟨b, off, none⟩)) (cs : List Value) (d : TypeDesc) (hc : w.rangeAt b off cs) (hu : P.underlying ty = some d) (hd : d.isRow = true) (hi : (P.info? ty).map (·.size) = some cs.length)
    (h : wpStill P ops w Q rest (a.put o.dst (.agg cs.toArray))) : wpStill P ops w Q (o :: rest) a := by
  refine wpStill_step fun K hK => ?_
  rw [if_pos (by simp [Region.wanted, hgd])]
  unfold Oper.still execOp
  simp only [ho, hx, Instr.loadAt, Instr.sureAddr, Sem.run_bind, Sem.run_pure, Result.andThen_ok, run_loadVar_mid w b off ty cs d hc hu hd hi]
  exact ⟨rfl, hK _ h⟩

end Go.Proofs.Ytbmkkaecfogmoaa

/- The two DualMachine answer alike; the statement's walk. -/
namespace Go.Proofs.Ytbmkkaecfogmoaa
open Go.RowKit
set_option linter.unusedVariables false
set_option linter.unusedSimpArgs false

/-- A machine and a number handed back. -/
theorem ret_mach_i {fn : Func} {R : Ending → World → Prop} {a : Act} {w : World} {p q : Nat} (h : fn.results = #[.cell p 27, .tmp q]) {g t : Nat} {m : Mach} {n : Int}
    (hp : a.tmps.getD p undef = .pointer (some ⟨g, 0, none⟩)) (hq : a.tmps.getD q undef = .int .i64 n) (hm : MB w t g m) (hdf : a.defers = []) (hR : R (.returned (.tuple #[.agg (mcells m), .int .i64 n])) w) : bodyPost Try.prog fn R .ret a w := by
  refine bodyPost_ret (v := .tuple #[.agg (mcells m), .int .i64 n]) ?_ hdf hR
  have hp' : a.tmps[p]?.getD undef = .pointer (some ⟨g, 0, none⟩) := by simpa using hp
  have hq' : a.tmps[q]?.getD undef = .int .i64 n := by simpa using hq
  have := run_loadVar_row (P := Try.prog) w g t 27 (mcells m) (0, 0) _ hm.heap Try.underlying27 rfl (by rw [size_mcells]; exact sz_mach)
  simp [results, h, hp', hq', asAddr, this]

/-- One entry of the dual. -/
def stepD (m : Mach) (x q : Nat) (o : Mach) : Mach :=
  { o with nx := upd o.nx (x * 3 + q) (m.ot (q * 3 + x)), ot := upd o.ot (x * 3 + q) (m.nx (q * 3 + x)) }
def rowD (m : Mach) (x : Nat) : Nat → Mach → Mach
  | 0, o => o
  | q + 1, o => stepD m x q (rowD m x q o)
def allD (m : Mach) (s : Nat) : Nat → Mach
  | 0 => ⟨m.S, m.L, fun _ => 0, fun _ => 0⟩
  | x + 1 => rowD m x s (allD m s x)
def dual (m : Mach) (l s : Nat) : Mach := allD m s l

open Classical in
/-- What DualMachine answers. -/
noncomputable def dualAns (m : Mach) : Mach × Int :=
  if IsM m then (if 2 ≤ m.S ∧ m.S ≤ 3 then (if ∀ l s, Good m l s → RevP m l s then (dual m m.L.toNat m.S.toNat, 0) else (zeroM, 5)) else (zeroM, 2)) else (zeroM, 1)

theorem good_uniq {m : Mach} {l s l' s' : Nat} (g : Good m l s) (g' : Good m l' s') : l' = l ∧ s' = s := by
  have := g.L; have := g.S; have := g'.L; have := g'.S; omega

open Classical in
theorem dualAns_good {m : Mach} {l s : Nat} (g : Good m l s) : dualAns m = if s ≤ 3 ∧ 2 ≤ s then (if RevP m l s then (dual m l s, 0) else (zeroM, 5)) else (zeroM, 2) := by
  unfold dualAns
  rw [if_pos g.isM]
  have hS := g.S
  have hL := g.L
  by_cases h : s ≤ 3 ∧ 2 ≤ s
  · rw [if_pos (by omega), if_pos h]
    by_cases hr : RevP m l s
    · rw [if_pos hr, if_pos (fun l' s' g' => by obtain ⟨rfl, rfl⟩ := good_uniq g g'; exact hr), hS, hL]
      rfl
    · rw [if_neg hr, if_neg (fun hh => hr (hh l s g))]
  · rw [if_neg (by omega), if_neg h]

open Classical in
set_option maxHeartbeats 2000000 in
set_option maxRecDepth 100000 in
theorem specDual_any (w : World) (m : Mach) (hk : m.Ok) :
    Calls Try.prog 63 #[.agg (mcells m)] w fun e w' => e = .returned (.tuple #[.agg (mcells (dualAns m).1), .int .i64 (dualAns m).2]) ∧ Below w.heap.size w w' := by
  have h1 := hid (MB.new w m 27)
  have hM := hid (h1.out.alloc (.cells (mcells zeroM) 27))
  have hR := hid (MB.new (w.alloc (.cells (mcells m) 27)) zeroM 27)
  have hB := hid (below_alloc (below_alloc (Below.refl w.heap.size w) (Nat.le_refl _) (.cells (mcells m) 27)) (Nat.le_refl _) (.cells (mcells zeroM) 27))
  rw [heap_alloc_size] at hR
  clear h1
  have hz := zeroM_run
  replace hk := hid hk
  by_cases hm : IsM m
  · obtain ⟨l, s, g⟩ := hm.good
    have hA := hid (dualAns_good g)
    have hi : Tells true (IsM m) := ⟨fun _ => hm, fun _ => rfl⟩
    have l2 := g.l2; have l3 := g.l3; have s1 := g.s1; have s16 := g.s16
    have gL := hid g.L
    have gS := hid g.S
    clear hm
    by_cases hs : s ≤ 3 ∧ 2 ≤ s
    · by_cases hrv : RevP m l s
      · have hr : Tells true (RevP m l s) := ⟨fun _ => hrv, fun _ => rfl⟩
        replace hA := hid (show dualAns m = (dual m l s, 0) by rw [hA.out, if_pos hs, if_pos hrv])
        replace g := hid g
        rw [hA.out]
        clear hrv
        have h0 := hid (fun w' : World => MB.new w' zeroM 27)
        generalize mcells zeroM = zs at *
        go_enter Try.func63, Try.ntmps63
        go_wp2_with (first
          | ((with_reducible refine gate (N := 8) rfl ?_); refine load_mach rfl _ rfl w.heap.size rfl m hM.out ?_)
          | (go_at_call 80; (with_reducible refine (l01Is_any _ m hk.out true hi.out).mono ?_); rintro e w1 ⟨rfl, hb⟩; have hM2 := hid (hM.out.below hb hM.out.lt); have hR2 := hid (hR.out.below hb hR.out.lt); have hB2 := hid (hB.out.trans (hb.mono hB.out.size)); have cS := hM2.out.cS; rw [gS.out] at cS; clear hb hM hB hR hi)
          | (go_at_call 91; (with_reducible refine (l01In_any _ _ _ true (decide_eq_true (by omega)).symm _).mono ?_); rintro e w' ⟨rfl, rfl⟩)
          | ((with_reducible refine gate (N := 19) rfl ?_); refine load_mach rfl _ rfl w.heap.size rfl m hM2.out ?_)
          | (go_at_call 164; (with_reducible refine (l07Reversible_any _ m l s g.out true hr.out).mono ?_); rintro e w2 ⟨rfl, hb⟩; have hM3 := hid (hM2.out.below hb hM2.out.lt); have hR3 := hid (hR2.out.below hb hR2.out.lt); have hB3 := hid (hB2.out.trans (hb.mono hB2.out.size)); clear cS; have cS := hM3.out.cS; have cL := hM3.out.cL; rw [gS.out] at cS; rw [gL.out] at cL; have hne := hid (Nat.lt_of_lt_of_le hR2.out.lt hb.size); clear hb hM2 hB2 hR2 hr)
          | ((with_reducible refine gate (N := 27) rfl ?_); refine build_mach rfl _ _ rfl (s : Int) (l : Int) rfl rfl ?_)
          | ((with_reducible refine gateOp (op := .store 27 (.tmp 4) (.tmp 27)) rfl ?_); have a1 := hid (hM3.out.alloc (.cells zs 27)); have a2 := hid (hR3.out.alloc (.cells zs 27)); have aB := hid (below_alloc hB3.out (Nat.le_refl _) (.cells zs 27)); refine store_mach rfl _ _ rfl w2.heap.size rfl ⟨(s : Int), (l : Int), fun _ => 0, fun _ => 0⟩ rfl 27 _ (h0.out w2) ?_; intro w3 hV ho hsz hbl; have t1 := hid (show MB w3 27 w.heap.size m from World.rowIs.of_block a1.out (ho _ (by have := hne.out; omega))); have t2 := hid (show MB w3 27 (w.heap.size + 1) zeroM from World.rowIs.of_block a2.out (ho _ (by have := hne.out; omega))); have tB := hid (hbl _ _ hB3.out.size aB.out); have t3 := hid (show MB w3 27 w2.heap.size (allD m s 0) by unfold allD; rw [gS.out, gL.out]; exact hV); clear cS cL ho hsz hbl hV a1 a2 aB hM3 hR3 hB3 hz))
        go_loopw [5] (fun i wr => ∃ x : Nat, x ≤ l ∧ i = .int .i64 x ∧ MB wr 27 w.heap.size m ∧ MB wr 27 (w.heap.size + 1) zeroM ∧ MB wr 27 w2.heap.size (allD m s x) ∧ Below w.heap.size w wr) (fun i _ => l - (intOf i).toNat)
        case atStart => exact ⟨0, by omega, rfl, t1.out, t2.out, t3.out, tB.out⟩
        case round =>
          obtain ⟨x, hx, rfl, r1, r2, r3, rB⟩ := hrel
          clear t1 t2 t3 tB
          have cL := r1.cL
          have cS := r1.cS
          rw [gL.out] at cL
          rw [gS.out] at cS
          replace r1 := hid r1; replace r2 := hid r2; replace r3 := hid r3; replace rB := hid rB
          by_cases hlx : x < l
          · have dx : decide ((x : Int) < (l : Int)) = true := decide_eq_true (by omega)
            obtain ⟨wo, rfl⟩ : ∃ wo : World, wo = wr := ⟨_, rfl⟩
            go_wp2
            clear cL cS
            go_loopw [6] (fun i wr => ∃ q : Nat, q ≤ s ∧ i = .int .i64 q ∧ MB wr 27 w.heap.size m ∧ MB wr 27 (w.heap.size + 1) zeroM ∧ MB wr 27 w2.heap.size (rowD m x q (allD m s x)) ∧ Below w.heap.size w wr) (fun i _ => s - (intOf i).toNat)
            case atStart => exact ⟨0, by omega, rfl, r1.out, r2.out, r3.out, rB.out⟩
            case round =>
              obtain ⟨q, hq, rfl, r1, r2, r3, rB⟩ := hrel
              have cL := r1.cL
              have cS := r1.cS
              rw [gL.out] at cL
              rw [gS.out] at cS
              replace r1 := hid r1; replace r2 := hid r2; replace r3 := hid r3; replace rB := hid rB
              by_cases hlq : q < s
              · have dq : decide ((q : Int) < (s : Int)) = true := decide_eq_true (by omega)
                have h1c := hid (fun W (hW : MB W 27 w.heap.size m) => hW.cot q x (by omega) (by omega))
                have h1 := r1.out.cnx q x (by omega) (by omega)
                have hst := hid (show rowD m x (q + 1) (allD m s x) = { rowD m x q (allD m s x) with nx := upd (rowD m x q (allD m s x)).nx (x * 3 + q) (m.ot (q * 3 + x)), ot := upd (rowD m x q (allD m s x)).ot (x * 3 + q) (m.nx (q * 3 + x)) } from rfl)
                generalize m.nx (q * 3 + x) = nx at *
                generalize m.ot (q * 3 + x) = ot at *
                obtain ⟨vo, co⟩ : ∃ u, wr.cell? ⟨w2.heap.size, 50 + x * 3 + q, none⟩ = some u := ⟨_, r3.out.cot x q (by omega) (by omega)⟩
                have fo : wr.frozen? ⟨w2.heap.size, 50 + x * 3 + q, none⟩ = false := World.rowIs.frozen r3.out _
                have hne' := hne.out
                replace hne := hid hne
                go_upto_region 14 with (fail)
                go_region
                go_upto_region 15 with (fail)
                have y1 := hid ((r1.out.setOther (a := ⟨w2.heap.size, 50 + x * 3 + q, none⟩) (by simp; omega) (.int .u8 (nx : Nat))).drew)
                have y2 := hid ((r2.out.setOther (a := ⟨w2.heap.size, 50 + x * 3 + q, none⟩) (by simp; omega) (.int .u8 (nx : Nat))).drew)
                have y3 := hid ((r3.out.setOt x q nx (by omega) (by omega)).drew)
                have yB := hid ((rB.out.setCell (p := ⟨w2.heap.size, 50 + x * 3 + q, none⟩) (by simp; omega) (.int .u8 (nx : Nat))).drew)
                clear r1 r2 r3 rB cL cS h1 co fo
                generalize (wr.setCell ⟨w2.heap.size, 50 + x * 3 + q, none⟩ (.int .u8 (nx : Nat))).drew = W2 at *
                have h1 := h1c.out W2 y1.out
                obtain ⟨vo, co⟩ : ∃ u, W2.cell? ⟨w2.heap.size, 2 + x * 3 + q, none⟩ = some u := ⟨_, y3.out.cnx x q (by omega) (by omega)⟩
                have fo : W2.frozen? ⟨w2.heap.size, 2 + x * 3 + q, none⟩ = false := World.rowIs.frozen y3.out _
                go_region
                go_wp2
                go_roundw
                case rel =>
                  refine ⟨q + 1, by omega, by go_num, (y1.out.setOther (by simp; omega) _).drew, (y2.out.setOther (by simp; omega) _).drew, ?_, (yB.out.setCell (by simp; omega) _).drew⟩
                  rw [hst.out]
                  exact (y3.out.setNx x q ot (by omega) (by omega)).drew
                case measure => simp [intOf]; omega
              · obtain rfl : q = s := by omega
                go_wp2
                go_roundw
                case rel => exact ⟨x + 1, by omega, by go_num, r1.out, r2.out, r3.out, rB.out⟩
                case measure => simp [intOf]; omega
          · obtain rfl : x = l := by omega
            have hne' := hne.out
            go_wp2_with (first
              | ((with_reducible refine gate (N := 62) rfl ?_); refine load_mach rfl _ rfl w2.heap.size rfl _ r3.out ?_)
              | ((with_reducible refine gateOp (op := .store 27 (.tmp 2) (.tmp 62)) rfl ?_); refine store_mach rfl _ _ rfl (w.heap.size + 1) rfl _ rfl 27 _ r2.out ?_; intro W3 p2 ho hsz hbl; have pB := hid (hbl _ _ (by omega) rB.out); replace p2 := hid p2; clear ho hsz hbl))
            exact ret_mach_i rfl rfl rfl p2.out rfl ⟨rfl, pB.out⟩
      · have hr : Tells false (RevP m l s) := ⟨fun h => (by cases h), fun h => absurd h hrv⟩
        replace hA := hid (show dualAns m = (zeroM, 5) by rw [hA.out, if_pos hs, if_neg hrv])
        replace g := hid g
        rw [hA.out]
        clear hrv
        go_enter Try.func63, Try.ntmps63
        go_wp2_with (first
          | ((with_reducible refine gate (N := 8) rfl ?_); refine load_mach rfl _ rfl w.heap.size rfl m hM.out ?_)
          | (go_at_call 80; (with_reducible refine (l01Is_any _ m hk.out true hi.out).mono ?_); rintro e w1 ⟨rfl, hb⟩; have hM2 := hid (hM.out.below hb hM.out.lt); have hR2 := hid (hR.out.below hb hR.out.lt); have hB2 := hid (hB.out.trans (hb.mono hB.out.size)); have cS := hM2.out.cS; rw [gS.out] at cS; clear hb hM hB hR hi)
          | (go_at_call 91; (with_reducible refine (l01In_any _ _ _ true (decide_eq_true (by omega)).symm _).mono ?_); rintro e w' ⟨rfl, rfl⟩)
          | ((with_reducible refine gate (N := 19) rfl ?_); refine load_mach rfl _ rfl w.heap.size rfl m hM2.out ?_)
          | (go_at_call 164; (with_reducible refine (l07Reversible_any _ m l s g.out false hr.out).mono ?_); rintro e w2 ⟨rfl, hb⟩; have hR3 := hid (hR2.out.below hb hR2.out.lt); have hB3 := hid (hB2.out.trans (hb.mono hB2.out.size)); clear cS hb hM2 hB2 hR2 hr)
          | ((with_reducible refine gate (N := 22) rfl ?_); refine build_zero rfl rfl ?_)
          | ((with_reducible refine gateOp (op := .store 27 (.tmp 2) (.tmp 22)) rfl ?_); refine store_mach rfl _ _ rfl (w.heap.size + 1) rfl zeroM rfl 27 _ hR3.out ?_; intro W3 p2 ho hsz hbl; have pB := hid (hbl _ _ (by omega) hB3.out); replace p2 := hid p2; clear ho hsz hbl))
        exact ret_mach_i rfl rfl rfl p2.out rfl ⟨rfl, pB.out⟩
    · replace hA := hid (show dualAns m = (zeroM, 2) by rw [hA.out, if_neg hs])
      replace g := hid g
      rw [hA.out]
      have hs' := hid (show true = true ∧ False ∨ ¬ (2 ≤ (s : Int) ∧ (s : Int) ≤ 3) from .inr (by omega))
      have hin := hid (fun W => l01In_any (s : Int) 2 3 false (decide_eq_false (by omega)).symm W)
      clear hs
      go_enter Try.func63, Try.ntmps63
      go_wp2_with (first
        | ((with_reducible refine gate (N := 8) rfl ?_); refine load_mach rfl _ rfl w.heap.size rfl m hM.out ?_)
        | (go_at_call 80; (with_reducible refine (l01Is_any _ m hk.out true hi.out).mono ?_); rintro e w1 ⟨rfl, hb⟩; have hM2 := hid (hM.out.below hb hM.out.lt); have hR2 := hid (hR.out.below hb hR.out.lt); have hB2 := hid (hB.out.trans (hb.mono hB.out.size)); have cS := hM2.out.cS; rw [gS.out] at cS; clear hb hM hB hR hi)
        | (go_at_call 91; (with_reducible refine (hin.out _).mono ?_); rintro e w' ⟨rfl, rfl⟩)
        | ((with_reducible refine gate (N := 17) rfl ?_); refine build_zero rfl rfl ?_)
        | ((with_reducible refine gateOp (op := .store 27 (.tmp 2) (.tmp 17)) rfl ?_); refine store_mach rfl _ _ rfl (w.heap.size + 1) rfl zeroM rfl 27 _ hR2.out ?_; intro W3 p2 ho hsz hbl; have pB := hid (hbl _ _ (by omega) hB2.out); replace p2 := hid p2; clear ho hsz hbl))
      exact ret_mach_i rfl rfl rfl p2.out rfl ⟨rfl, pB.out⟩
  · have hi : Tells false (IsM m) := ⟨fun h => (by cases h), fun h => absurd h hm⟩
    have hA := hid (show dualAns m = (zeroM, 1) by unfold dualAns; rw [if_neg hm])
    clear hm
    rw [hA.out]
    go_enter Try.func63, Try.ntmps63
    go_wp2_with (first
      | ((with_reducible refine gate (N := 8) rfl ?_); refine load_mach rfl _ rfl w.heap.size rfl m hM.out ?_)
      | (go_at_call 80; (with_reducible refine (l01Is_any _ m hk.out false hi.out).mono ?_); rintro e w1 ⟨rfl, hb⟩; have hM2 := hid (hM.out.below hb hM.out.lt); have hR2 := hid (hR.out.below hb hR.out.lt); have hB2 := hid (hB.out.trans (hb.mono hB.out.size)); clear hb hM hB hR hi)
      | ((with_reducible refine gate (N := 11) rfl ?_); refine build_zero rfl rfl ?_)
      | ((with_reducible refine gateOp (op := .store 27 (.tmp 2) (.tmp 11)) rfl ?_); refine store_mach rfl _ _ rfl (w.heap.size + 1) rfl zeroM rfl 27 _ hR2.out ?_; intro W3 p2 ho hsz hbl; have pB := hid (hbl _ _ (by omega) hB2.out); replace p2 := hid p2; clear ho hsz hbl))
    exact ret_mach_i rfl rfl rfl p2.out rfl ⟨rfl, pB.out⟩
open Classical in
set_option maxHeartbeats 2000000 in
set_option maxRecDepth 100000 in
theorem implDual_any (w : World) (m : Mach) (hk : m.Ok) :
    Calls Try.prog 62 #[.agg (mcells m)] w fun e w' => e = .returned (.tuple #[.agg (mcells (dualAns m).1), .int .i64 (dualAns m).2]) ∧ Below w.heap.size w w' := by
  have h1 := hid (MB.new w m 27)
  have hM := hid (h1.out.alloc (.cells (mcells zeroM) 27))
  have hR := hid (MB.new (w.alloc (.cells (mcells m) 27)) zeroM 27)
  have hB := hid (below_alloc (below_alloc (Below.refl w.heap.size w) (Nat.le_refl _) (.cells (mcells m) 27)) (Nat.le_refl _) (.cells (mcells zeroM) 27))
  rw [heap_alloc_size] at hR
  clear h1
  have hz := zeroM_run
  replace hk := hid hk
  by_cases hm : IsM m
  · obtain ⟨l, s, g⟩ := hm.good
    have hA := hid (dualAns_good g)
    have hi : Tells true (IsM m) := ⟨fun _ => hm, fun _ => rfl⟩
    have l2 := g.l2; have l3 := g.l3; have s1 := g.s1; have s16 := g.s16
    have gL := hid g.L
    have gS := hid g.S
    clear hm
    by_cases hs : s ≤ 3 ∧ 2 ≤ s
    · by_cases hrv : RevP m l s
      · have hr : Tells true (RevP m l s) := ⟨fun _ => hrv, fun _ => rfl⟩
        replace hA := hid (show dualAns m = (dual m l s, 0) by rw [hA.out, if_pos hs, if_pos hrv])
        replace g := hid g
        rw [hA.out]
        clear hrv
        have h0 := hid (fun w' : World => MB.new w' zeroM 27)
        generalize mcells zeroM = zs at *
        go_enter Try.func62, Try.ntmps62
        go_wp2_with (first
          | ((with_reducible refine gate (N := 8) rfl ?_); refine load_mach rfl _ rfl w.heap.size rfl m hM.out ?_)
          | (go_at_call 65; (with_reducible refine (IsMachine_any _ m hk.out true hi.out).mono ?_); rintro e w1 ⟨rfl, hb⟩; have hM2 := hid (hM.out.below hb hM.out.lt); have hR2 := hid (hR.out.below hb hR.out.lt); have hB2 := hid (hB.out.trans (hb.mono hB.out.size)); have cS := hM2.out.cS; rw [gS.out] at cS; clear hb hM hB hR hi)
          | (go_at_call 124; (with_reducible refine (within_any _ _ _ true (decide_eq_true (by omega)).symm _).mono ?_); rintro e w' ⟨rfl, rfl⟩)
          | (go_at_call 163; (with_reducible refine (isReversible_any _ _ m hM2.out l s g.out true hr.out).mono ?_); rintro e wx ⟨rfl, rfl⟩; clear hr; have hM3 := hM2; have hR3 := hR2; have hB3 := hB2; clear cS; have cS := hM3.out.cS; have cL := hM3.out.cL; rw [gS.out] at cS; rw [gL.out] at cL; have hne := hid hR2.out.lt; clear hM2 hB2 hR2)
          | ((with_reducible refine gate (N := 26) rfl ?_); refine build_mach rfl _ _ rfl (s : Int) (l : Int) rfl rfl ?_)
          | ((with_reducible refine gateOp (op := .store 27 (.tmp 4) (.tmp 26)) rfl ?_); have a1 := hid (hM3.out.alloc (.cells zs 27)); have a2 := hid (hR3.out.alloc (.cells zs 27)); have aB := hid (below_alloc hB3.out (Nat.le_refl _) (.cells zs 27)); refine store_mach rfl _ _ rfl w1.heap.size rfl ⟨(s : Int), (l : Int), fun _ => 0, fun _ => 0⟩ rfl 27 _ (h0.out w1) ?_; intro w3 hV ho hsz hbl; have t1 := hid (show MB w3 27 w.heap.size m from World.rowIs.of_block a1.out (ho _ (by have := hne.out; omega))); have t2 := hid (show MB w3 27 (w.heap.size + 1) zeroM from World.rowIs.of_block a2.out (ho _ (by have := hne.out; omega))); have tB := hid (hbl _ _ hB3.out.size aB.out); have t3 := hid (show MB w3 27 w1.heap.size (allD m s 0) by unfold allD; rw [gS.out, gL.out]; exact hV); clear cS cL; have cL := t1.out.cL; rw [gL.out] at cL; clear ho hsz hbl hV a1 a2 aB hM3 hR3 hB3 hz))
        clear cL
        go_loopw [29] (fun i wr => ∃ x : Nat, x ≤ l ∧ i = .int .i64 x ∧ MB wr 27 w.heap.size m ∧ MB wr 27 (w.heap.size + 1) zeroM ∧ MB wr 27 w1.heap.size (allD m s x) ∧ Below w.heap.size w wr) (fun i _ => l - (intOf i).toNat)
        case atStart => exact ⟨0, by omega, rfl, t1.out, t2.out, t3.out, tB.out⟩
        case round =>
          obtain ⟨x, hx, rfl, r1, r2, r3, rB⟩ := hrel
          clear t1 t2 t3 tB
          have cL := r1.cL
          have cS := r1.cS
          rw [gL.out] at cL
          rw [gS.out] at cS
          replace r1 := hid r1; replace r2 := hid r2; replace r3 := hid r3; replace rB := hid rB
          by_cases hlx : x < l
          · have dx : decide ((x : Int) < (l : Int)) = true := decide_eq_true (by omega)
            obtain ⟨wo, rfl⟩ : ∃ wo : World, wo = wr := ⟨_, rfl⟩
            go_wp2
            clear cL cS
            go_loopw [34] (fun i wr => ∃ q : Nat, q ≤ s ∧ i = .int .i64 q ∧ MB wr 27 w.heap.size m ∧ MB wr 27 (w.heap.size + 1) zeroM ∧ MB wr 27 w1.heap.size (rowD m x q (allD m s x)) ∧ Below w.heap.size w wr) (fun i _ => s - (intOf i).toNat)
            case atStart => exact ⟨0, by omega, rfl, r1.out, r2.out, r3.out, rB.out⟩
            case round =>
              obtain ⟨q, hq, rfl, r1, r2, r3, rB⟩ := hrel
              have cL := r1.cL
              have cS := r1.cS
              rw [gL.out] at cL
              rw [gS.out] at cS
              replace r1 := hid r1; replace r2 := hid r2; replace r3 := hid r3; replace rB := hid rB
              by_cases hlq : q < s
              · have dq : decide ((q : Int) < (s : Int)) = true := decide_eq_true (by omega)
                have h1c := hid (fun W (hW : MB W 27 w.heap.size m) => hW.cot q x (by omega) (by omega))
                have h1 := r1.out.cnx q x (by omega) (by omega)
                have hst := hid (show rowD m x (q + 1) (allD m s x) = { rowD m x q (allD m s x) with nx := upd (rowD m x q (allD m s x)).nx (x * 3 + q) (m.ot (q * 3 + x)), ot := upd (rowD m x q (allD m s x)).ot (x * 3 + q) (m.nx (q * 3 + x)) } from rfl)
                generalize m.nx (q * 3 + x) = nx at *
                generalize m.ot (q * 3 + x) = ot at *
                obtain ⟨vo, co⟩ : ∃ u, wr.cell? ⟨w1.heap.size, 50 + x * 3 + q, none⟩ = some u := ⟨_, r3.out.cot x q (by omega) (by omega)⟩
                have fo : wr.frozen? ⟨w1.heap.size, 50 + x * 3 + q, none⟩ = false := World.rowIs.frozen r3.out _
                have hne' := hne.out
                replace hne := hid hne
                have h2 := h1c.out wr r1.out
                obtain ⟨vn, cn⟩ : ∃ u, wr.cell? ⟨w1.heap.size, 2 + x * 3 + q, none⟩ = some u := ⟨_, r3.out.cnx x q (by omega) (by omega)⟩
                have fn : wr.frozen? ⟨w1.heap.size, 2 + x * 3 + q, none⟩ = false := World.rowIs.frozen r3.out _
                go_upto_region 14 with (fail)
                go_region
                go_wp2
                go_roundw
                case rel =>
                  refine ⟨q + 1, by omega, by go_num, ((r1.out.setOther (by simp; omega) _).setOther (by simp; omega) _).drew, ((r2.out.setOther (by simp; omega) _).setOther (by simp; omega) _).drew, ?_, ((rB.out.setCell (by simp; omega) _).setCell (by simp; omega) _).drew⟩
                  rw [hst.out]
                  exact ((r3.out.setOt x q nx (by omega) (by omega)).setNx x q ot (by omega) (by omega)).drew
                case measure => simp [intOf]; omega
              · obtain rfl : q = s := by omega
                go_wp2
                go_roundw
                case rel => exact ⟨x + 1, by omega, by go_num, r1.out, r2.out, r3.out, rB.out⟩
                case measure => simp [intOf]; omega
          · obtain rfl : x = l := by omega
            have hne' := hne.out
            go_wp2_with (first
              | ((with_reducible refine gate (N := 61) rfl ?_); refine load_mach rfl _ rfl w1.heap.size rfl _ r3.out ?_)
              | ((with_reducible refine gateOp (op := .store 27 (.tmp 2) (.tmp 61)) rfl ?_); refine store_mach rfl _ _ rfl (w.heap.size + 1) rfl _ rfl 27 _ r2.out ?_; intro W3 p2 ho hsz hbl; have pB := hid (hbl _ _ (by omega) rB.out); replace p2 := hid p2; clear ho hsz hbl))
            exact ret_mach_i rfl rfl rfl p2.out rfl ⟨rfl, pB.out⟩
      · have hr : Tells false (RevP m l s) := ⟨fun h => (by cases h), fun h => absurd h hrv⟩
        replace hA := hid (show dualAns m = (zeroM, 5) by rw [hA.out, if_pos hs, if_neg hrv])
        replace g := hid g
        rw [hA.out]
        clear hrv
        go_enter Try.func62, Try.ntmps62
        go_wp2_with (first
          | ((with_reducible refine gate (N := 8) rfl ?_); refine load_mach rfl _ rfl w.heap.size rfl m hM.out ?_)
          | (go_at_call 65; (with_reducible refine (IsMachine_any _ m hk.out true hi.out).mono ?_); rintro e w1 ⟨rfl, hb⟩; have hM2 := hid (hM.out.below hb hM.out.lt); have hR2 := hid (hR.out.below hb hR.out.lt); have hB2 := hid (hB.out.trans (hb.mono hB.out.size)); have cS := hM2.out.cS; rw [gS.out] at cS; clear hb hM hB hR hi)
          | (go_at_call 124; (with_reducible refine (within_any _ _ _ true (decide_eq_true (by omega)).symm _).mono ?_); rintro e w' ⟨rfl, rfl⟩)
          | (go_at_call 163; (with_reducible refine (isReversible_any _ _ m hM2.out l s g.out false hr.out).mono ?_); rintro e wx ⟨rfl, rfl⟩; have hR3 := hR2; have hB3 := hB2; clear cS hM2 hB2 hR2 hr)
          | ((with_reducible refine gate (N := 21) rfl ?_); refine build_zero rfl rfl ?_)
          | ((with_reducible refine gateOp (op := .store 27 (.tmp 2) (.tmp 21)) rfl ?_); refine store_mach rfl _ _ rfl (w.heap.size + 1) rfl zeroM rfl 27 _ hR3.out ?_; intro W3 p2 ho hsz hbl; have pB := hid (hbl _ _ (by omega) hB3.out); replace p2 := hid p2; clear ho hsz hbl))
        exact ret_mach_i rfl rfl rfl p2.out rfl ⟨rfl, pB.out⟩
    · replace hA := hid (show dualAns m = (zeroM, 2) by rw [hA.out, if_neg hs])
      replace g := hid g
      rw [hA.out]
      have hs' := hid (show true = true ∧ False ∨ ¬ (2 ≤ (s : Int) ∧ (s : Int) ≤ 3) from .inr (by omega))
      have hin := hid (fun W => within_any (s : Int) 2 3 false (decide_eq_false (by omega)).symm W)
      clear hs
      go_enter Try.func62, Try.ntmps62
      go_wp2_with (first
        | ((with_reducible refine gate (N := 8) rfl ?_); refine load_mach rfl _ rfl w.heap.size rfl m hM.out ?_)
        | (go_at_call 65; (with_reducible refine (IsMachine_any _ m hk.out true hi.out).mono ?_); rintro e w1 ⟨rfl, hb⟩; have hM2 := hid (hM.out.below hb hM.out.lt); have hR2 := hid (hR.out.below hb hR.out.lt); have hB2 := hid (hB.out.trans (hb.mono hB.out.size)); have cS := hM2.out.cS; rw [gS.out] at cS; clear hb hM hB hR hi)
        | (go_at_call 124; (with_reducible refine (hin.out _).mono ?_); rintro e w' ⟨rfl, rfl⟩)
        | ((with_reducible refine gate (N := 17) rfl ?_); refine build_zero rfl rfl ?_)
        | ((with_reducible refine gateOp (op := .store 27 (.tmp 2) (.tmp 17)) rfl ?_); refine store_mach rfl _ _ rfl (w.heap.size + 1) rfl zeroM rfl 27 _ hR2.out ?_; intro W3 p2 ho hsz hbl; have pB := hid (hbl _ _ (by omega) hB2.out); replace p2 := hid p2; clear ho hsz hbl))
      exact ret_mach_i rfl rfl rfl p2.out rfl ⟨rfl, pB.out⟩
  · have hi : Tells false (IsM m) := ⟨fun h => (by cases h), fun h => absurd h hm⟩
    have hA := hid (show dualAns m = (zeroM, 1) by unfold dualAns; rw [if_neg hm])
    clear hm
    rw [hA.out]
    go_enter Try.func62, Try.ntmps62
    go_wp2_with (first
      | ((with_reducible refine gate (N := 8) rfl ?_); refine load_mach rfl _ rfl w.heap.size rfl m hM.out ?_)
      | (go_at_call 65; (with_reducible refine (IsMachine_any _ m hk.out false hi.out).mono ?_); rintro e w1 ⟨rfl, hb⟩; have hM2 := hid (hM.out.below hb hM.out.lt); have hR2 := hid (hR.out.below hb hR.out.lt); have hB2 := hid (hB.out.trans (hb.mono hB.out.size)); clear hb hM hB hR hi)
      | ((with_reducible refine gate (N := 11) rfl ?_); refine build_zero rfl rfl ?_)
      | ((with_reducible refine gateOp (op := .store 27 (.tmp 2) (.tmp 11)) rfl ?_); refine store_mach rfl _ _ rfl (w.heap.size + 1) rfl zeroM rfl 27 _ hR2.out ?_; intro W3 p2 ho hsz hbl; have pB := hid (hbl _ _ (by omega) hB2.out); replace p2 := hid p2; clear ho hsz hbl))
    exact ret_mach_i rfl rfl rfl p2.out rfl ⟨rfl, pB.out⟩

end Go.Proofs.Ytbmkkaecfogmoaa

/- The two IsBireversible answer alike; the statement's walk. -/
namespace Go.Proofs.Ytbmkkaecfogmoaa
open Go.RowKit
set_option linter.unusedVariables false
set_option linter.unusedSimpArgs false

open Classical in
/-- What IsBireversible answers. -/
noncomputable def biAns (m : Mach) : Bool × Int := if IsM m then (decide (∀ l s, Good m l s → RevP m l s ∧ RevP (inv m l s) l s), 0) else (false, 1)

open Classical in
theorem biAns_good {m : Mach} {l s : Nat} (g : Good m l s) (r1 r2 : Bool) (h1 : r1 = true ↔ RevP m l s) (h2 : r2 = true ↔ RevP (inv m l s) l s) : biAns m = (r1 && r2, 0) := by
  have u : ∀ l' s', Good m l' s' → l' = l ∧ s' = s := fun l' s' g' => by
    have := g.L; have := g.S; have := g'.L; have := g'.S; omega
  unfold biAns
  rw [if_pos g.isM]
  congr 1
  rw [Bool.eq_iff_iff, decide_eq_true_iff, Bool.and_eq_true, h1, h2]
  constructor
  · intro h; exact h l s g
  · intro h l' s' g'
    obtain ⟨rfl, rfl⟩ := u l' s' g'
    exact h

open Classical in
set_option maxHeartbeats 1000000 in
theorem implIsBi_any (w : World) (m : Mach) (hk : m.Ok) :
    Calls Try.prog 67 #[.agg (mcells m)] w fun e w' => e = .returned (.tuple #[.bool (biAns m).1, .int .i64 (biAns m).2]) ∧ Below w.heap.size w w' := by
  have hM := hid (MB.new w m 27)
  have hB := hid ((Below.refl w.heap.size w).alloc (Nat.le_refl _) (.cells (mcells m) 27))
  replace hk := hid hk
  by_cases hm : IsM m
  · obtain ⟨l, s, g⟩ := hm.good
    have hA := hid (biAns_good g (decide (RevP m l s)) (decide (RevP (inv m l s) l s)) decide_eq_true_iff decide_eq_true_iff)
    have hr : Tells (decide (RevP m l s)) (RevP m l s) := decide_eq_true_iff
    have hr2 : Tells (decide (RevP (inv m l s) l s)) (RevP (inv m l s) l s) := decide_eq_true_iff
    generalize decide (RevP m l s) = r at *
    generalize decide (RevP (inv m l s) l s) = r2 at *
    have hi := hid (show true = true ↔ IsM m from ⟨fun _ => hm, fun _ => rfl⟩)
    have gi := hid (inv_good g)
    replace g := hid g
    clear hm
    rw [hA.out]
    have hz := zero_mach
    have h0 := hid (fun w' : World => MB.new w' ⟨0, 0, fun _ => 0, fun _ => 0⟩ 27)
    generalize mcells ⟨0, 0, fun _ => 0, fun _ => 0⟩ = zs at *
    cases r
    all_goals
      go_enter Try.func67, Try.ntmps67
      go_wp2_with (first
        | ((with_reducible refine gate (N := 5) rfl ?_); refine load_mach rfl _ rfl w.heap.size rfl m hM.out ?_)
        | (go_at_call 65; (with_reducible refine (IsMachine_any _ m hk.out true hi.out).mono ?_); rintro e w1 ⟨rfl, hb⟩; have hM2 := hid (hM.out.below hb hM.out.lt); have hB2 := hid (hB.out.trans (hb.mono hB.out.size)); clear hb hM hB)
        | (go_at_call 168; (with_reducible refine (inverse_any _ _ m hM2.out l s g.out hk.out).mono ?_); rintro e w2 ⟨rfl, hb⟩; have hM3 := hid ((hM2.out.below hb hM2.out.lt).alloc (.cells zs 27)); have hB3 := hid (hB2.out.trans (hb.mono hB2.out.size)); have hB4 := hid (below_alloc hB3.out (Nat.le_refl _) (.cells zs 27)); have hne := hid (Nat.lt_of_lt_of_le hM2.out.lt hb.size); clear hb hM2 hB2)
        | ((with_reducible refine gateOp (op := .store 27 (.tmp 4) (.tmp 8)) rfl ?_); refine store_mach rfl _ _ rfl w2.heap.size rfl (inv m l s) rfl 27 _ (h0.out w2) ?_; intro w3 hV ho hsz hbl; have hM4 := hid (show MB w3 27 w.heap.size m from World.rowIs.of_block hM3.out (ho _ (by have := hne.out; omega))); have hB5 := hid (hbl _ _ hB3.out.size hB4.out); replace hV := hid hV; clear ho hsz hbl hM3 hB3 hB4 hne hz)
        | (go_at_call 163; (with_reducible refine (isReversible_any w.heap.size _ m hM4.out l s g.out _ hr.out).mono ?_); rintro e w4 ⟨rfl, rfl⟩)
        | (go_at_call 163; (with_reducible refine (isReversible_any _ _ (inv m l s) hV.out l s gi.out r2 hr2.out).mono ?_); rintro e w4 ⟨rfl, rfl⟩))
      go_ret2
      exact ⟨rfl, hB5.out⟩
  · have hi := hid (show false = true ↔ IsM m from ⟨fun h => (by cases h), fun h => absurd h hm⟩)
    have hA := hid (show biAns m = (false, 1) by unfold biAns; rw [if_neg hm])
    clear hm
    rw [hA.out]
    go_enter Try.func67, Try.ntmps67
    go_wp2_with (first
      | ((with_reducible refine gate (N := 5) rfl ?_); refine load_mach rfl _ rfl w.heap.size rfl m hM.out ?_)
      | (go_at_call 65; (with_reducible refine (IsMachine_any _ m hk.out false hi.out).mono ?_); rintro e w1 ⟨rfl, hb⟩; have hB2 := hid (hB.out.trans (hb.mono hB.out.size)); clear hb hM hB))
    go_ret2
    exact ⟨rfl, hB2.out⟩

open Classical in
set_option maxHeartbeats 1000000 in
theorem specIsBi_any (w : World) (m : Mach) (hk : m.Ok) :
    Calls Try.prog 68 #[.agg (mcells m)] w fun e w' => e = .returned (.tuple #[.bool (biAns m).1, .int .i64 (biAns m).2]) ∧ Below w.heap.size w w' := by
  have hM := hid (MB.new w m 27)
  have hB := hid ((Below.refl w.heap.size w).alloc (Nat.le_refl _) (.cells (mcells m) 27))
  replace hk := hid hk
  by_cases hm : IsM m
  · obtain ⟨l, s, g⟩ := hm.good
    have hA := hid (biAns_good g (decide (RevP m l s)) (decide (RevP (inv m l s) l s)) decide_eq_true_iff decide_eq_true_iff)
    have hr : Tells (decide (RevP m l s)) (RevP m l s) := decide_eq_true_iff
    have hr2 : Tells (decide (RevP (inv m l s) l s)) (RevP (inv m l s) l s) := decide_eq_true_iff
    generalize decide (RevP m l s) = r at *
    generalize decide (RevP (inv m l s) l s) = r2 at *
    have hi := hid (show true = true ↔ IsM m from ⟨fun _ => hm, fun _ => rfl⟩)
    have gi := hid (inv_good g)
    replace g := hid g
    clear hm
    rw [hA.out]
    cases r
    · go_enter Try.func68, Try.ntmps68
      go_wp2_with (first
        | ((with_reducible refine gate (N := 4) rfl ?_); refine load_mach rfl _ rfl w.heap.size rfl m hM.out ?_)
        | (go_at_call 80; (with_reducible refine (l01Is_any _ m hk.out true hi.out).mono ?_); rintro e w1 ⟨rfl, hb⟩; have hM2 := hid (hM.out.below hb hM.out.lt); have hB2 := hid (hB.out.trans (hb.mono hB.out.size)); clear hb hM hB)
        | ((with_reducible refine gate (N := 7) rfl ?_); refine load_mach rfl _ rfl w.heap.size rfl m hM2.out ?_)
        | (go_at_call 164; (with_reducible refine (l07Reversible_any _ m l s g.out false hr.out).mono ?_); rintro e w2 ⟨rfl, hb⟩; have hB3 := hid (hB2.out.trans (hb.mono hB2.out.size)); clear hb))
      go_ret2
      exact ⟨rfl, hB3.out⟩
    · go_enter Try.func68, Try.ntmps68
      go_wp2_with (first
        | ((with_reducible refine gate (N := 4) rfl ?_); refine load_mach rfl _ rfl w.heap.size rfl m hM.out ?_)
        | (go_at_call 80; (with_reducible refine (l01Is_any _ m hk.out true hi.out).mono ?_); rintro e w1 ⟨rfl, hb⟩; have hM2 := hid (hM.out.below hb hM.out.lt); have hB2 := hid (hB.out.trans (hb.mono hB.out.size)); clear hb hM hB)
        | ((with_reducible refine gate (N := 7) rfl ?_); refine load_mach rfl _ rfl w.heap.size rfl m hM2.out ?_)
        | (go_at_call 164; (with_reducible refine (l07Reversible_any _ m l s g.out true hr.out).mono ?_); rintro e w2 ⟨rfl, hb⟩; have hM3 := hid (hM2.out.below hb hM2.out.lt); have hB3 := hid (hB2.out.trans (hb.mono hB2.out.size)); clear hb hM2 hB2)
        | ((with_reducible refine gate (N := 10) rfl ?_); refine load_mach_g rfl _ rfl w.heap.size rfl m hM3.out ?_)
        | (go_at_call 156; (with_reducible refine (l01Inverse_any _ m l s g.out hk.out).mono ?_); rintro e w3 ⟨rfl, hb⟩; have hB4 := hid (hB3.out.trans (hb.mono hB3.out.size)); clear hb hB3)
        | (go_at_call 164; (with_reducible refine (l07Reversible_any _ (inv m l s) l s gi.out r2 hr2.out).mono ?_); rintro e w4 ⟨rfl, hb⟩; have hB5 := hid (hB4.out.trans (hb.mono hB4.out.size)); clear hb))
      go_ret2
      exact ⟨rfl, hB5.out⟩
  · have hi := hid (show false = true ↔ IsM m from ⟨fun h => (by cases h), fun h => absurd h hm⟩)
    have hA := hid (show biAns m = (false, 1) by unfold biAns; rw [if_neg hm])
    clear hm
    rw [hA.out]
    go_enter Try.func68, Try.ntmps68
    go_wp2_with (first
      | ((with_reducible refine gate (N := 4) rfl ?_); refine load_mach rfl _ rfl w.heap.size rfl m hM.out ?_)
      | (go_at_call 80; (with_reducible refine (l01Is_any _ m hk.out false hi.out).mono ?_); rintro e w1 ⟨rfl, hb⟩; have hB2 := hid (hB.out.trans (hb.mono hB.out.size)); clear hb hM hB))
    go_ret2
    exact ⟨rfl, hB2.out⟩

end Go.Proofs.Ytbmkkaecfogmoaa
