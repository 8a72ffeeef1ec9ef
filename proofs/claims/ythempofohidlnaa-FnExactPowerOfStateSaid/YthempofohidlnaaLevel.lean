/- Levels: the words of a level, and what a state makes of them. -/
import Derived.Test.YthempofohidlnaaNum
import Derived.Deep.RegionHeld3
import Derived.Deep.MidRow
namespace Go.Proofs.Ythempofohidlnaa
open Go.RowKit
set_option linter.unusedVariables false
set_option linter.unusedSimpArgs false

/-- Numbers as the cells of a slice. -/
def ints (l : List Int) : List Value := l.map (Value.int .i64)
def nats (l : List Nat) : List Value := l.map fun x : Nat => .int .i64 (x : Int)
theorem ints_length (l : List Int) : (ints l).length = l.length := by simp [ints]
theorem nats_length (l : List Nat) : (nats l).length = l.length := by simp [nats]
theorem ints_snoc (l : List Int) (x : Int) : ints (l ++ [x]) = ints l ++ [.int .i64 x] := by simp [ints]
theorem nats_snoc (l : List Nat) (x : Nat) : nats (l ++ [x]) = nats l ++ [.int .i64 (x : Int)] := by simp [nats]
theorem nats_ints (l : List Nat) : nats l = ints (l.map Int.ofNat) := by simp [nats, ints]
theorem info_i64 : (Try.prog.info? 2).map (fun i => (i.zero, i.size, i.bytes)) = some (some (.int .i64 0), 1, 8) := by kernel_rfl

/-- What a state makes of a level: the numbers of the words to which it leads the words. -/
def perm (m : Mach) (d q n : Nat) : List Nat := (List.range (pw d n)).map fun k => num d (img m q (wrd d n k))
theorem perm_length (m : Mach) (d q n : Nat) : (perm m d q n).length = pw d n := by simp [perm]

/-- The words of a level. -/
def lvl (d n k : Nat) : List Value := (List.range k).map fun i => .string (wstr (wrd d n i))
theorem lvl_snoc (d n k : Nat) : lvl d n (k + 1) = lvl d n k ++ [.string (wstr (wrd d n k))] := by simp [lvl, List.range_succ]
theorem lvl_length (d n k : Nat) : (lvl d n k).length = k := by simp [lvl]
theorem lvl_get (d n k i : Nat) (h : i < k) : (lvl d n k)[i]? = some (.string (wstr (wrd d n i))) := by simp [lvl, h]
/-- A level of a state, in part. -/
def rng (f : Nat → Nat) (k : Nat) : List Value := nats ((List.range k).map f)
theorem rng_snoc (f : Nat → Nat) (k : Nat) : rng f (k + 1) = rng f k ++ [.int .i64 ((f k : Nat) : Int)] := by simp [rng, nats, List.range_succ]
theorem rng_length (f : Nat → Nat) (k : Nat) : (rng f k).length = k := by simp [rng, nats]

theorem info_str : (Try.prog.info? 9).map (fun i => (i.zero, i.size, i.bytes)) = some (some (.string { data := #[] }), 1, 16) := by kernel_rfl
set_option maxHeartbeats 1000000 in
set_option maxRecDepth 100000 in
theorem level_any (d n : Nat) (hd : 0 < d) (h3 : d ≤ 3) (hn : n ≤ 40) (hb : pw d n ≤ 100000) (w : World) :
    Calls Try.prog 107 #[.int .i64 d, .int .i64 n] w fun e w' => ∃ v, e = .returned v ∧ Own w' w.heap.size 9 v (lvl d n (pw d n)) ∧ Below w.heap.size w w' := by
  have hp := hid (fun W => power_any d n hd (by omega) (by omega) W)
  have hw := hid (fun k hk W => wordOf_any d n k hd h3 hn hk W)
  generalize pw d n = M at *
  go_enter Try.func107, Try.ntmps107
  go_wp2_with (first
    | (go_at_call 139; (with_reducible refine (hp.out _).mono ?_); rintro e w1 ⟨rfl, rfl⟩))
  go_loopw [5, 10] (fun v i wr => ∃ k : Nat, k ≤ M ∧ i = .int .i64 k ∧ Own wr w.heap.size 9 v (lvl d n k) ∧ Below w.heap.size w wr) (fun _ i _ => M - (intOf i).toNat)
  case atStart => exact ⟨0, Nat.zero_le _, rfl, Own.nil _ _ _, Below.refl _ _⟩
  case round =>
    obtain ⟨k, hk, rfl, r1, rB⟩ := hrel
    have hll := hid (lvl_length d n k)
    replace r1 := hid r1; replace rB := hid rB
    by_cases hlt : k < M
    · have dk : decide ((k : Int) < (M : Int)) = true := decide_eq_true (by omega)
      have hsn := hid (lvl_snoc d n k)
      go_wp2_with (first
        | (go_at_call 97; (with_reducible refine (hw.out k (by omega) _).mono ?_); rintro e w1 ⟨rfl, hb1⟩; replace r1 := hid (r1.out.below hb1); replace rB := hid (rB.out.trans (hb1.mono rB.out.size)); clear hb1)
        | ((with_reducible refine gate (N := 19) rfl ?_); refine app1 51 9 (.string { data := #[] }) 16 Try.underlying51 info_str rfl (by omega) rfl _ _ rfl w.heap.size _ _ rfl r1.out rB.out.size _ rfl rfl (by have := hll.out; omega) ?_; intro gn cap w2 hO2 hb2 hold hsz2 _; replace hO2 := hid hO2; have tB := hid (rB.out.trans hb2); clear hb2 hold hsz2 r1 rB))
      go_roundw
      case rel => exact ⟨k + 1, by omega, by go_num, by rw [hsn.out]; exact hO2.out, tB.out⟩
      case measure => simp [intOf]; omega
    · obtain rfl : k = M := by omega
      go_wp2
      go_ret
      exact ⟨_, rfl, r1.out, rB.out⟩

set_option maxHeartbeats 2000000 in
set_option maxRecDepth 100000 in
theorem permutation_any (d n : Nat) (hd : 0 < d) (h3 : d ≤ 3) (hn : n ≤ 40) (hb : pw d n ≤ 100000) (w : World) (c1 c2 : Value) (F : List Nat → List Nat)
    (hF : ∀ u, u.length = n → (∀ x ∈ u, x < d) → (F u).length = n ∧ ∀ x ∈ F u, x < d)
    (hf : ∀ W, Below w.heap.size w W → ∀ u, u.length = n → (∀ x ∈ u, x < d) → Calls Try.prog 164 #[.string (wstr u), c1, c2] W fun e W' => e = .returned (.string (wstr (F u))) ∧ Below W.heap.size W W') :
    Calls Try.prog 163 #[.int .i64 d, .int .i64 n, .func (.func 164) #[] #[c1, c2]] w fun e w' => ∃ v, e = .returned v ∧ Own w' w.heap.size 2 v (rng (fun k => num d (F (wrd d n k))) (pw d n)) ∧ Below w.heap.size w w' := by
  have hl := hid (level_any d n hd h3 hn hb w)
  have hpos := pw_pos d hd n
  have hwl := hid (fun k => wrd_length d n k)
  have hwm := hid (fun k => wrd_lt d hd n k)
  have hFo := hid (fun k => hF (wrd d n k) (wrd_length d n k) (wrd_lt d hd n k))
  have hnum := hid (fun k W => numberOf_any d hd h3 (F (wrd d n k)) (hFo.out k).2 (by rw [(hFo.out k).1]; omega) (by rw [(hFo.out k).1]; omega) W)
  replace hf := hid hf
  clear hF
  generalize hM : pw d n = M at *
  go_enter Try.func163, Try.ntmps163
  go_wp2_with (first
    | (go_at_call 107; (with_reducible refine (hl.out).mono ?_); rintro e w1 ⟨v, rfl, hO, hB⟩; obtain ⟨g, cap, rfl, hg1, hg2⟩ := hO.blk (fun e => by have := lvl_length d n M; rw [e] at this; simp at this; omega); have hll := lvl_length d n M; rw [hll] at hO; rw [hll]; clear hll; replace hO := hid hO; replace hB := hid hB; clear hl))
  go_loopw [7, 14] (fun v i wr => ∃ k : Nat, k ≤ M ∧ i = .int .i64 k ∧ Own wr w1.heap.size 2 v (rng (fun k => num d (F (wrd d n k))) k) ∧ Below w1.heap.size w1 wr) (fun _ i _ => M - (intOf i).toNat)
  case atStart => exact ⟨0, Nat.zero_le _, rfl, Own.nil _ _ _, Below.refl _ _⟩
  case round =>
    obtain ⟨k, hk, rfl, r1, rB⟩ := hrel
    have hll := hid (rng_length (fun k => num d (F (wrd d n k))) k)
    replace r1 := hid r1; replace rB := hid rB
    by_cases hlt : k < M
    · have dk : decide ((k : Int) < (M : Int)) = true := decide_eq_true (by omega)
      have hsn := hid (rng_snoc (fun k => num d (F (wrd d n k))) k)
      have ck := (hO.out.below rB.out).cellAt k _ (lvl_get d n M k hlt)
      have hBw := hid (hB.out.trans (rB.out.mono hB.out.size))
      go_wp2_with (first
        | (go_at_call 164; (with_reducible refine (hf.out _ hBw.out _ (hwl.out k) (hwm.out k)).mono ?_); rintro e w2 ⟨rfl, hb1⟩; replace r1 := hid (r1.out.below hb1); replace rB := hid (rB.out.trans (hb1.mono rB.out.size)); clear hb1 ck hBw)
        | (go_at_call 109; (with_reducible refine (hnum.out k _).mono ?_); rintro e w3 ⟨rfl, rfl⟩)
        | ((with_reducible refine gate (N := 25) rfl ?_); refine app1 22 2 (.int .i64 0) 8 Try.underlying22 info_i64 rfl (by omega) rfl _ _ rfl w1.heap.size _ _ rfl r1.out rB.out.size _ rfl rfl (by have := hll.out; omega) ?_; intro gn cap w2 hO2 hb2 hold hsz2 _; replace hO2 := hid hO2; have tB := hid (rB.out.trans hb2); clear hb2 hold hsz2 r1 rB))
      go_roundw
      case rel => exact ⟨k + 1, by omega, by go_num, by rw [hsn.out]; exact hO2.out, tB.out⟩
      case measure => simp [intOf]; omega
    · obtain rfl : k = M := by omega
      go_wp2
      go_ret
      exact ⟨_, rfl, r1.out.mono hB.out.size, hB.out.trans (rB.out.mono hB.out.size)⟩

set_option maxHeartbeats 2000000 in
set_option maxRecDepth 100000 in
theorem ofState1_any (b : Nat) (w : World) (m : Mach) (hm : MB w 34 b m) (l s : Nat) (g : Good m l s) (q : Nat) (hq : q < s) (u : List Nat) (hu : ∀ x ∈ u, x < l) (hlen : u.length ≤ 1000)
    (b1 b2 : Nat) (h1 : w.cell? ⟨b1, 0, none⟩ = some (.pointer (some ⟨b, 0, none⟩))) (h2 : w.cell? ⟨b2, 0, none⟩ = some (.int .i64 q)) :
    Calls Try.prog 164 #[.string (wstr u), .pointer (some ⟨b1, 0, none⟩), .pointer (some ⟨b2, 0, none⟩)] w fun e w' => e = .returned (.string (wstr (img m q u))) ∧ Below w.heap.size w w' := by
  have hl := hid (lead_any b w m hm l s g q hq u hu hlen)
  clear hm
  go_enter Try.func164, Try.ntmps164
  go_wp2_with (first
    | (go_at_call 65; (with_reducible refine (hl.out).mono ?_); rintro e w1 ⟨rfl, hb⟩; replace hb := hid hb))
  go_ret
  exact ⟨rfl, hb.out⟩

set_option maxHeartbeats 2000000 in
set_option maxRecDepth 100000 in
theorem ofState_any (b : Nat) (w : World) (m : Mach) (hm : MB w 34 b m) (l s : Nat) (g : Good m l s) (q : Nat) (hq : q < s) (n : Nat) (hn : n ≤ 40) (hb : pw l n ≤ 100000) :
    Calls Try.prog 140 #[.pointer (some ⟨b, 0, none⟩), .int .i64 q, .int .i64 n] w fun e w' => ∃ v, e = .returned v ∧ Own w' w.heap.size 2 v (nats (perm m l q n)) ∧ Below w.heap.size w w' := by
  have hM := hid ((hm.alloc (.cells #[.pointer (some ⟨b, 0, none⟩)] 83)).alloc (.cells #[.int .i64 q] 2))
  have hB := hid (below_alloc (below_alloc (Below.refl w.heap.size w) (Nat.le_refl _) (.cells #[.pointer (some ⟨b, 0, none⟩)] 83)) (Nat.le_refl _) (.cells #[.int .i64 q] 2))
  have cL := hM.out.cL
  have c1 : ((w.alloc (.cells #[.pointer (some ⟨b, 0, none⟩)] 83)).alloc (.cells #[.int .i64 q] 2)).cell? ⟨w.heap.size, 0, none⟩ = some (.pointer (some ⟨b, 0, none⟩)) := by simp
  have c2 : ((w.alloc (.cells #[.pointer (some ⟨b, 0, none⟩)] 83)).alloc (.cells #[.int .i64 q] 2)).cell? ⟨w.heap.size + 1, 0, none⟩ = some (.int .i64 q) := by simp
  rw [g.L] at cL
  have hblt := hm.lt
  have hs2 : ((w.alloc (.cells #[.pointer (some ⟨b, 0, none⟩)] 83)).alloc (.cells #[.int .i64 q] 2)).heap.size = w.heap.size + 2 := by rw [heap_alloc_size, heap_alloc_size]
  have l2 := g.l2
  have l3 := g.l3
  have hper := hid (permutation_any l n (by omega) l3 hn hb _ (.pointer (some ⟨w.heap.size, 0, none⟩)) (.pointer (some ⟨w.heap.size + 1, 0, none⟩)) (fun u => img m q u) (fun u hu hx => ⟨(img_length m u q).trans hu, img_lt g u q hq hx⟩)
    (fun W hW u hu hx => ofState1_any b W m (hM.out.below hW hM.out.lt) l s g q hq u hx (by omega) w.heap.size (w.heap.size + 1) ((hW.cell (by dsimp only; omega)).trans c1) ((hW.cell (by dsimp only; omega)).trans c2)))
  have hres := hid (show rng (fun k => num l (img m q (wrd l n k))) (pw l n) = nats (perm m l q n) from rfl)
  clear c2 hs2
  replace hm := hid hm
  replace g := hid g
  have hmf : ∀ (fn : Fn) (first cap : Array Value) (w : World), (Instr.makeFunc fn first cap).run Try.prog w = .ok (.func fn first cap) w := fun _ _ _ _ => rfl
  go_enter Try.func140, Try.ntmps140
  go_wp2_with (first
    | (go_at_call 163; (with_reducible refine (hper.out).mono ?_); rintro e w1 ⟨v, rfl, hO, hb⟩; replace hO := hid hO; replace hb := hid hb))
  go_ret
  exact ⟨_, rfl, by rw [← hres.out]; exact hO.out.mono hB.out.size, hB.out.trans (hb.out.mono hB.out.size)⟩

theorem load_run {w : World} {b : Nat} {m : Mach} (hm : MB w 34 b m) : (loadVar 34 ⟨b, 0, none⟩).run Try.prog w = .ok (.agg (mcells m)) w := by
  have := run_loadVar_mid (P := Try.prog) w b 0 34 (mcells m).toList _ (fun j v hv => by
    have hj : j < 98 := by have := (List.getElem?_eq_some_iff.1 hv).1; rwa [Array.length_toList, size_mcells] at this
    have h2 := World.rowIs.cell hm hj
    have h3 := mcells_get m j hj
    rw [Array.getElem?_toList, h3] at hv
    rw [Nat.zero_add, h2, hv]) Try.underlying34 rfl (by rw [Array.length_toList, size_mcells]; exact sz_mach)
  simpa using this
theorem exec_load {a : Act} {o : Oper} {W : World} {A : Addr} {ty : TypeId} {v : Value} (x : Operand) (ho : o.op = .load ty x) (hx : a.eval x = .pointer (some A)) (h : (loadVar ty A).run Try.prog W = .ok v W) :
    (execOp a.eval o).run Try.prog W = .ok (.value v) W := by
  unfold execOp
  simp only [ho, hx, Instr.loadAt, Instr.sureAddr, Sem.run_bind, Sem.run_pure, Result.andThen_ok, h]
/-- What a region keeps of the world while it calls: a machine in its block, its letters, and all that lay before. -/
theorem keepM {W w1 w0 : World} {b B0 : Nat} {m : Mach} {l : Nat} (h : Hid (MB W 34 b m) ∧ Hid (Below B0 w0 W) ∧ (loadVar 34 ⟨b, 0, none⟩).run Try.prog W = .ok (.agg (mcells m)) W ∧ W.cell? ⟨b, 0, none⟩ = some (.int .i64 (l : Int)))
    (hb : Hid (Below W.heap.size W w1) ∧ B0 ≤ w0.heap.size) : Hid (MB w1 34 b m) ∧ Hid (Below B0 w0 w1) ∧ (loadVar 34 ⟨b, 0, none⟩).run Try.prog w1 = .ok (.agg (mcells m)) w1 ∧ w1.cell? ⟨b, 0, none⟩ = some (.int .i64 (l : Int)) := by
  have h1 := h.1.out.below hb.1.out h.1.out.lt
  exact ⟨h1, h.2.1.out.trans (hb.1.out.mono (Nat.le_trans hb.2 h.2.1.out.size)), load_run h1, (hb.1.out.cell h.1.out.lt).trans h.2.2.2⟩

set_option maxHeartbeats 2000000 in
set_option maxRecDepth 100000 in
theorem l01Level_any (w : World) (m : Mach) (l s : Nat) (g : Good m l s) (q : Nat) (hq : q < s) (n : Nat) (hn : n ≤ 40) (hb : pw l n ≤ 100000) :
    Calls Try.prog 137 #[.agg (mcells m), .int .i64 q, .int .i64 n] w fun e w' => ∃ v, e = .returned v ∧ Own w' w.heap.size 2 v (nats (perm m l q n)) ∧ Below w.heap.size w w' := by
  have hM := hid ((MB.new w m 34).alloc (.cells #[] 2))
  have hB := hid (below_alloc (below_alloc (Below.refl w.heap.size w) (Nat.le_refl _) (.cells (mcells m) 34)) (Nat.le_refl _) (.cells #[] 2))
  have hO := Own.new (w.alloc (.cells (mcells m) 34)) (w.heap.size + 1) 2 (by simp)
  rw [heap_alloc_size] at hO
  replace hO := hid hO
  have hres := hid (show rng (fun k => num l (img m q (wrd l n k))) (pw l n) = nats (perm m l q n) from rfl)
  have l2 := g.l2
  have l3 := g.l3
  have gL := hid g.L
  have hpw := hid (fun W => l01Power_any l n (by omega) (by omega) (by omega) W)
  have hwo := hid (fun k (hk : k < pw l n) W => l01WordOf_any l (by omega) l3 n k hn (by omega) W)
  have hact := hid (fun k W => l01Act_any W m l s g q hq (wrd l n k) (wrd_lt l (by omega) n k) (by rw [wrd_length]; omega))
  have him := hid (fun k => img_lt g (wrd l n k) q hq (wrd_lt l (by omega) n k))
  have hil := hid (fun k => (img_length m (wrd l n k) q).trans (wrd_length l n k))
  have hnum := hid (fun k W => l01NumberOf_any l (by omega) l3 (img m q (wrd l n k)) (him.out k) (by rw [hil.out k]; omega) (by rw [hil.out k]; omega) W)
  clear him hil
  replace g := hid g
  generalize hMn : pw l n = M at *
  go_enter Try.func137, Try.ntmps137
  go_wp2
  go_loopw [7, 8] (fun v i wr => ∃ k : Nat, k ≤ M ∧ i = .int .i64 k ∧ MB wr 34 w.heap.size m ∧ Own wr (w.heap.size + 1) 2 v (rng (fun k => num l (img m q (wrd l n k))) k) ∧ Below w.heap.size w wr) (fun _ i _ => M - (intOf i).toNat)
  case atStart => exact ⟨0, Nat.zero_le _, rfl, hM.out, hO.out, hB.out⟩
  case round =>
    obtain ⟨k, hk, rfl, r1, r2, rB⟩ := hrel
    clear hM hB hO
    have hll := hid (rng_length (fun k => num l (img m q (wrd l n k))) k)
    have cL := r1.cL
    rw [gL.out] at cL
    have hlt1 := hid r1.lt
    replace r1 := hid r1; replace r2 := hid r2; replace rB := hid rB
    by_cases hlt : k < M
    · have dk : decide ((k : Int) < (M : Int)) = true := decide_eq_true (by omega)
      have hsn := hid (rng_snoc (fun k => num l (img m q (wrd l n k))) k)
      have hld := load_run r1.out
      go_wp2_with (first
        | (go_at_call 49; (with_reducible refine (hpw.out _).mono ?_); rintro e w1 ⟨rfl, rfl⟩))
      refine wp_region_held_drew (S := fun w' => Hid (MB w' 34 w.heap.size m) ∧ Hid (Below wr.heap.size wr w') ∧ (loadVar 34 ⟨w.heap.size, 0, none⟩).run Try.prog w' = .ok (.agg (mcells m)) w' ∧ w'.cell? ⟨w.heap.size, 0, none⟩ = some (.int .i64 (l : Int))) (by kernel_rfl) ⟨hid r1.out.drew, hid (Below.refl _ _).drew, load_run r1.out.drew, cL⟩ (fun hHeld => ?_)
      refine wpAnyH_take (i := 0) (v := .agg (mcells m)) rfl (by kernel_rfl) (by kernel_rfl) (by kernel_rfl) (fun _ _ _ h => h) (Or.inl ⟨by rfl, ?_⟩) (by assumption) ?_
      · (intro W hW; exact exec_load _ rfl rfl (load_run hW.1.out))
      try simp only [Act.put, List.setIfInBounds_toArray, List.set_cons_zero, List.set_cons_succ]
      refine wpAnyH_take (i := 1) (v := ?_) rfl (by kernel_rfl) (by kernel_rfl) (by kernel_rfl) (fun _ _ _ h => h) (Or.inl ⟨by rfl, ?_⟩) (by assumption) ?_
      rotate_left
      · (intro W hW; (try dsimp only at hW); go_simp; (with_reducible rfl))
      try simp only [Act.put, List.setIfInBounds_toArray, List.set_cons_zero, List.set_cons_succ]
      refine wpAnyH_take (i := 2) (v := ?_) rfl (by kernel_rfl) (by kernel_rfl) (by kernel_rfl) (fun _ _ _ h => h) (Or.inl ⟨by rfl, ?_⟩) (by assumption) ?_
      rotate_left
      · (intro W hW; (try dsimp only at hW); go_simp; (with_reducible rfl))
      try simp only [Act.put, List.setIfInBounds_toArray, List.set_cons_zero, List.set_cons_succ]
      refine wpAnyH_take (i := 3) (v := ?_) rfl (by kernel_rfl) (by kernel_rfl) (by kernel_rfl) (fun _ _ _ h => h) (Or.inl ⟨by rfl, ?_⟩) (by assumption) ?_
      rotate_left
      · (intro W hW; (try dsimp only at hW); go_simp; (with_reducible rfl))
      try simp only [Act.put, List.setIfInBounds_toArray, List.set_cons_zero, List.set_cons_succ]
      refine wpAnyH_take (i := 4) (v := ?_) rfl (by kernel_rfl) (by kernel_rfl) (by kernel_rfl) (fun _ _ _ h => h) (Or.inl ⟨by rfl, ?_⟩) (by assumption) ?_
      rotate_left
      · (intro W hW; (try dsimp only at hW); go_simp; (with_reducible rfl))
      try simp only [Act.put, List.setIfInBounds_toArray, List.set_cons_zero, List.set_cons_succ]
      refine wpAnyH_take (i := 5) (v := ?_) rfl (by kernel_rfl) (by kernel_rfl) (by kernel_rfl) (fun _ _ _ h => h) (Or.inl ⟨by rfl, ?_⟩) (by assumption) ?_
      rotate_left
      · (intro W hW; (try dsimp only at hW); go_simp; (with_reducible rfl))
      try simp only [Act.put, List.setIfInBounds_toArray, List.set_cons_zero, List.set_cons_succ]
      refine wpAnyH_ready (rs := [6]) (by kernel_rfl) (by simp) ?_
      refine AllReadyH.cons rfl (fun K hK => ?_) AllReadyH.nil
      go_simp
      go_at_call 51; (with_reducible refine (hwo.out k hlt _).mono ?_); rintro e w1 ⟨rfl, hb1⟩; replace hb1 := hid hb1; go_simp
      refine hK.out _ _ (keepM hHeld ⟨hb1, Nat.le_refl _⟩) (fun hHeld' => ?_)
      clear hK K hb1 hHeld
      have hHeld := hHeld'
      clear hHeld'
      try simp only [Act.put, List.setIfInBounds_toArray, List.set_cons_zero, List.set_cons_succ]
      refine wpAnyH_ready (rs := [7]) (by kernel_rfl) (by simp) ?_
      refine AllReadyH.cons rfl (fun K hK => ?_) AllReadyH.nil
      go_simp
      go_at_call 110; (with_reducible refine (hact.out k _).mono ?_); rintro e w2 ⟨rfl, hb1⟩; replace hb1 := hid hb1; go_simp
      refine hK.out _ _ (keepM hHeld ⟨hb1, Nat.le_refl _⟩) (fun hHeld' => ?_)
      clear hK K hb1 hHeld
      have hHeld := hHeld'
      clear hHeld'
      try simp only [Act.put, List.setIfInBounds_toArray, List.set_cons_zero, List.set_cons_succ]
      refine wpAnyH_take (i := 8) (v := ?_) rfl (by kernel_rfl) (by kernel_rfl) (by kernel_rfl) (fun _ _ _ h => h) (Or.inl ⟨by rfl, ?_⟩) (by assumption) ?_
      rotate_left
      · (intro W hW; (try dsimp only at hW); go_simp; (with_reducible rfl))
      try simp only [Act.put, List.setIfInBounds_toArray, List.set_cons_zero, List.set_cons_succ]
      refine wpAnyH_take (i := 9) (v := ?_) rfl (by kernel_rfl) (by kernel_rfl) (by kernel_rfl) (fun _ _ _ h => h) (Or.inl ⟨by rfl, ?_⟩) (by assumption) ?_
      rotate_left
      · (intro W hW; (try dsimp only at hW); go_simp; (with_reducible rfl))
      try simp only [Act.put, List.setIfInBounds_toArray, List.set_cons_zero, List.set_cons_succ]
      refine wpAnyH_take (i := 10) (v := ?_) rfl (by kernel_rfl) (by kernel_rfl) (by kernel_rfl) (fun _ _ _ h => h) (Or.inl ⟨by rfl, ?_⟩) (by assumption) ?_
      rotate_left
      · (intro W hW; (try dsimp only at hW); go_simp; (with_reducible rfl))
      try simp only [Act.put, List.setIfInBounds_toArray, List.set_cons_zero, List.set_cons_succ]
      refine wpAnyH_take (i := 11) (v := ?_) rfl (by kernel_rfl) (by kernel_rfl) (by kernel_rfl) (fun _ _ _ h => h) (Or.inl ⟨by rfl, ?_⟩) (by assumption) ?_
      rotate_left
      · (intro W hW; (try dsimp only at hW); go_simp; (with_reducible rfl))
      try simp only [Act.put, List.setIfInBounds_toArray, List.set_cons_zero, List.set_cons_succ]
      refine wpAnyH_take (i := 12) (v := ?_) rfl (by kernel_rfl) (by kernel_rfl) (by kernel_rfl) (fun _ _ _ h => h) (Or.inl ⟨by rfl, ?_⟩) (by assumption) ?_
      rotate_left
      · (intro W hW; (try dsimp only at hW); go_simp; (with_reducible rfl))
      try simp only [Act.put, List.setIfInBounds_toArray, List.set_cons_zero, List.set_cons_succ]
      refine wpAnyH_done (by kernel_rfl) ?_ _
      obtain ⟨t1, tb, _, cL2⟩ := hHeld
      have t2 := hid (r2.out.below tb.out)
      have tB := hid (rB.out.trans (tb.out.mono rB.out.size))
      have tlt := hid t1.out.lt
      clear hld cL r1 r2 rB tb
      go_wp2_with (first
        | (go_at_call 102; (with_reducible refine (hnum.out k _).mono ?_); rintro e w3 ⟨rfl, rfl⟩)
        | ((with_reducible refine gate (N := 37) rfl ?_); refine app1 22 2 (.int .i64 0) 8 Try.underlying22 info_i64 rfl (by omega) rfl _ _ rfl (w.heap.size + 1) _ _ rfl t2.out tlt.out _ rfl rfl (by have := hll.out; omega) ?_; intro gn cap w4 hO2 hb2 hold hsz2 _; have y1 := hid (show MB w4 34 w.heap.size m from World.rowIs.of_block t1.out (hold _ tlt.out (fun e => by have := (t2.out.lt _ e).1; omega))); replace hO2 := hid hO2; have yB := hid (tB.out.trans (hb2.mono (Nat.le_succ _))); clear hb2 hold hsz2 t1 t2 tB cL2))
      go_roundw
      case rel => exact ⟨k + 1, by omega, by go_num, y1.out, by rw [hsn.out]; exact hO2.out, yB.out⟩
      case measure => simp [intOf]; omega
    · obtain rfl : k = M := by omega
      go_wp2_with (first
        | (go_at_call 49; (with_reducible refine (hpw.out _).mono ?_); rintro e w1 ⟨rfl, rfl⟩))
      go_ret
      exact ⟨_, rfl, by rw [← hres.out]; exact r2.out.mono (Nat.le_succ _), rB.out⟩
end Go.Proofs.Ythempofohidlnaa
