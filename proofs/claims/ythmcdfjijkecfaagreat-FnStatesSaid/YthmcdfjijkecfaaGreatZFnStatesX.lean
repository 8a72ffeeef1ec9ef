/- What the proof of FnStates leans on, part 24 of 29. -/
import Derived.Test.YthmcdfjijkecfaaGreatZFnStatesW
/- The reference's permutations of letters. -/
namespace Go.Proofs.YthmcdfjijkecfaaGreat
open Go.RowKit
set_option linter.unusedVariables false
set_option linter.unusedSimpArgs false
-- @LONG

/-- Where permutation k leads the letter x. -/
def pim (d k x : Nat) : Nat := (((prms d).getD k []).getD x 0).toNat
theorem pim_lt (d k x : Nat) (hd : d = 2 ∨ d = 3) (hk : k < cnt d) (hx : x < d) : pim d k x < d := by
  rcases hd with rfl | rfl
  · have : k = 0 ∨ k = 1 := by have : cnt 2 = 2 := rfl; omega
    have h2 : x = 0 ∨ x = 1 := by omega
    rcases this with rfl | rfl <;> rcases h2 with rfl | rfl <;> decide
  · have : k = 0 ∨ k = 1 ∨ k = 2 ∨ k = 3 ∨ k = 4 ∨ k = 5 := by have : cnt 3 = 6 := rfl; omega
    have h2 : x = 0 ∨ x = 1 ∨ x = 2 := by omega
    rcases this with rfl | rfl | rfl | rfl | rfl | rfl <;> rcases h2 with rfl | rfl | rfl <;> decide
/-- Three bytes in a block of their own. -/
theorem row_new3 (w : World) (f : Nat → Nat) (a b c : Int) (ha : a = (f 0 : Nat)) (hb : b = (f 1 : Nat)) (hc : c = (f 2 : Nat)) :
    (w.alloc (.cells #[.int .u8 a, .int .u8 b, .int .u8 c] 24)).rowIs w.heap.size 24 3 (byt f) := by
  subst ha; subst hb; subst hc
  exact rowIs_new w 3 24 (byt f)
set_option maxHeartbeats 1000000 in
set_option maxRecDepth 100000 in
theorem l03Images_20 (w : World) :
    Calls Tryz.prog 247 #[.int .i64 2, .int .i64 0] w fun e w' => e = .returned (.agg (rowL 3 (byt (pim 2 0))).toArray) ∧ Below w.heap.size w w' := by
  go_enter Tryz.func247, Tryz.ntmps247
  go_wp2
  exact ret_row (ty := 24) (p := 4) rfl (g := w.heap.size) (t := 24) (n := 3) rfl (row_new3 w (pim 2 0) _ _ _ (by decide) (by decide) (by decide)) Tryz.underlying24 rfl sz_b3 rfl ⟨rfl, below_alloc (Below.refl _ _) (Nat.le_refl _) _⟩
set_option maxHeartbeats 1000000 in
set_option maxRecDepth 100000 in
theorem l03Images_21 (w : World) :
    Calls Tryz.prog 247 #[.int .i64 2, .int .i64 1] w fun e w' => e = .returned (.agg (rowL 3 (byt (pim 2 1))).toArray) ∧ Below w.heap.size w w' := by
  go_enter Tryz.func247, Tryz.ntmps247
  go_wp2
  exact ret_row (ty := 24) (p := 4) rfl (g := w.heap.size) (t := 24) (n := 3) rfl (row_new3 w (pim 2 1) _ _ _ (by decide) (by decide) (by decide)) Tryz.underlying24 rfl sz_b3 rfl ⟨rfl, below_alloc (Below.refl _ _) (Nat.le_refl _) _⟩
theorem row_is3 {W : World} {b t : Nat} {f : Nat → Nat} (h : W.heap[b]? = some (.cells (rowL 3 (byt f)).toArray t (0, 0))) : W.rowIs b t 3 (byt f) :=
  ⟨_, h, rfl, fun i hi => by have := rowL_get 3 (byt f) i hi; simpa using this⟩
theorem sz_63 : (Tryz.prog.info? 257).map (·.size) = some 18 := by kernel_rfl
theorem zero_63 (w : World) : (zeroValue 257).run Tryz.prog w = .ok (.agg (rowL 18 (byt fun _ => 0)).toArray) w := by kernel_rfl
def all6 : Array Value := #[.int .u8 0, .int .u8 1, .int .u8 2, .int .u8 0, .int .u8 2, .int .u8 1, .int .u8 1, .int .u8 0, .int .u8 2, .int .u8 1, .int .u8 2, .int .u8 0, .int .u8 2, .int .u8 0, .int .u8 1, .int .u8 2, .int .u8 1, .int .u8 0]
theorem all6_get (k : Nat) (hk : k < 6) (j : Nat) (v : Value) (hv : (rowL 3 (byt (pim 3 k)))[j]? = some v) : all6[k * 3 + j]? = some v := by
  have hj : j < 3 := by have := (List.getElem?_eq_some_iff.1 hv).1; rwa [rowL_length] at this
  rw [rowL_get 3 _ j hj] at hv
  rw [← hv]
  have : k = 0 ∨ k = 1 ∨ k = 2 ∨ k = 3 ∨ k = 4 ∨ k = 5 := by omega
  have h2 : j = 0 ∨ j = 1 ∨ j = 2 := by omega
  rcases this with rfl | rfl | rfl | rfl | rfl | rfl <;> rcases h2 with rfl | rfl | rfl <;> rfl
theorem built6 : Tryz.prog.built 257 [(0, Value.agg #[.int .u8 0, .int .u8 1, .int .u8 2]), (1, Value.agg #[.int .u8 0, .int .u8 2, .int .u8 1]), (2, Value.agg #[.int .u8 1, .int .u8 0, .int .u8 2]), (3, Value.agg #[.int .u8 1, .int .u8 2, .int .u8 0]), (4, Value.agg #[.int .u8 2, .int .u8 0, .int .u8 1]), (5, Value.agg #[.int .u8 2, .int .u8 1, .int .u8 0])] = some all6 := by kernel_rfl
theorem build_all6 {ops : Array Oper} {rest : List Oper} {o : Oper} {a : Act} {w : World} {Q : Exit → Act → World → Prop} (hgd : o.guard = none) (ho : o.op = .build 257 #[(0, Operand.tmp 12), (1, Operand.tmp 13), (2, Operand.tmp 14), (3, Operand.tmp 15), (4, Operand.tmp 16), (5, Operand.tmp 17)])
    (e0 : a.eval (.tmp 12) = .agg #[.int .u8 0, .int .u8 1, .int .u8 2]) (e1 : a.eval (.tmp 13) = .agg #[.int .u8 0, .int .u8 2, .int .u8 1]) (e2 : a.eval (.tmp 14) = .agg #[.int .u8 1, .int .u8 0, .int .u8 2]) (e3 : a.eval (.tmp 15) = .agg #[.int .u8 1, .int .u8 2, .int .u8 0]) (e4 : a.eval (.tmp 16) = .agg #[.int .u8 2, .int .u8 0, .int .u8 1]) (e5 : a.eval (.tmp 17) = .agg #[.int .u8 2, .int .u8 1, .int .u8 0])
    (h : wpList Tryz.prog ops Q rest (a.put o.dst (.agg all6)) w) : wpList Tryz.prog ops Q (o :: rest) a w := by
  have h0 : ((#[(0, Operand.tmp 12), (1, Operand.tmp 13), (2, Operand.tmp 14), (3, Operand.tmp 15), (4, Operand.tmp 16), (5, Operand.tmp 17)] : Array (Nat × Operand)).map fun (i, x) => (i, a.eval x)).toList = [(0, Value.agg #[.int .u8 0, .int .u8 1, .int .u8 2]), (1, Value.agg #[.int .u8 0, .int .u8 2, .int .u8 1]), (2, Value.agg #[.int .u8 1, .int .u8 0, .int .u8 2]), (3, Value.agg #[.int .u8 1, .int .u8 2, .int .u8 0]), (4, Value.agg #[.int .u8 2, .int .u8 0, .int .u8 1]), (5, Value.agg #[.int .u8 2, .int .u8 1, .int .u8 0])] := by
    simp only [List.map_toArray, List.map_cons, List.map_nil, e0, e1, e2, e3, e4, e5]
  have e : Tryz.prog.built 257 ((#[(0, Operand.tmp 12), (1, Operand.tmp 13), (2, Operand.tmp 14), (3, Operand.tmp 15), (4, Operand.tmp 16), (5, Operand.tmp 17)] : Array (Nat × Operand)).map fun (i, x) => (i, a.eval x)).toList = some all6 := by
    rw [h0]; exact built6
  refine wpList_build hgd 257 _ ho (by rw [e]; rfl) ?_
  rw [e]
  exact h
set_option maxHeartbeats 2000000 in
set_option maxRecDepth 100000 in
theorem l03Images_3 (k : Nat) (hk : k < 6) (w : World) :
    Calls Tryz.prog 247 #[.int .i64 3, .int .i64 k] w fun e w' => e = .returned (.agg (rowL 3 (byt (pim 3 k))).toArray) ∧ Below w.heap.size w w' := by
  have hS := ((St.start w).newBlk #[.int .u8 0, .int .u8 0, .int .u8 0] 24).newBlk (rowL 18 (byt fun _ => 0)).toArray 257
  rw [heap_alloc_size] at hS
  replace hS := hid hS
  have hz := zero_63
  have hbig : all6.all (·.oneCell') = true := by simp [all6, Value.oneCell']
  have hss := hid sz_63
  have hzs := hid (show (rowL 18 (byt fun _ => 0)).toArray.size = 18 from rfl)
  have h6s := hid (show all6.size = 18 from rfl)
  have hget := hid (all6_get k hk)
  have hl := hid (rowL_length 3 (byt (pim 3 k)))
  have k0 : (0 : Int) ≤ (k : Int) := Int.natCast_nonneg _
  have k1 : (k : Int) < 6 := by omega
  replace hbig := hid hbig
  generalize (rowL 18 (byt fun _ => 0)).toArray = zs at *
  go_enter Tryz.func247, Tryz.ntmps247
  go_upto_region 6 with (first
    | ((with_reducible refine gate (N := 18) rfl ?_); refine build_all6 rfl rfl rfl rfl rfl rfl rfl rfl ?_)
    | ((with_reducible refine gateOp (op := .store 257 (.tmp 5) (.tmp 18)) rfl ?_); refine wpList_store_row rfl _ _ _ rfl (w.heap.size + 1) _ rfl rfl _ _ hS.out.k0 (by rw [h6s.out]; exact hss.out) (by rw [hzs.out, h6s.out]) hbig.out ?_))
  replace hS := hid (hS.out.setRow (Nat.le_succ _) all6)
  generalize World.setRow _ _ all6 = w2 at *
  have hrg := hid (show w2.rangeAt (w.heap.size + 1) (k * 3) (rowL 3 (byt (pim 3 k))) from fun j v hv => (cell_of_row _ _ (k * 3 + j) _ _ _ hS.out.k0).trans (hget.out j v hv))
  have h1c := hid (show ((rowL 3 (byt (pim 3 k))).toArray.all (·.oneCell') = true) from one_byt 3 (pim 3 k))
  have hls := hid (show (rowL 3 (byt (pim 3 k))).toArray.size = 3 from rfl)
  have hrr := hid (fun (W : World) (b : Nat) (h : W.heap[b]? = some (.cells (rowL 3 (byt (pim 3 k))).toArray 24 (0, 0))) => (show W.rowIs b 24 3 (byt (pim 3 k)) from row_is3 h))
  have hRR := hid (show rowL 3 (byt (pim 3 k)) = rowL 3 (byt (pim 3 k)) from rfl)
  generalize hR : rowL 3 (byt (pim 3 k)) = R at *
  replace hR := hid hR
  clear hRR
  have hRR := hid hR.out
  go_wp2_with (first
    | ((with_reducible refine gate (N := 21) rfl ?_); refine wpList_load_mid rfl 24 _ rfl (w.heap.size + 1) (k * 3) rfl _ _ hrg.out Tryz.underlying24 rfl (by rw [hl.out]; exact sz_b3) ?_)
    | ((with_reducible refine gateOp (op := .store 24 (.tmp 4) (.tmp 21)) rfl ?_); refine wpList_store_row rfl _ _ _ rfl w.heap.size _ rfl rfl _ _ hS.out.k1 (by rw [hls.out]; exact sz_b3) (by rw [hls.out]; rfl) h1c.out ?_; replace hS := hid (hS.out.f1.setRow (Nat.le_refl _) R.toArray)))
  exact ret_row (ty := 24) (p := 4) rfl (g := w.heap.size) (t := 24) (n := 3) rfl (hrr.out _ _ hS.out.k0) Tryz.underlying24 rfl sz_b3 rfl ⟨by rw [hRR.out], hS.out.bel⟩
theorem l03Images_any (d k : Nat) (hd : d = 2 ∨ d = 3) (hk : k < cnt d) (w : World) :
    Calls Tryz.prog 247 #[.int .i64 d, .int .i64 k] w fun e w' => e = .returned (.agg (rowL 3 (byt (pim d k))).toArray) ∧ Below w.heap.size w w' := by
  rcases hd with rfl | rfl
  · have : k = 0 ∨ k = 1 := by have : cnt 2 = 2 := rfl; omega
    rcases this with rfl | rfl
    · exact l03Images_20 w
    · exact l03Images_21 w
  · exact l03Images_3 k (by have : cnt 3 = 6 := rfl; omega) w
end Go.Proofs.YthmcdfjijkecfaaGreat

/- What a portrait makes of words. -/
namespace Go.Proofs.YthmcdfjijkecfaaGreat
open Go.RowKit
set_option linter.unusedVariables false
set_option linter.unusedSimpArgs false
-- @LONG

/-- The word to which a portrait leads a word. -/
def actP (d : Nat) (g : List Int) (u : List Nat) : List Nat := (List.range u.length).map fun i => pim d (gAt d g (u.take i)).toNat (u.getD i 0)
theorem actP_length (d : Nat) (g : List Int) (u : List Nat) : (actP d g u).length = u.length := by simp [actP]
theorem actP_snoc (d : Nat) (g : List Int) (u : List Nat) (x : Nat) : actP d g (u ++ [x]) = actP d g u ++ [pim d (gAt d g u).toNat x] := by
  unfold actP
  rw [List.length_append, List.length_singleton, List.range_succ, List.map_append]
  congr 1
  · refine List.map_congr_left fun i hi => ?_
    have hi := List.mem_range.1 hi
    rw [List.take_append_of_le_length (by omega)]
    congr 1
    simp [List.getD_eq_getElem?_getD, List.getElem?_append_left hi]
  · simp
theorem actP_take (d : Nat) (g : List Int) (u : List Nat) (k : Nat) (hk : k < u.length) : actP d g (u.take (k + 1)) = actP d g (u.take k) ++ [pim d (gAt d g (u.take k)).toNat (u.getD k 0)] := by
  rw [take_snoc' u k hk, actP_snoc]
theorem gAt_nat {d n : Nat} {g : List Int} (hd : d = 2 ∨ d = 3) (hg : IsP d n g) (u : List Nat) (hu : ∀ x ∈ u, x < d) (hn : u.length < n) : ((gAt d g u).toNat : Int) = gAt d g u ∧ (gAt d g u).toNat < cnt d := by
  have := gAt_range hd hg u hu hn
  omega
theorem actP_lt {d n : Nat} {g : List Int} (hd : d = 2 ∨ d = 3) (hg : IsP d n g) (u : List Nat) (hu : ∀ x ∈ u, x < d) (hn : u.length ≤ n) : ∀ y ∈ actP d g u, y < d := fun y hy => by
  obtain ⟨i, hi, rfl⟩ := List.mem_map.1 hy
  have hi := List.mem_range.1 hi
  refine pim_lt d _ _ hd (gAt_nat hd hg _ (fun x hx => hu x (List.mem_of_mem_take hx)) (by rw [List.length_take]; omega)).2 (hu _ (getD_mem u i hi))
theorem pim_injx (d k x y : Nat) (hd : d = 2 ∨ d = 3) (hk : k < cnt d) (hx : x < d) (hy : y < d) (h : pim d k x = pim d k y) : x = y := by
  rcases hd with rfl | rfl
  · have h1 : k = 0 ∨ k = 1 := by have : cnt 2 = 2 := rfl; omega
    have h2 : x = 0 ∨ x = 1 := by omega
    have h3 : y = 0 ∨ y = 1 := by omega
    rcases h1 with rfl | rfl <;> rcases h2 with rfl | rfl <;> rcases h3 with rfl | rfl <;> first | rfl | (exact absurd h (by decide))
  · have h1 : k = 0 ∨ k = 1 ∨ k = 2 ∨ k = 3 ∨ k = 4 ∨ k = 5 := by have : cnt 3 = 6 := rfl; omega
    have h2 : x = 0 ∨ x = 1 ∨ x = 2 := by omega
    have h3 : y = 0 ∨ y = 1 ∨ y = 2 := by omega
    rcases h1 with rfl | rfl | rfl | rfl | rfl | rfl <;> rcases h2 with rfl | rfl | rfl <;> rcases h3 with rfl | rfl | rfl <;> first | rfl | (exact absurd h (by decide))
theorem actP_inj {d n : Nat} {g : List Int} (hd : d = 2 ∨ d = 3) (hg : IsP d n g) : ∀ (k : Nat) (u v : List Nat), u.length = k → v.length = k → k ≤ n → (∀ x ∈ u, x < d) → (∀ x ∈ v, x < d) → actP d g u = actP d g v → u = v
  | 0, u, v, hu, hv, _, _, _, _ => by rw [List.length_eq_zero_iff.1 hu, List.length_eq_zero_iff.1 hv]
  | k + 1, u, v, hu, hv, hk, hul, hvl, e => by
    obtain ⟨u', x, rfl⟩ : ∃ u' x, u = u' ++ [x] := ⟨u.dropLast, u.getLast (by intro e; rw [e] at hu; simp at hu), (List.dropLast_concat_getLast _).symm⟩
    obtain ⟨v', y, rfl⟩ : ∃ v' y, v = v' ++ [y] := ⟨v.dropLast, v.getLast (by intro e; rw [e] at hv; simp at hv), (List.dropLast_concat_getLast _).symm⟩
    have hu' : u'.length = k := by simpa using hu
    have hv' : v'.length = k := by simpa using hv
    rw [actP_snoc, actP_snoc] at e
    obtain ⟨e1, e2⟩ := List.append_inj e (by rw [actP_length, actP_length, hu', hv'])
    have euv := actP_inj hd hg k u' v' hu' hv' (by omega) (fun z hz => hul z (List.mem_append.2 (.inl hz))) (fun z hz => hvl z (List.mem_append.2 (.inl hz))) e1
    subst euv
    have e3 : pim d (gAt d g u').toNat x = pim d (gAt d g u').toNat y := by simpa using e2
    rw [pim_injx d _ x y hd (gAt_nat hd hg u' (fun z hz => hul z (List.mem_append.2 (.inl hz))) (by omega)).2 (hul x (by simp)) (hvl y (by simp)) e3]
theorem aut_act {d n : Nat} {g : List Int} (hd : d = 2 ∨ d = 3) (hg : IsP d n g) : Aut d (actP d g) n where
  len := fun u _ _ => actP_length d g u
  lt := fun u hu hl => actP_lt hd hg u hu hl
  pre := fun u x _ _ _ => ⟨_, actP_snoc d g u x⟩
  inj := fun u v hu hv hl he e => actP_inj hd hg u.length u v rfl he.symm hl hu hv e
theorem wstr_take (u : List Nat) (k : Nat) : (wstr u).extract 0 k = wstr (u.take k) := by
  apply ByteArray.ext
  rw [ByteArray.data_extract]
  apply Array.toList_inj.1
  simp [wstr, strOfNums, List.map_take]
theorem prms_row (d k : Nat) (hd : d = 2 ∨ d = 3) (hk : k < cnt d) : ∃ row, (prms d)[k]? = some row ∧ row.length = d ∧ ∀ x, x < d → row[x]? = some ((pim d k x : Nat) : Int) := by
  rcases hd with rfl | rfl
  · have h1 : k = 0 ∨ k = 1 := by have : cnt 2 = 2 := rfl; omega
    rcases h1 with rfl | rfl <;> refine ⟨_, rfl, rfl, fun x hx => ?_⟩ <;> (have h2 : x = 0 ∨ x = 1 := by omega) <;> rcases h2 with rfl | rfl <;> decide
  · have h1 : k = 0 ∨ k = 1 ∨ k = 2 ∨ k = 3 ∨ k = 4 ∨ k = 5 := by have : cnt 3 = 6 := rfl; omega
    rcases h1 with rfl | rfl | rfl | rfl | rfl | rfl <;> refine ⟨_, rfl, rfl, fun x hx => ?_⟩ <;> (have h2 : x = 0 ∨ x = 1 ∨ x = 2 := by omega) <;> rcases h2 with rfl | rfl | rfl <;> decide
set_option maxHeartbeats 4000000 in
set_option maxRecDepth 100000 in
theorem act_any (w : World) (d n : Nat) (hd : d = 2 ∨ d = 3) (hn : n ≤ 4) (b0 : Nat) (v : Value) (g : List Int) (hO : Own w b0 2 v (ints g)) (hg : IsP d n g) (u : List Nat) (hu : ∀ x ∈ u, x < d) (hl : u.length ≤ n) :
    Calls Tryz.prog 96 #[.int .i64 d, v, .string (wstr u)] w fun e w' => e = .returned (.string (wstr (actP d g u))) ∧ Below w.heap.size w w' := by
  have hgl := ints_length g
  obtain ⟨A, cp, rfl, _, hA⟩ := hO.form
  rw [hgl] at hO ⊢
  have hsz := wstr_size u
  have hmk := fun W : World => run_make_row' (P := Tryz.prog) 22 5 (.int .u8 0) 1 Tryz.underlying22 info_u8 rfl .i64 .i64 u.length (by omega) (by omega) W
  have hbyte := hid (fun k hk => wstr_byte u k hk (fun x hx => by have := hu x hx; omega))
  have hS := hid ((St.arg w hO).newDig u.length)
  have hpm := hid (fun W => permutations_any d hd W)
  have hc2 : 2 ≤ cnt d ∧ cnt d ≤ 6 := by rcases hd with rfl | rfl <;> decide
  have hpml := hid (prms_length d)
  have hpl := hid (fun i (hi : i < u.length) W => place_any d hd (u.take i) (fun x hx => hu x (List.mem_of_mem_take hx)) (by rw [List.length_take]; omega) W)
  -- what a round asks
  have hrd := hid (fun k (hk : k < u.length) => (show ∃ (ix kk : Nat) (row : List Int), start d (u.take k).length + num d (u.take k) = ix ∧ ix < g.length ∧ (ints g)[ix]? = some (.int .i64 (kk : Nat)) ∧ kk < cnt d ∧ (prms d)[kk]? = some row ∧ row.length = d ∧ (ints row)[u.getD k 0]? = some (.int .i64 (pim d kk (u.getD k 0) : Nat)) ∧ u.getD k 0 < d ∧ pim d kk (u.getD k 0) < d ∧ actP d g (u.take (k + 1)) = actP d g (u.take k) ++ [pim d kk (u.getD k 0)] from by
    have htl : (u.take k).length = k := by rw [List.length_take]; omega
    have hm : ∀ x ∈ u.take k, x < d := fun x hx => hu x (List.mem_of_mem_take hx)
    have hgi := gAt_in hd hg (u.take k) hm (by omega)
    have hgn := gAt_nat hd hg (u.take k) hm (by omega)
    have hx := hu _ (getD_mem u k hk)
    obtain ⟨row, h1, h2, h3⟩ := prms_row d _ hd hgn.2
    exact ⟨_, (gAt d g (u.take k)).toNat, row, rfl, hgi.1, by rw [hgn.1]; simp only [ints, List.getElem?_map, hgi.2]; rfl, hgn.2, h1, h2, by simp only [ints, List.getElem?_map, h3 _ hx]; rfl, hx, pim_lt d _ _ hd hgn.2 hx, actP_take d g u k hk⟩))
  have hal := hid (fun k (hk : k ≤ u.length) => (show (actP d g (u.take k)).length = k by rw [actP_length, List.length_take]; omega))
  have hfu := hid (show actP d g u = actP d g (u.take u.length) by rw [List.take_length])
  have hws := hid (fun k => wstr_take u k)
  have hd3 : d ≤ 3 ∧ 2 ≤ d := by rcases hd with h | h <;> rw [h] <;> decide
  rw [hfu.out]
  have hA2 := hid (fun (h : 0 < g.length) => (show ∃ ga, A = some ⟨ga, 0, none⟩ from by
    rcases hA with ⟨_, h1, _⟩ | ⟨ga, h1, _⟩
    · have : g.length = 0 := by rw [← hgl, h1]; rfl
      omega
    · exact ⟨ga, h1⟩))
  replace hg := hid hg; replace hu := hid hu; replace hd := hid hd
  clear hA hfu
  generalize hwe : wstr u = ws at *
  replace hwe := hid hwe
  generalize madeCells #[.int .u8 0] u.length = mc at *
  generalize hN : u.length = N at *
  replace hN := hid hN
  go_enter Tryz.func96, Tryz.ntmps96
  go_upto_region 2 with (fail)
  generalize w.alloc (.cells mc 5) = W1 at *
  go_wp2
  clear hmk
  go_loopw [15] (fun i wr => ∃ k : Nat, k ≤ N ∧ i = .int .i64 k ∧ St w.heap.size w [Asn.dig w.heap.size N (actP d g (u.take k)), Asn.own 0 2 (.slice A g.length cp) (ints g)] wr) (fun i _ => N - (intOf i).toNat)
  case atStart => exact ⟨0, Nat.zero_le _, rfl, hS.out⟩
  case round =>
    obtain ⟨k, hk, rfl, rS⟩ := hrel
    clear hS
    replace rS := hid rS
    by_cases hkN : k < N
    · have dk : decide ((k : Int) < (N : Int)) = true := decide_eq_true (by omega)
      have hks : k ≤ ws.size := by omega
      have hks2 : k < ws.size := by omega
      have hpk := hid (hpl.out k hkN)
      obtain ⟨ix, kk, row, e1, hix, hgk, hkk, hrow, hrl, hrx, hx, hy, hsn⟩ := hrd.out k hkN
      rw [e1] at hpk
      obtain ⟨ga, rfl⟩ := hA2.out (by omega)
      have hby := hbyte.out k hks2
      have hlk := hid (hal.out k hk)
      have hwk := hid (hws.out k)
      have hil := hid (ints_length row)
      have ix0 : (0 : Int) ≤ (ix : Int) := Int.natCast_nonneg _
      have ix1 : (ix : Int) < (g.length : Int) := by omega
      have kk0 : (0 : Int) ≤ (kk : Int) := Int.natCast_nonneg _
      have kk1 : (kk : Int) < (cnt d : Int) := by omega
      have hco := hid (fun (W : World) (hW : W.rowIs w.heap.size 5 N (dgs (actP d g (u.take k)))) => (show ∃ c0, W.cell? ⟨w.heap.size, k, none⟩ = some c0 ∧ W.frozen? ⟨w.heap.size, k, none⟩ = false from ⟨_, hW.cell hkN, hW.frozen k⟩))
      replace hgk := hid hgk; replace hrow := hid hrow; replace hrx := hid hrx; replace hsn := hid hsn
      clear e1 hix
      generalize wstr (u.take k) = wk at *
      generalize u.getD k 0 = x at *
      generalize pim d kk x = y at *
      generalize actP d g (u.take k) = ak at *
      generalize cnt d = C at *
      have e3 : 48 + (x : Int) - 48 = x := by omega
      have e4 : ((x : Nat) : Int) % 256 = (x : Nat) := by omega
      have x0 : (0 : Int) ≤ (x : Int) := Int.natCast_nonneg _
      have x1 : (x : Int) < (d : Int) := by omega
      go_upto_region 5 with (fail)
      replace rS := hid rS.out.drew
      refine wp_region_heldL (L := [(7, (fun w' : World => True))]) (by kernel_rfl) (HeldL.cons (fun _ => trivial) HeldL.nil) (fun hHeld => ?_)
      generalize wr.drew = wa at *
      refine wpAnyL_take0 (i := 0) (v := ?_) rfl (by kernel_rfl) (by kernel_rfl) (by kernel_rfl) (by rfl) (fun _ _ _ h => h) (Or.inl ⟨by rfl, ?_⟩) (by assumption) ?_
      rotate_left
      · (intro W _; go_simp; (with_reducible rfl))
      intro hHeld'
      clear hHeld; have hHeld := hHeld'; clear hHeld'
      try simp only [Act.put, List.getElem_toArray, List.getElem_cons_succ, List.getElem_cons_zero, List.setIfInBounds_toArray, List.set_cons_zero, List.set_cons_succ]
      refine wpAnyL_take0 (i := 2) (v := ?_) rfl (by kernel_rfl) (by kernel_rfl) (by kernel_rfl) (by rfl) (fun _ _ _ h => h) (Or.inl ⟨by rfl, ?_⟩) (by assumption) ?_
      rotate_left
      · (intro W _; go_simp; (with_reducible rfl))
      intro hHeld'
      clear hHeld; have hHeld := hHeld'; clear hHeld'
      try simp only [Act.put, List.getElem_toArray, List.getElem_cons_succ, List.getElem_cons_zero, List.setIfInBounds_toArray, List.set_cons_zero, List.set_cons_succ]
      refine wpAnyL_take0 (i := 3) (v := ?_) rfl (by kernel_rfl) (by kernel_rfl) (by kernel_rfl) (by rfl) (fun _ _ _ h => h) (Or.inl ⟨by rfl, ?_⟩) (by assumption) ?_
      rotate_left
      · (intro W _; go_simp; (with_reducible rfl))
      intro hHeld'
      clear hHeld; have hHeld := hHeld'; clear hHeld'
      try simp only [Act.put, List.getElem_toArray, List.getElem_cons_succ, List.getElem_cons_zero, List.setIfInBounds_toArray, List.set_cons_zero, List.set_cons_succ]
      refine wpAnyL_take0 (i := 4) (v := ?_) rfl (by kernel_rfl) (by kernel_rfl) (by kernel_rfl) (by rfl) (fun _ _ _ h => h) (Or.inl ⟨by rfl, ?_⟩) (by assumption) ?_
      rotate_left
      · (intro W _; go_simp; (with_reducible rfl))
      intro hHeld'
      clear hHeld; have hHeld := hHeld'; clear hHeld'
      try simp only [Act.put, List.getElem_toArray, List.getElem_cons_succ, List.getElem_cons_zero, List.setIfInBounds_toArray, List.set_cons_zero, List.set_cons_succ]
      refine wpAnyL_take0 (i := 5) (v := ?_) rfl (by kernel_rfl) (by kernel_rfl) (by kernel_rfl) (by rfl) (fun _ _ _ h => h) (Or.inl ⟨by rfl, ?_⟩) (by assumption) ?_
      rotate_left
      · (intro W _; go_simp; (with_reducible rfl))
      intro hHeld'
      clear hHeld; have hHeld := hHeld'; clear hHeld'
      try simp only [Act.put, List.getElem_toArray, List.getElem_cons_succ, List.getElem_cons_zero, List.setIfInBounds_toArray, List.set_cons_zero, List.set_cons_succ]
      refine wpAnyL_take0 (i := 6) (v := (.string wk)) rfl (by kernel_rfl) (by kernel_rfl) (by kernel_rfl) (by rfl) (fun _ _ _ h => h) (Or.inl ⟨by rfl, ?_⟩) (by assumption) ?_
      · (intro W _; go_simp; exact hwk.out)
      intro hHeld'
      clear hHeld; have hHeld := hHeld'; clear hHeld'
      try simp only [Act.put, List.getElem_toArray, List.getElem_cons_succ, List.getElem_cons_zero, List.setIfInBounds_toArray, List.set_cons_zero, List.set_cons_succ]
      refine wpAnyL_ready (rs := [1]) (by kernel_rfl) (by simp) ?_
      refine AllReadyL.cons rfl (fun K hK => ?_) AllReadyL.nil
      go_simp
      (with_reducible refine (hpm.out _).mono ?_)
      rintro e w3 ⟨vp, rfl, hM, hb⟩
      replace rS := hid (rS.out.call hb)
      clear hb
      obtain ⟨gp, cpp, rfl, _, _⟩ := hM.blk (fun e => by have h := hpml.out; rw [e] at h; simp at h; omega)
      rw [hpml.out] at hM ⊢
      replace hM := hid hM
      go_simp
      refine hK.out _ _ (HeldL.cons (fun _ => trivial) HeldL.nil) (fun hHeld' => ?_)
      clear hK K hHeld; have hHeld := hHeld'; clear hHeld'
      try simp only [Act.put, List.getElem_toArray, List.getElem_cons_succ, List.getElem_cons_zero, List.setIfInBounds_toArray, List.set_cons_zero, List.set_cons_succ]
      refine wpAnyL_ready (rs := [7]) (by kernel_rfl) (by simp) ?_
      refine AllReadyL.cons rfl (fun K hK => ?_) AllReadyL.nil
      go_simp
      (with_reducible refine (hpk.out _).mono ?_)
      rintro e w4 ⟨rfl, rfl⟩
      go_simp
      refine hK.out _ _ (HeldL.cons (fun h => absurd h (by decide +kernel)) HeldL.nil) (fun hHeld' => ?_)
      clear hK K hHeld; have hHeld := hHeld'; clear hHeld'
      try simp only [Act.put, List.getElem_toArray, List.getElem_cons_succ, List.getElem_cons_zero, List.setIfInBounds_toArray, List.set_cons_zero, List.set_cons_succ]
      have cg := rS.out.o1.cellAt _ _ hgk.out
      obtain ⟨rr, cr, hrO⟩ := hM.out.row _ _ hrow.out
      obtain ⟨gr, cpr, rfl, _, _⟩ := hrO.blk (fun e => by have h := congrArg List.length e; rw [hil.out, hrl] at h; simp at h; omega)
      rw [hil.out, hrl] at hrO cr
      have cx := hrO.cellAt _ _ hrx.out
      replace hrO := hid hrO
      refine wpAnyL_take0 (i := 8) (v := ?_) rfl (by kernel_rfl) (by kernel_rfl) (by kernel_rfl) (by rfl) (fun _ _ _ h => h) (Or.inl ⟨by rfl, ?_⟩) (by assumption) ?_
      rotate_left
      · (intro W _; go_simp; (with_reducible rfl))
      intro hHeld'
      clear hHeld; have hHeld := hHeld'; clear hHeld'
      try simp only [Act.put, List.getElem_toArray, List.getElem_cons_succ, List.getElem_cons_zero, List.setIfInBounds_toArray, List.set_cons_zero, List.set_cons_succ]
      refine wpAnyL_ready (rs := [9]) (by kernel_rfl) (by simp) ?_
      refine AllReadyL.cons rfl (fun K hK => ?_) AllReadyL.nil
      go_simp
      refine hK.out _ _ (HeldL.cons (fun h => absurd h (by decide +kernel)) HeldL.nil) (fun hHeld' => ?_)
      clear hK K hHeld; have hHeld := hHeld'; clear hHeld'
      try simp only [Act.put, List.getElem_toArray, List.getElem_cons_succ, List.getElem_cons_zero, List.setIfInBounds_toArray, List.set_cons_zero, List.set_cons_succ]
      refine wpAnyL_take0 (i := 10) (v := ?_) rfl (by kernel_rfl) (by kernel_rfl) (by kernel_rfl) (by rfl) (fun _ _ _ h => h) (Or.inl ⟨by rfl, ?_⟩) (by assumption) ?_
      rotate_left
      · (intro W _; go_simp; (with_reducible rfl))
      intro hHeld'
      clear hHeld; have hHeld := hHeld'; clear hHeld'
      try simp only [Act.put, List.getElem_toArray, List.getElem_cons_succ, List.getElem_cons_zero, List.setIfInBounds_toArray, List.set_cons_zero, List.set_cons_succ]
      refine wpAnyL_ready (rs := [11]) (by kernel_rfl) (by simp) ?_
      refine AllReadyL.cons rfl (fun K hK => ?_) AllReadyL.nil
      go_simp
      refine hK.out _ _ (HeldL.cons (fun h => absurd h (by decide +kernel)) HeldL.nil) (fun hHeld' => ?_)
      clear hK K hHeld; have hHeld := hHeld'; clear hHeld'
      try simp only [Act.put, List.getElem_toArray, List.getElem_cons_succ, List.getElem_cons_zero, List.setIfInBounds_toArray, List.set_cons_zero, List.set_cons_succ]
      refine wpAnyL_take0 (i := 12) (v := ?_) rfl (by kernel_rfl) (by kernel_rfl) (by kernel_rfl) (by rfl) (fun _ _ _ h => h) (Or.inl ⟨by rfl, ?_⟩) (by assumption) ?_
      rotate_left
      · (intro W _; go_simp; (with_reducible rfl))
      intro hHeld'
      clear hHeld; have hHeld := hHeld'; clear hHeld'
      try simp only [Act.put, List.getElem_toArray, List.getElem_cons_succ, List.getElem_cons_zero, List.setIfInBounds_toArray, List.set_cons_zero, List.set_cons_succ]
      refine wpAnyL_done (by kernel_rfl) ?_ _
      obtain ⟨c0, co, fo⟩ := hco.out _ rS.out.d0
      go_wp2_with (first
        | (go_at_call 183; (with_reducible refine (letter_any y (by omega) _).mono ?_); rintro e w5 ⟨rfl, rfl⟩))
      replace rS := hid (rS.out.setDig (Nat.le_of_eq rfl) y k hlk.out)
      rw [← hsn.out] at rS
      go_roundw
      case rel => exact ⟨k + 1, by omega, by go_num, rS.out⟩
      case measure => simp [intOf]; omega
    · obtain rfl : k = N := by omega
      have dk : decide ((k : Int) < (k : Int)) = false := decide_eq_false (by omega)
      have hconv := conv_dgs (hal.out k (Nat.le_refl _)) rS.out.d0
      go_wp2
      go_ret
      exact ⟨rfl, rS.out.bel⟩
end Go.Proofs.YthmcdfjijkecfaaGreat

/- The portrait of a map that respects beginnings, and how it is read from the map of a level. -/
namespace Go.Proofs.YthmcdfjijkecfaaGreat
open Go.RowKit
set_option linter.unusedVariables false
set_option linter.unusedSimpArgs false
-- @LONG

/-- What a map makes of the letters behind a word. -/
def lrow (d : Nat) (F : List Nat → List Nat) (u : List Nat) : List Int := (List.range d).map fun x => (((F (u ++ [x])).getD u.length 0 : Nat) : Int)
/-- The portrait of a map. -/
def prtF (d : Nat) (F : List Nat → List Nat) (n : Nat) : List Int := byL d (fun u => pnm (lrow d F u)) n
theorem pq_two (a b : Nat) (ha : a < 2) (hb : b < 2) (h : a ≠ b) : ∃ i, i < cnt 2 ∧ pnm [(a : Int), (b : Int)] = (i : Nat) ∧ pim 2 i 0 = a ∧ pim 2 i 1 = b := by
  have h1 : (a = 0 ∧ b = 1) ∨ (a = 1 ∧ b = 0) := by omega
  rcases h1 with ⟨rfl, rfl⟩ | ⟨rfl, rfl⟩
  · exact ⟨0, by decide, by decide, by decide, by decide⟩
  · exact ⟨1, by decide, by decide, by decide, by decide⟩
theorem pq_three (a b c : Nat) (ha : a < 3) (hb : b < 3) (hc : c < 3) (h : a ≠ b) (h2 : a ≠ c) (h3 : b ≠ c) : ∃ i, i < cnt 3 ∧ pnm [(a : Int), (b : Int), (c : Int)] = (i : Nat) ∧ pim 3 i 0 = a ∧ pim 3 i 1 = b ∧ pim 3 i 2 = c := by
  have h1 : (a = 0 ∧ b = 1 ∧ c = 2) ∨ (a = 0 ∧ b = 2 ∧ c = 1) ∨ (a = 1 ∧ b = 0 ∧ c = 2) ∨ (a = 1 ∧ b = 2 ∧ c = 0) ∨ (a = 2 ∧ b = 0 ∧ c = 1) ∨ (a = 2 ∧ b = 1 ∧ c = 0) := by omega
  rcases h1 with ⟨rfl, rfl, rfl⟩ | ⟨rfl, rfl, rfl⟩ | ⟨rfl, rfl, rfl⟩ | ⟨rfl, rfl, rfl⟩ | ⟨rfl, rfl, rfl⟩ | ⟨rfl, rfl, rfl⟩
  · exact ⟨0, by decide, by decide, by decide, by decide, by decide⟩
  · exact ⟨1, by decide, by decide, by decide, by decide, by decide⟩
  · exact ⟨2, by decide, by decide, by decide, by decide, by decide⟩
  · exact ⟨3, by decide, by decide, by decide, by decide, by decide⟩
  · exact ⟨4, by decide, by decide, by decide, by decide, by decide⟩
  · exact ⟨5, by decide, by decide, by decide, by decide, by decide⟩
section
variable {d n : Nat} {F : List Nat → List Nat}
theorem snoc_lt {u : List Nat} {x : Nat} (hu : ∀ y ∈ u, y < d) (hx : x < d) : ∀ y ∈ u ++ [x], y < d := fun y hy => (List.mem_append.1 hy).elim (hu y) fun hy => by rw [List.mem_singleton.1 hy]; exact hx
/-- The letter that is put out behind a word. -/
theorem Aut.last (h : Aut d F n) {u : List Nat} {x : Nat} (hu : ∀ y ∈ u, y < d) (hx : x < d) (hn : u.length < n) : F (u ++ [x]) = F u ++ [(F (u ++ [x])).getD u.length 0] ∧ (F (u ++ [x])).getD u.length 0 < d := by
  obtain ⟨y, hy⟩ := h.pre u x hu hx hn
  have hl := h.len u hu (by omega)
  have e : (F (u ++ [x])).getD u.length 0 = y := by
    rw [hy, List.getD_eq_getElem?_getD, ← hl, List.getElem?_append_right (Nat.le_refl _)]; simp
  refine ⟨by rw [e]; exact hy, ?_⟩
  rw [e]
  exact h.lt (u ++ [x]) (snoc_lt hu hx) (by simp; omega) y (by rw [hy]; simp)
theorem Aut.last_ne (h : Aut d F n) {u : List Nat} {x y : Nat} (hu : ∀ z ∈ u, z < d) (hx : x < d) (hy : y < d) (hn : u.length < n) (hne : x ≠ y) : (F (u ++ [x])).getD u.length 0 ≠ (F (u ++ [y])).getD u.length 0 := fun e => by
  have h1 := (h.last hu hx hn).1
  have h2 := (h.last hu hy hn).1
  rw [e] at h1
  have h3 := h.inj _ _ (snoc_lt hu hx) (snoc_lt hu hy) (by simp; omega) (by simp) (h1.trans h2.symm)
  have h4 := List.append_cancel_left h3
  exact hne (by simpa using h4)
theorem lrow_length (u : List Nat) : (lrow d F u).length = d := by simp [lrow]
/-- The number of what is made of the letters behind a word. -/
theorem lrow_num (hd : d = 2 ∨ d = 3) (h : Aut d F n) {u : List Nat} (hu : ∀ y ∈ u, y < d) (hn : u.length < n) : ∃ i, i < cnt d ∧ pnm (lrow d F u) = (i : Nat) ∧ ∀ x, x < d → pim d i x = (F (u ++ [x])).getD u.length 0 := by
  rcases hd with rfl | rfl
  · obtain ⟨i, h1, h2, h3, h4⟩ := pq_two _ _ (h.last hu (show 0 < 2 by omega) hn).2 (h.last hu (show 1 < 2 by omega) hn).2 (h.last_ne hu (show 0 < 2 by omega) (show 1 < 2 by omega) hn (by omega))
    refine ⟨i, h1, h2, fun x hx => ?_⟩
    have : x = 0 ∨ x = 1 := by omega
    rcases this with rfl | rfl
    · exact h3
    · exact h4
  · obtain ⟨i, h1, h2, h3, h4, h5⟩ := pq_three _ _ _ (h.last hu (show 0 < 3 by omega) hn).2 (h.last hu (show 1 < 3 by omega) hn).2 (h.last hu (show 2 < 3 by omega) hn).2 (h.last_ne hu (show 0 < 3 by omega) (show 1 < 3 by omega) hn (by omega)) (h.last_ne hu (show 0 < 3 by omega) (show 2 < 3 by omega) hn (by omega)) (h.last_ne hu (show 1 < 3 by omega) (show 2 < 3 by omega) hn (by omega))
    refine ⟨i, h1, h2, fun x hx => ?_⟩
    have : x = 0 ∨ x = 1 ∨ x = 2 := by omega
    rcases this with rfl | rfl | rfl
    · exact h3
    · exact h4
    · exact h5
theorem byL_all {G : List Nat → Int} {P : Int → Prop} : ∀ n, (∀ k, k < n → ∀ j, j < pw d k → P (G (wrd d k j))) → ∀ x ∈ byL d G n, P x
  | 0, _, x, hx => by cases hx
  | n + 1, h, x, hx => by
    rcases List.mem_append.1 hx with hx | hx
    · exact byL_all n (fun k hk => h k (by omega)) x hx
    · obtain ⟨j, hj, rfl⟩ := List.mem_map.1 hx
      exact h n (by omega) j (List.mem_range.1 hj)
theorem prtF_isP (hd : d = 2 ∨ d = 3) (h : Aut d F n) : IsP d n (prtF d F n) := by
  refine ⟨byL_length _ _ _, byL_all n fun k hk j hj => ?_⟩
  obtain ⟨i, h1, h2, _⟩ := lrow_num hd h (u := wrd d k j) (wrd_lt d (by omega) k j) (by rw [wrd_length]; exact hk)
  rw [h2]; omega
theorem prtF_gAt (hd : d = 2 ∨ d = 3) {u : List Nat} (hu : ∀ y ∈ u, y < d) (hn : u.length < n) : gAt d (prtF d F n) u = pnm (lrow d F u) := by
  have h1 := num_lt d u.length u rfl hu
  have h2 := byL_get d (fun u => pnm (lrow d F u)) u.length (num d u) h1 n hn
  unfold gAt prtF
  rw [List.getD_eq_getElem?_getD, h2, wrd_num d (by omega) _ u rfl hu]; rfl
/-- The portrait of a map leads words to where the map leads them. -/
theorem act_prtF (hd : d = 2 ∨ d = 3) (h : Aut d F n) : ∀ (k : Nat) (u : List Nat), u.length = k → k ≤ n → (∀ y ∈ u, y < d) → actP d (prtF d F n) u = F u
  | 0, u, hk, _, hu => by
    have h1 := h.len u hu (by omega)
    rw [List.length_eq_zero_iff.1 hk] at h1 ⊢
    exact (List.length_eq_zero_iff.1 h1).symm
  | k + 1, u, hk, hkn, hu => by
    obtain ⟨v, x, rfl⟩ : ∃ v x, u = v ++ [x] := ⟨u.dropLast, u.getLast (by intro e; rw [e] at hk; simp at hk), (List.dropLast_concat_getLast _).symm⟩
    have hv : ∀ y ∈ v, y < d := fun y hy => hu y (List.mem_append.2 (.inl hy))
    have hx : x < d := hu x (by simp)
    have hvk : v.length = k := by simpa using hk
    obtain ⟨i, h1, h2, h3⟩ := lrow_num hd h hv (by omega)
    rw [actP_snoc, act_prtF hd h k v hvk (by omega) hv, prtF_gAt hd hv (by omega), h2, Int.toNat_natCast, h3 x hx]
    exact (h.last hv hx (by omega)).1.symm
theorem pmF_congr {G : List Nat → List Nat} (hd : 0 < d) (h : ∀ u, u.length = n → (∀ y ∈ u, y < d) → F u = G u) : pmF d F n = pmF d G n :=
  List.map_congr_left fun k _ => by rw [h _ (wrd_length d n k) (wrd_lt d hd n k)]
theorem prtF_congr {G : List Nat → List Nat} (hd : 0 < d) (h : ∀ u, u.length ≤ n → (∀ y ∈ u, y < d) → F u = G u) : prtF d F n = prtF d G n := by
  refine byL_congr d _ _ n fun k hk j hj => congrArg pnm ?_
  refine List.map_congr_left fun x hx => ?_
  rw [h _ (by simp [wrd_length]; omega) (snoc_lt (wrd_lt d hd k j) (List.mem_range.1 hx))]
/-- What stands at a place of a word, read from its number. -/
theorem num_at (hd : 0 < d) : ∀ (j : Nat) (v : List Nat) (k : Nat), v.length = k + j + 1 → (∀ y ∈ v, y < d) → num d v / pw d j % d = v.getD k 0
  | 0, v, k, hl, hv => by
    obtain ⟨u, x, rfl⟩ : ∃ u x, v = u ++ [x] := ⟨v.dropLast, v.getLast (by intro e; rw [e] at hl; simp at hl), (List.dropLast_concat_getLast _).symm⟩
    have hk : u.length = k := by simpa using hl
    have hx : x < d := hv x (by simp)
    rw [show pw d 0 = 1 from rfl, Nat.div_one, num_snoc, Nat.mul_comm, Nat.mul_add_mod, Nat.mod_eq_of_lt hx, ← hk]
    simp [List.getD_eq_getElem?_getD]
  | j + 1, v, k, hl, hv => by
    obtain ⟨u, x, rfl⟩ : ∃ u x, v = u ++ [x] := ⟨v.dropLast, v.getLast (by intro e; rw [e] at hl; simp at hl), (List.dropLast_concat_getLast _).symm⟩
    have hk : u.length = k + j + 1 := by
      have : u.length + 1 = k + (j + 1) + 1 := by simpa using hl
      omega
    have hx : x < d := hv x (by simp)
    have h1 : (num d u * d + x) / d = num d u := by rw [Nat.mul_comm, Nat.mul_add_div hd, Nat.div_eq_of_lt hx, Nat.add_zero]
    rw [num_snoc, show pw d (j + 1) = pw d j * d from rfl, Nat.mul_comm (pw d j) d, ← Nat.div_div_eq_div_mul, h1, num_at hd j u k hk fun y hy => hv y (List.mem_append.2 (.inl hy))]
    rw [List.getD_eq_getElem?_getD, List.getD_eq_getElem?_getD, List.getElem?_append_left (by omega)]
/-- The number of a word with zeros behind it. -/
theorem num_zeros (u : List Nat) : ∀ j, num d (u ++ List.replicate j 0) = num d u * pw d j
  | 0 => by rw [List.replicate_zero, List.append_nil]; exact (Nat.mul_one _).symm
  | j + 1 => by
    rw [List.replicate_succ', ← List.append_assoc, num_snoc, num_zeros u j, Nat.add_zero, Nat.mul_assoc]; rfl
theorem zeros_lt (hd : 0 < d) {u : List Nat} (hu : ∀ y ∈ u, y < d) (j : Nat) : ∀ y ∈ u ++ List.replicate j 0, y < d := fun y hy => (List.mem_append.1 hy).elim (hu y) fun hy => by rw [List.eq_of_mem_replicate hy]; exact hd
/-- What a map makes of the beginning of a word. -/
theorem Aut.begin (hd : 0 < d) (h : Aut d F n) {u : List Nat} (hu : ∀ y ∈ u, y < d) : ∀ j, u.length + j ≤ n → ∃ v, F (u ++ List.replicate j 0) = F u ++ v ∧ v.length = j
  | 0, _ => ⟨[], by simp, rfl⟩
  | j + 1, hj => by
    obtain ⟨v, hv, hvl⟩ := Aut.begin hd h hu j (by omega)
    obtain ⟨y, hy⟩ := h.pre (u ++ List.replicate j 0) 0 (zeros_lt hd hu j) hd (by simp; omega)
    exact ⟨v ++ [y], by rw [List.replicate_succ', ← List.append_assoc, hy, hv, List.append_assoc], by simp [hvl]⟩
/-- How the letter behind a word is read from the numbers of a level. -/
theorem pmF_read (hd : d = 2 ∨ d = 3) (h : Aut d F n) {u : List Nat} (hu : ∀ y ∈ u, y < d) (hn : u.length < n) {x : Nat} (hx : x < d) : num d u * pw d (n - u.length) + x * pw d (n - u.length - 1) < pw d n ∧ (pmF d F n).getD (num d u * pw d (n - u.length) + x * pw d (n - u.length - 1)) 0 / pw d (n - u.length - 1) % d = (F (u ++ [x])).getD u.length 0 := by
  have d0 : 0 < d := by omega
  obtain ⟨j, hj⟩ : ∃ j, n = u.length + j + 1 := ⟨n - u.length - 1, by omega⟩
  have e1 : n - u.length = j + 1 := by omega
  have e2 : n - u.length - 1 = j := by omega
  rw [e2, e1]
  have hux := snoc_lt hu hx
  have e3 : num d u * pw d (j + 1) + x * pw d j = num d ((u ++ [x]) ++ List.replicate j 0) := by
    rw [num_zeros, num_snoc, Nat.add_mul, Nat.mul_assoc, show pw d (j + 1) = pw d j * d from rfl, Nat.mul_comm (pw d j) d]
  have hl : ((u ++ [x]) ++ List.replicate j 0).length = n := by simp; omega
  have hz := zeros_lt d0 hux j
  have hlt := num_lt d n _ hl hz
  rw [e3]
  refine ⟨hlt, ?_⟩
  rw [pmF_get hlt, wrd_num d d0 n _ hl hz]
  obtain ⟨v, hv, hvl⟩ := h.begin d0 hux j (by simp; omega)
  have hFl := h.len (u ++ [x]) hux (by simp; omega)
  have hF2 := h.len _ hz (by omega)
  rw [num_at d0 j _ u.length (by rw [hF2, hl]; omega) (h.lt _ hz (by omega)), hv]
  rw [List.getD_eq_getElem?_getD, List.getD_eq_getElem?_getD, List.getElem?_append_left (by rw [hFl]; simp)]
end
end Go.Proofs.YthmcdfjijkecfaaGreat

/- Portraits of states are portraits of what they do. -/
namespace Go.Proofs.YthmcdfjijkecfaaGreat
open Go.RowKit
set_option linter.unusedVariables false
set_option linter.unusedSimpArgs false
-- @LONG

/-- The portrait of a state is the portrait of what it does. -/
theorem prtM_F (m : Mach) (l q n : Nat) : prtM m l q n = prtF l (img m q) n := by
  refine byL_congr l _ _ n fun k hk j hj => congrArg pnm ?_
  refine List.map_congr_left fun x hx => ?_
  rw [img_snoc, List.getD_eq_getElem?_getD, List.getElem?_append_right (by rw [img_length]; exact Nat.le_refl _), img_length, Nat.sub_self]
  simp
/-- The portrait of a state leads words as the state. -/
theorem act_prtM {m : Mach} {l s q n : Nat} (g : Good m l s) (hq : q < s) {u : List Nat} (hu : ∀ x ∈ u, x < l) (hn : u.length ≤ n) : actP l (prtM m l q n) u = img m q u := by
  have l2 := g.l2
  have l3 := g.l3
  rw [prtM_F]
  exact act_prtF (by omega) (aut_img g hq n) u.length u rfl hn hu
theorem prtM_isP {m : Mach} {l s q n : Nat} (g : Good m l s) (hq : q < s) : IsP l n (prtM m l q n) := by
  have l2 := g.l2
  have l3 := g.l3
  rw [prtM_F]
  exact prtF_isP (by omega) (aut_img g hq n)
theorem pof_3 {m : Mach} {l s q : Nat} (g : Good m l s) (hq : q < s) : pofAns m q 3 = (prtM m l q 3, 0) := by
  have h0 : codeI m { data := #[] } [(q : Int)] = 0 := by
    rcases codeI1 m q with ⟨_, h⟩ | ⟨_, _, h⟩ | ⟨h, _⟩
    · exact absurd g.isM h
    · rw [g.S] at h; omega
    · exact h
  have := pofAns_0 (n := 3) g h0 ⟨by omega, by omega⟩
  exact this
end Go.Proofs.YthmcdfjijkecfaaGreat

/- The reference's number of a permutation. -/
namespace Go.Proofs.YthmcdfjijkecfaaGreat
open Go.RowKit
set_option linter.unusedVariables false
set_option linter.unusedSimpArgs false
-- @LONG

theorem pim_256 (d k x : Nat) (hd : d = 2 ∨ d = 3) (hk : k < cnt d) (hx : x < 3) : pim d k x < 256 := by
  rcases hd with rfl | rfl
  · have : k = 0 ∨ k = 1 := by have : cnt 2 = 2 := rfl; omega
    have h2 : x = 0 ∨ x = 1 ∨ x = 2 := by omega
    rcases this with rfl | rfl <;> rcases h2 with rfl | rfl | rfl <;> decide
  · have : k = 0 ∨ k = 1 ∨ k = 2 ∨ k = 3 ∨ k = 4 ∨ k = 5 := by have : cnt 3 = 6 := rfl; omega
    have h2 : x = 0 ∨ x = 1 ∨ x = 2 := by omega
    rcases this with rfl | rfl | rfl | rfl | rfl | rfl <;> rcases h2 with rfl | rfl | rfl <;> decide
theorem pim_inj (d k i : Nat) (hd : d = 2 ∨ d = 3) (hk : k < cnt d) (hi : i < cnt d) (h : pim d k 0 = pim d i 0 ∧ pim d k 1 = pim d i 1 ∧ pim d k 2 = pim d i 2) : k = i := by
  rcases hd with rfl | rfl
  · have h1 : k = 0 ∨ k = 1 := by have : cnt 2 = 2 := rfl; omega
    have h2 : i = 0 ∨ i = 1 := by have : cnt 2 = 2 := rfl; omega
    rcases h1 with rfl | rfl <;> rcases h2 with rfl | rfl <;> first | rfl | (exact absurd h (by decide))
  · have h1 : k = 0 ∨ k = 1 ∨ k = 2 ∨ k = 3 ∨ k = 4 ∨ k = 5 := by have : cnt 3 = 6 := rfl; omega
    have h2 : i = 0 ∨ i = 1 ∨ i = 2 ∨ i = 3 ∨ i = 4 ∨ i = 5 := by have : cnt 3 = 6 := rfl; omega
    rcases h1 with rfl | rfl | rfl | rfl | rfl | rfl <;> rcases h2 with rfl | rfl | rfl | rfl | rfl | rfl <;> first | rfl | (exact absurd h (by decide))
theorem load_b3 {w : World} {b t : Nat} {x y z : Value} (h : w.heap[b]? = some (.cells #[x, y, z] t (0, 0))) : (loadVar 24 ⟨b, 0, none⟩).run Tryz.prog w = .ok (.agg #[x, y, z]) w := by
  have := run_loadVar_mid (P := Tryz.prog) w b 0 24 [x, y, z] _ (fun j v hv => by rw [Nat.zero_add, cell_of_row w b j _ _ _ h]; simpa using hv) Tryz.underlying24 rfl sz_b3
  simpa using this
set_option maxHeartbeats 4000000 in
set_option maxRecDepth 100000 in
theorem l03Number_lit (d i : Nat) (hd : d = 2 ∨ d = 3) (hi : i < cnt d) (a b c : Nat) (ha : a = pim d i 0) (hb : b = pim d i 1) (hc : c = pim d i 2) (w : World) :
    Calls Tryz.prog 221 #[.int .i64 d, .agg #[.int .u8 (a : Int), .int .u8 (b : Int), .int .u8 (c : Int)]] w fun e w' => e = .returned (.int .i64 (i : Nat)) ∧ Below w.heap.size w w' := by
  have hS := hid ((St.start w).newBlk #[.int .u8 (a : Int), .int .u8 (b : Int), .int .u8 (c : Int)] 24)
  have hct := hid (fun W => l03Count_any d hd W)
  have hc6 : cnt d ≤ 6 := by rcases hd with rfl | rfl <;> decide
  have him := hid (fun k (hk : k < cnt d) W => (by have h := l03Images_any d k hd hk W; rw [row3] at h; exact h : Calls Tryz.prog 247 #[.int .i64 d, .int .i64 k] W fun e w' => e = .returned (.agg #[.int .u8 (pim d k 0 : Nat), .int .u8 (pim d k 1 : Nat), .int .u8 (pim d k 2 : Nat)]) ∧ Below W.heap.size W w'))
  have hab : a < 256 ∧ b < 256 ∧ c < 256 := ⟨ha ▸ pim_256 d i 0 hd hi (by omega), hb ▸ pim_256 d i 1 hd hi (by omega), hc ▸ pim_256 d i 2 hd hi (by omega)⟩
  have heq0 := hid (fun k (hk : k < cnt d) (r : Bool) (hr : Tells r (pim d k 0 = a ∧ pim d k 1 = b ∧ pim d k 2 = c)) W => eq_b3 W (pim d k 0) (pim d k 1) (pim d k 2) a b c ⟨pim_256 d k 0 hd hk (by omega), pim_256 d k 1 hd hk (by omega), pim_256 d k 2 hd hk (by omega)⟩ hab r hr)
  have hne := hid (fun k (hk : k < i) (h : pim d k 0 = a ∧ pim d k 1 = b ∧ pim d k 2 = c) => (show False from by
    have := pim_inj d k i hd (by omega) hi ⟨h.1.trans ha, h.2.1.trans hb, h.2.2.trans hc⟩; omega))
  have hye := hid (show pim d i 0 = a ∧ pim d i 1 = b ∧ pim d i 2 = c from ⟨ha.symm, hb.symm, hc.symm⟩)
  have hg := guard_b3
  clear ha hb hc hab
  generalize hC : cnt d = C at *
  have ew : IntKind.i64.wrap ((C : Int) - 1) = (C : Int) - 1 := IntWalk.i64_in _ (by omega)
  clear hC
  go_enter Tryz.func221, Tryz.ntmps221
  go_wp2
  go_loopw [5] (fun j wr => ∃ k : Nat, k ≤ i ∧ j = .int .i64 k ∧ St w.heap.size w [Asn.blk w.heap.size #[.int .u8 (a : Int), .int .u8 (b : Int), .int .u8 (c : Int)] 24] wr) (fun j _ => i - (intOf j).toNat)
  case atStart => exact ⟨0, Nat.zero_le _, rfl, hS.out⟩
  case round =>
    obtain ⟨k, hk, rfl, rS⟩ := hrel
    clear hS
    replace rS := hid rS
    have dk : decide ((k : Int) < 6) = true := decide_eq_true (by omega)
    have hkC : k < C := by omega
    have hik := hid (him.out k hkC)
    have dm : decide ((C : Int) - 1 < (k : Int)) = false := decide_eq_false (by omega)
    have hmin : ¬ (C : Int) - 1 < (k : Int) := by omega
    by_cases hlt : k < i
    · have heq := fun W => heq0.out k hkC false ⟨fun h => (by cases h), fun h => (hne.out k hlt h).elim⟩ W
      generalize pim d k 0 = a' at *
      generalize pim d k 1 = b' at *
      generalize pim d k 2 = c' at *
      go_upto_region 4 with (fail)
      replace rS := hid rS.out.drew
      refine wp_region_heldL (L := [(8, (fun w' : World => w'.heap[w.heap.size]? = some (.cells #[.int .u8 (a : Int), .int .u8 (b : Int), .int .u8 (c : Int)] 24 (0, 0))))]) (by kernel_rfl) (HeldL.cons (fun _ => rS.out.k0) HeldL.nil) (fun hHeld => ?_)
      generalize wr.drew = wa at *
      refine wpAnyL_take0 (i := 0) (v := ?_) rfl (by kernel_rfl) (by kernel_rfl) (by kernel_rfl) (by rfl) (fun _ _ _ h => h) (Or.inl ⟨by rfl, ?_⟩) (by assumption) ?_
      rotate_left
      · (intro W _; go_simp; (with_reducible rfl))
      intro hHeld'
      clear hHeld; have hHeld := hHeld'; clear hHeld'
      try simp only [Act.put, List.getElem_toArray, List.getElem_cons_succ, List.getElem_cons_zero, List.setIfInBounds_toArray, List.set_cons_zero, List.set_cons_succ]
      refine wpAnyL_take0 (i := 1) (v := ?_) rfl (by kernel_rfl) (by kernel_rfl) (by kernel_rfl) (by rfl) (fun _ _ _ h => h) (Or.inl ⟨by rfl, ?_⟩) (by assumption) ?_
      rotate_left
      · (intro W _; go_simp; (with_reducible rfl))
      intro hHeld'
      clear hHeld; have hHeld := hHeld'; clear hHeld'
      try simp only [Act.put, List.getElem_toArray, List.getElem_cons_succ, List.getElem_cons_zero, List.setIfInBounds_toArray, List.set_cons_zero, List.set_cons_succ]
      refine wpAnyL_take0 (i := 2) (v := ?_) rfl (by kernel_rfl) (by kernel_rfl) (by kernel_rfl) (by rfl) (fun _ _ _ h => h) (Or.inl ⟨by rfl, ?_⟩) (by assumption) ?_
      rotate_left
      · (intro W _; go_simp; (with_reducible rfl))
      intro hHeld'
      clear hHeld; have hHeld := hHeld'; clear hHeld'
      try simp only [Act.put, List.getElem_toArray, List.getElem_cons_succ, List.getElem_cons_zero, List.setIfInBounds_toArray, List.set_cons_zero, List.set_cons_succ]
      refine wpAnyL_takeP (i := 7) 8 [] (v := (.agg #[.int .u8 (a : Int), .int .u8 (b : Int), .int .u8 (c : Int)])) (fun w' : World => w'.heap[w.heap.size]? = some (.cells #[.int .u8 (a : Int), .int .u8 (b : Int), .int .u8 (c : Int)] 24 (0, 0))) rfl (by kernel_rfl) (by kernel_rfl) (by kernel_rfl) (by rfl) (by kernel_rfl) (by simp) (fun _ _ _ h => h) (Or.inl ⟨by rfl, ?_⟩) (by assumption) ?_
      · (intro W hW; exact exec_load _ rfl rfl (load_b3 hW))
      intro hHeld'
      clear hHeld; have hHeld := hHeld'; clear hHeld'
      try simp only [Act.put, List.getElem_toArray, List.getElem_cons_succ, List.getElem_cons_zero, List.setIfInBounds_toArray, List.set_cons_zero, List.set_cons_succ]
      refine wpAnyL_ready (rs := [3]) (by kernel_rfl) (by simp) ?_
      refine AllReadyL.cons rfl (fun K hK => ?_) AllReadyL.nil
      go_simp
      (with_reducible refine (hct.out _).mono ?_)
      rintro e w3 ⟨rfl, rfl⟩
      go_simp
      refine hK.out _ _ (HeldL.cons (fun _ => rS.out.k0) HeldL.nil) (fun hHeld' => ?_)
      clear hK K hHeld; have hHeld := hHeld'; clear hHeld'
      try simp only [Act.put, List.getElem_toArray, List.getElem_cons_succ, List.getElem_cons_zero, List.setIfInBounds_toArray, List.set_cons_zero, List.set_cons_succ]
      refine wpAnyL_take0 (i := 4) (v := ?_) rfl (by kernel_rfl) (by kernel_rfl) (by kernel_rfl) (by rfl) (fun _ _ _ h => h) (Or.inl ⟨by rfl, ?_⟩) (by assumption) ?_
      rotate_left
      · (intro W _; go_simp; (with_reducible rfl))
      intro hHeld'
      clear hHeld; have hHeld := hHeld'; clear hHeld'
      try simp only [Act.put, List.getElem_toArray, List.getElem_cons_succ, List.getElem_cons_zero, List.setIfInBounds_toArray, List.set_cons_zero, List.set_cons_succ]
      refine wpAnyL_take0 (i := 5) (v := (.int .i64 (k : Nat))) rfl (by kernel_rfl) (by kernel_rfl) (by kernel_rfl) (by rfl) (fun _ _ _ h => h) (Or.inl ⟨by rfl, ?_⟩) (by assumption) ?_
      · (intro W _; go_simp)
      intro hHeld'
      clear hHeld; have hHeld := hHeld'; clear hHeld'
      try simp only [Act.put, List.getElem_toArray, List.getElem_cons_succ, List.getElem_cons_zero, List.setIfInBounds_toArray, List.set_cons_zero, List.set_cons_succ]
      refine wpAnyL_ready (rs := [6]) (by kernel_rfl) (by simp) ?_
      refine AllReadyL.cons rfl (fun K hK => ?_) AllReadyL.nil
      go_simp
      (with_reducible refine (hik.out _).mono ?_)
      rintro e w4 ⟨rfl, hb⟩
      replace rS := hid (rS.out.call hb)
      clear hb
      go_simp
      refine hK.out _ _ (HeldL.cons (fun _ => rS.out.k0) HeldL.nil) (fun hHeld' => ?_)
      clear hK K hHeld; have hHeld := hHeld'; clear hHeld'
      try simp only [Act.put, List.getElem_toArray, List.getElem_cons_succ, List.getElem_cons_zero, List.setIfInBounds_toArray, List.set_cons_zero, List.set_cons_succ]
      refine wpAnyL_ready (rs := [8]) (by kernel_rfl) (by simp) ?_
      refine AllReadyL.cons rfl (fun K hK => ?_) AllReadyL.nil
      go_simp
      refine hK.out _ _ (HeldL.cons (fun h => absurd h (by decide +kernel)) HeldL.nil) (fun hHeld' => ?_)
      clear hK K hHeld; have hHeld := hHeld'; clear hHeld'
      try simp only [Act.put, List.getElem_toArray, List.getElem_cons_succ, List.getElem_cons_zero, List.setIfInBounds_toArray, List.set_cons_zero, List.set_cons_succ]
      refine wpAnyL_done (by kernel_rfl) ?_ _
      go_wp2
      go_roundw
      case rel => exact ⟨k + 1, by omega, by go_num, rS.out⟩
      case measure => simp [intOf]; omega
    · obtain rfl : k = i := by omega
      have heq := fun W => heq0.out k hkC true ⟨fun _ => hye.out, fun _ => rfl⟩ W
      clear hye
      generalize pim d k 0 = a' at *
      generalize pim d k 1 = b' at *
      generalize pim d k 2 = c' at *
      go_upto_region 4 with (fail)
      replace rS := hid rS.out.drew
      refine wp_region_heldL (L := [(8, (fun w' : World => w'.heap[w.heap.size]? = some (.cells #[.int .u8 (a : Int), .int .u8 (b : Int), .int .u8 (c : Int)] 24 (0, 0))))]) (by kernel_rfl) (HeldL.cons (fun _ => rS.out.k0) HeldL.nil) (fun hHeld => ?_)
      generalize wr.drew = wa at *
      refine wpAnyL_take0 (i := 0) (v := ?_) rfl (by kernel_rfl) (by kernel_rfl) (by kernel_rfl) (by rfl) (fun _ _ _ h => h) (Or.inl ⟨by rfl, ?_⟩) (by assumption) ?_
      rotate_left
      · (intro W _; go_simp; (with_reducible rfl))
      intro hHeld'
      clear hHeld; have hHeld := hHeld'; clear hHeld'
      try simp only [Act.put, List.getElem_toArray, List.getElem_cons_succ, List.getElem_cons_zero, List.setIfInBounds_toArray, List.set_cons_zero, List.set_cons_succ]
      refine wpAnyL_take0 (i := 1) (v := ?_) rfl (by kernel_rfl) (by kernel_rfl) (by kernel_rfl) (by rfl) (fun _ _ _ h => h) (Or.inl ⟨by rfl, ?_⟩) (by assumption) ?_
      rotate_left
      · (intro W _; go_simp; (with_reducible rfl))
      intro hHeld'
      clear hHeld; have hHeld := hHeld'; clear hHeld'
      try simp only [Act.put, List.getElem_toArray, List.getElem_cons_succ, List.getElem_cons_zero, List.setIfInBounds_toArray, List.set_cons_zero, List.set_cons_succ]
      refine wpAnyL_take0 (i := 2) (v := ?_) rfl (by kernel_rfl) (by kernel_rfl) (by kernel_rfl) (by rfl) (fun _ _ _ h => h) (Or.inl ⟨by rfl, ?_⟩) (by assumption) ?_
      rotate_left
      · (intro W _; go_simp; (with_reducible rfl))
      intro hHeld'
      clear hHeld; have hHeld := hHeld'; clear hHeld'
      try simp only [Act.put, List.getElem_toArray, List.getElem_cons_succ, List.getElem_cons_zero, List.setIfInBounds_toArray, List.set_cons_zero, List.set_cons_succ]
      refine wpAnyL_takeP (i := 7) 8 [] (v := (.agg #[.int .u8 (a : Int), .int .u8 (b : Int), .int .u8 (c : Int)])) (fun w' : World => w'.heap[w.heap.size]? = some (.cells #[.int .u8 (a : Int), .int .u8 (b : Int), .int .u8 (c : Int)] 24 (0, 0))) rfl (by kernel_rfl) (by kernel_rfl) (by kernel_rfl) (by rfl) (by kernel_rfl) (by simp) (fun _ _ _ h => h) (Or.inl ⟨by rfl, ?_⟩) (by assumption) ?_
      · (intro W hW; exact exec_load _ rfl rfl (load_b3 hW))
      intro hHeld'
      clear hHeld; have hHeld := hHeld'; clear hHeld'
      try simp only [Act.put, List.getElem_toArray, List.getElem_cons_succ, List.getElem_cons_zero, List.setIfInBounds_toArray, List.set_cons_zero, List.set_cons_succ]
      refine wpAnyL_ready (rs := [3]) (by kernel_rfl) (by simp) ?_
      refine AllReadyL.cons rfl (fun K hK => ?_) AllReadyL.nil
      go_simp
      (with_reducible refine (hct.out _).mono ?_)
      rintro e w3 ⟨rfl, rfl⟩
      go_simp
      refine hK.out _ _ (HeldL.cons (fun _ => rS.out.k0) HeldL.nil) (fun hHeld' => ?_)
      clear hK K hHeld; have hHeld := hHeld'; clear hHeld'
      try simp only [Act.put, List.getElem_toArray, List.getElem_cons_succ, List.getElem_cons_zero, List.setIfInBounds_toArray, List.set_cons_zero, List.set_cons_succ]
      refine wpAnyL_take0 (i := 4) (v := ?_) rfl (by kernel_rfl) (by kernel_rfl) (by kernel_rfl) (by rfl) (fun _ _ _ h => h) (Or.inl ⟨by rfl, ?_⟩) (by assumption) ?_
      rotate_left
      · (intro W _; go_simp; (with_reducible rfl))
      intro hHeld'
      clear hHeld; have hHeld := hHeld'; clear hHeld'
      try simp only [Act.put, List.getElem_toArray, List.getElem_cons_succ, List.getElem_cons_zero, List.setIfInBounds_toArray, List.set_cons_zero, List.set_cons_succ]
      refine wpAnyL_take0 (i := 5) (v := (.int .i64 (k : Nat))) rfl (by kernel_rfl) (by kernel_rfl) (by kernel_rfl) (by rfl) (fun _ _ _ h => h) (Or.inl ⟨by rfl, ?_⟩) (by assumption) ?_
      · (intro W _; go_simp)
      intro hHeld'
      clear hHeld; have hHeld := hHeld'; clear hHeld'
      try simp only [Act.put, List.getElem_toArray, List.getElem_cons_succ, List.getElem_cons_zero, List.setIfInBounds_toArray, List.set_cons_zero, List.set_cons_succ]
      refine wpAnyL_ready (rs := [6]) (by kernel_rfl) (by simp) ?_
      refine AllReadyL.cons rfl (fun K hK => ?_) AllReadyL.nil
      go_simp
      (with_reducible refine (hik.out _).mono ?_)
      rintro e w4 ⟨rfl, hb⟩
      replace rS := hid (rS.out.call hb)
      clear hb
      go_simp
      refine hK.out _ _ (HeldL.cons (fun _ => rS.out.k0) HeldL.nil) (fun hHeld' => ?_)
      clear hK K hHeld; have hHeld := hHeld'; clear hHeld'
      try simp only [Act.put, List.getElem_toArray, List.getElem_cons_succ, List.getElem_cons_zero, List.setIfInBounds_toArray, List.set_cons_zero, List.set_cons_succ]
      refine wpAnyL_ready (rs := [8]) (by kernel_rfl) (by simp) ?_
      refine AllReadyL.cons rfl (fun K hK => ?_) AllReadyL.nil
      go_simp
      refine hK.out _ _ (HeldL.cons (fun h => absurd h (by decide +kernel)) HeldL.nil) (fun hHeld' => ?_)
      clear hK K hHeld; have hHeld := hHeld'; clear hHeld'
      try simp only [Act.put, List.getElem_toArray, List.getElem_cons_succ, List.getElem_cons_zero, List.setIfInBounds_toArray, List.set_cons_zero, List.set_cons_succ]
      refine wpAnyL_done (by kernel_rfl) ?_ _
      go_wp2_with (first
        | (go_at_call 159; (with_reducible refine (hct.out _).mono ?_); rintro e w' ⟨rfl, rfl⟩))
      go_ret
      exact ⟨rfl, rS.out.bel⟩
end Go.Proofs.YthmcdfjijkecfaaGreat

/- PortraitOf: what the reference answers. -/
namespace Go.Proofs.YthmcdfjijkecfaaGreat
open Go.RowKit
set_option linter.unusedVariables false
set_option linter.unusedSimpArgs false
-- @LONG

/-- A row of a machine is a permutation with a number. -/
theorem pnm_two (a b : Nat) (ha : a < 2) (hb : b < 2) (h : a ≠ b) : ∃ i, i < cnt 2 ∧ pnm [(a : Int), (b : Int)] = (i : Nat) ∧ pim 2 i 0 = a ∧ pim 2 i 1 = b ∧ pim 2 i 2 = 0 := by
  have h1 : (a = 0 ∧ b = 1) ∨ (a = 1 ∧ b = 0) := by omega
  rcases h1 with ⟨rfl, rfl⟩ | ⟨rfl, rfl⟩
  · exact ⟨0, by decide, by decide, by decide, by decide, by decide⟩
  · exact ⟨1, by decide, by decide, by decide, by decide, by decide⟩
theorem pnm_three (a b c : Nat) (ha : a < 3) (hb : b < 3) (hc : c < 3) (h : a ≠ b) (h2 : a ≠ c) (h3 : b ≠ c) : ∃ i, i < cnt 3 ∧ pnm [(a : Int), (b : Int), (c : Int)] = (i : Nat) ∧ pim 3 i 0 = a ∧ pim 3 i 1 = b ∧ pim 3 i 2 = c := by
  have h1 : (a = 0 ∧ b = 1 ∧ c = 2) ∨ (a = 0 ∧ b = 2 ∧ c = 1) ∨ (a = 1 ∧ b = 0 ∧ c = 2) ∨ (a = 1 ∧ b = 2 ∧ c = 0) ∨ (a = 2 ∧ b = 0 ∧ c = 1) ∨ (a = 2 ∧ b = 1 ∧ c = 0) := by omega
  rcases h1 with ⟨rfl, rfl, rfl⟩ | ⟨rfl, rfl, rfl⟩ | ⟨rfl, rfl, rfl⟩ | ⟨rfl, rfl, rfl⟩ | ⟨rfl, rfl, rfl⟩ | ⟨rfl, rfl, rfl⟩
  · exact ⟨0, by decide, by decide, by decide, by decide, by decide⟩
  · exact ⟨1, by decide, by decide, by decide, by decide, by decide⟩
  · exact ⟨2, by decide, by decide, by decide, by decide, by decide⟩
  · exact ⟨3, by decide, by decide, by decide, by decide, by decide⟩
  · exact ⟨4, by decide, by decide, by decide, by decide, by decide⟩
  · exact ⟨5, by decide, by decide, by decide, by decide, by decide⟩
theorem pnm_row {m : Mach} {l s : Nat} (gd : Good m l s) {q : Nat} (hq : q < s) : ∃ i, i < cnt l ∧ pnm (rowM m l q) = (i : Nat) ∧ pim l i 0 = m.ot (q * 3 + 0) ∧ pim l i 1 = m.ot (q * 3 + 1) ∧ pim l i 2 = m.ot (q * 3 + 2) := by
  have l2 := gd.l2
  have l3 := gd.l3
  have s16 := gd.s16
  have hl : l = 2 ∨ l = 3 := by omega
  rcases hl with rfl | rfl
  · obtain ⟨i, h1, h2, h3, h4, h5⟩ := pnm_two (m.ot (q * 3 + 0)) (m.ot (q * 3 + 1)) (gd.ot q 0 hq (by omega)) (gd.ot q 1 hq (by omega)) (gd.inj q hq 0 1 (by omega) (by omega))
    exact ⟨i, h1, h2, h3, h4, h5.trans (gd.z q 2 (by omega) (by omega) (by omega)).2.symm⟩
  · exact pnm_three (m.ot (q * 3 + 0)) (m.ot (q * 3 + 1)) (m.ot (q * 3 + 2)) (gd.ot q 0 hq (by omega)) (gd.ot q 1 hq (by omega)) (gd.ot q 2 hq (by omega)) (gd.inj q hq 0 1 (by omega) (by omega)) (gd.inj q hq 0 2 (by omega) (by omega)) (gd.inj q hq 1 2 (by omega) (by omega))
set_option maxHeartbeats 8000000 in
set_option maxRecDepth 100000 in
theorem l03Of_any (w : World) (m : Mach) (l s : Nat) (gd : Good m l s) (q : Nat) (hq : q < s) (n : Nat) (hn : n ≤ 4) :
    Calls Tryz.prog 143 #[.agg (mcells m), .int .i64 q, .int .i64 n] w fun e w' => ∃ v, e = .returned v ∧ Own w' w.heap.size 2 v (ints (prtM m l q n)) ∧ Below w.heap.size w w' := by
  have l2 := gd.l2
  have l3 := gd.l3
  have hd : l = 2 ∨ l = 3 := by omega
  have s16 := gd.s16
  have gL := hid gd.L
  have hS := ((St.start w).newMB m 27).newOwn [] 2 (by simp)
  simp only [heap_alloc_size, List.length_nil] at hS
  replace hS := hid hS
  have hpo := hid (fun k (hk : k < n) W => l01Power_any l k (by omega) (by have := pw5 (n := k) hd (by omega); omega) (by omega) W)
  have hwo := hid (fun k j (hk : k < n) (hj : j < pw l k) W => l01WordOf_any l (by omega) (by omega) k j (by omega) (by have := pw5 (n := k) hd (by omega); omega) W)
  have hac := hid (fun k j (hk : k < n) W => l01Act_any W m l s gd q hq (wrd l k j) (wrd_lt l (by omega) k j) (by rw [wrd_length]; omega))
  have hsl := hid (fun k j => sec_lt gd (wrd l k j) q hq (wrd_lt l (by omega) k j))
  have hnu := hid (fun r (hr : r < s) => (show ∃ i : Nat, pnm (rowM m l r) = i ∧ ∀ W, Calls Tryz.prog 221 #[.int .i64 l, .agg #[.int .u8 (m.ot (r * 3 + 0) : Nat), .int .u8 (m.ot (r * 3 + 1) : Nat), .int .u8 (m.ot (r * 3 + 2) : Nat)]] W fun e w' => e = .returned (.int .i64 (i : Nat)) ∧ Below W.heap.size W w' from by
    obtain ⟨i, hi, h1, h2, h3, h4⟩ := pnm_row gd hr
    exact ⟨i, h1, fun W => l03Number_lit l i hd hi _ _ _ h2.symm h3.symm h4.symm W⟩))
  have hrg := hid (fun (W : World) (hW : MB W 27 w.heap.size m) r (hr : r < s) => (show W.rangeAt w.heap.size (50 + r * 3) [.int .u8 (m.ot (r * 3 + 0) : Nat), .int .u8 (m.ot (r * 3 + 1) : Nat), .int .u8 (m.ot (r * 3 + 2) : Nat)] from fun j v hv => by
    have hj : j < 3 := (List.getElem?_eq_some_iff.1 hv).1
    have h := hW.cot r j (by omega) hj
    rw [h]
    have : j = 0 ∨ j = 1 ∨ j = 2 := by omega
    rcases this with rfl | rfl | rfl <;> simpa using hv))
  obtain ⟨F, hF⟩ : ∃ F : List Nat → Int, F = fun u => pnm (rowM m l (sec m q u)) := ⟨_, rfl⟩
  have hFe := hid (fun k j => (show F (wrd l k j) = pnm (rowM m l (sec m q (wrd l k j))) by rw [hF]))
  have hpr := hid (show prtM m l q n = byL l F n by rw [hF]; rfl)
  have hsn := hid (fun k j => byP_snoc l F k j)
  have hbl := hid (fun k j => byP_length l F k j)
  have hend := hid (fun k => byP_full l F k)
  have hz0 := hid (fun k => byP_zero l F k)
  have hb00 := hid (show byL l F 0 = [] from rfl)
  have hp5 := hid (fun k (hk : k < n) => pw5 (n := k) hd (by omega))
  have hst := hid (fun k (hk : k < n) => (start_le hd (show k ≤ 4 by omega)).1)
  rw [hpr.out]
  clear hF hpr hd
  replace gd := hid gd
  generalize byL l F = BL at *
  generalize byP l F = BP at *
  go_enter Tryz.func143, Tryz.ntmps143
  go_wp2
  go_loopw [7, 8] (fun o i wr => ∃ k : Nat, k ≤ n ∧ i = .int .i64 k ∧ St w.heap.size w [Asn.own w.heap.size 2 o (ints (BL k)), Asn.mb 27 w.heap.size m] wr) (fun _ i _ => n - (intOf i).toNat)
  case atStart => exact ⟨0, Nat.zero_le _, rfl, by rw [hb00.out]; exact hS.out⟩
  case round =>
    obtain ⟨k, hk, rfl, rS⟩ := hrel
    clear hS
    replace rS := hid rS
    by_cases hlk : k < n
    · have dk : decide ((k : Int) < (n : Int)) = true := decide_eq_true (by omega)
      have hpk := hid (hpo.out k hlk)
      have hwk := hid (fun j => hwo.out k j hlk)
      have hak := hid (fun j => hac.out k j hlk)
      have hsk := hid (fun j => hsl.out k j)
      have hM5 := hp5.out k hlk
      have hs4 := hst.out k hlk
      have hek := hid (hend.out k)
      rw [← hz0.out] at rS
      generalize pw l k = M at *
      go_wp2
      go_loopw [7, 9] (fun o i wr => ∃ j : Nat, j ≤ M ∧ i = .int .i64 j ∧ St w.heap.size w [Asn.own w.heap.size 2 o (ints (BP k j)), Asn.mb 27 w.heap.size m] wr) (fun _ i _ => M - (intOf i).toNat)
      case atStart => exact ⟨0, Nat.zero_le _, rfl, rS.out⟩
      case round =>
        obtain ⟨j, hj, rfl, rS⟩ := hrel
        have cL := rS.m1.cL
        rw [gL.out] at cL
        replace rS := hid rS
        by_cases hlj : j < M
        · have dj : decide ((j : Int) < (M : Int)) = true := decide_eq_true (by omega)
          have hwj := hid (hwk.out j hlj)
          have haj := hid (hak.out j)
          have hr := hsk.out j
          have hsn2 := hid (hsn.out k j)
          have hil := hid (ints_length (BP k j))
          have hbl2 := hid (hbl.out k j)
          obtain ⟨i, hi, hnc⟩ := hnu.out _ hr
          have hfi := hid ((hFe.out k j).trans hi)
          have hrj := hid (fun W hW => hrg.out W hW _ hr)
          replace hnc := hid hnc
          clear hi
          generalize F (wrd l k j) = fu at *
          generalize sec m q (wrd l k j) = r at *
          generalize img m q (wrd l k j) = im at *
          generalize wstr (wrd l k j) = su at *
          generalize m.ot (r * 3 + 0) = o0 at *
          generalize m.ot (r * 3 + 1) = o1 at *
          generalize m.ot (r * 3 + 2) = o2 at *
          go_upto_region 8 with (first
            | (go_at_call 120; (with_reducible refine (hpk.out _).mono ?_); rintro e w' ⟨rfl, rfl⟩))
          replace rS := hid rS.out.drew
          refine wp_region_heldL (L := [(7, (fun w' : World => MB w' 27 w.heap.size m))]) (by kernel_rfl) (HeldL.cons (fun _ => rS.out.m1) HeldL.nil) (fun hHeld => ?_)
          generalize wr.drew = wa at *
          refine wpAnyL_takeP (i := 0) 7 [] (v := (.agg (mcells m))) (fun w' : World => MB w' 27 w.heap.size m) rfl (by kernel_rfl) (by kernel_rfl) (by kernel_rfl) (by rfl) (by kernel_rfl) (by simp) (fun _ _ _ h => h) (Or.inl ⟨by rfl, ?_⟩) (by assumption) ?_
          · (intro W hW; exact exec_load _ rfl rfl (load_run hW))
          intro hHeld'
          clear hHeld; have hHeld := hHeld'; clear hHeld'
          try simp only [Act.put, List.getElem_toArray, List.getElem_cons_succ, List.getElem_cons_zero, List.setIfInBounds_toArray, List.set_cons_zero, List.set_cons_succ]
          refine wpAnyL_take0 (i := 1) (v := ?_) rfl (by kernel_rfl) (by kernel_rfl) (by kernel_rfl) (by rfl) (fun _ _ _ h => h) (Or.inl ⟨by rfl, ?_⟩) (by assumption) ?_
          rotate_left
          · (intro W _; go_simp; (with_reducible rfl))
          intro hHeld'
          clear hHeld; have hHeld := hHeld'; clear hHeld'
          try simp only [Act.put, List.getElem_toArray, List.getElem_cons_succ, List.getElem_cons_zero, List.setIfInBounds_toArray, List.set_cons_zero, List.set_cons_succ]
          refine wpAnyL_take0 (i := 2) (v := ?_) rfl (by kernel_rfl) (by kernel_rfl) (by kernel_rfl) (by rfl) (fun _ _ _ h => h) (Or.inl ⟨by rfl, ?_⟩) (by assumption) ?_
          rotate_left
          · (intro W _; go_simp; (with_reducible rfl))
          intro hHeld'
          clear hHeld; have hHeld := hHeld'; clear hHeld'
          try simp only [Act.put, List.getElem_toArray, List.getElem_cons_succ, List.getElem_cons_zero, List.setIfInBounds_toArray, List.set_cons_zero, List.set_cons_succ]
          refine wpAnyL_takeP (i := 3) 7 [6] (v := (.int .i64 l)) (fun w' : World => MB w' 27 w.heap.size m) rfl (by kernel_rfl) (by kernel_rfl) (by kernel_rfl) (by rfl) (by kernel_rfl) (by simp) (fun _ _ _ h => h) (Or.inl ⟨by rfl, ?_⟩) (by assumption) ?_
          · (intro W hW; (have h := hW.cL; rw [gL.out] at h; go_simp))
          intro hHeld'
          clear hHeld; have hHeld := hHeld'; clear hHeld'
          try simp only [Act.put, List.getElem_toArray, List.getElem_cons_succ, List.getElem_cons_zero, List.setIfInBounds_toArray, List.set_cons_zero, List.set_cons_succ]
          refine wpAnyL_take0 (i := 4) (v := ?_) rfl (by kernel_rfl) (by kernel_rfl) (by kernel_rfl) (by rfl) (fun _ _ _ h => h) (Or.inl ⟨by rfl, ?_⟩) (by assumption) ?_
          rotate_left
          · (intro W _; go_simp; (with_reducible rfl))
          intro hHeld'
          clear hHeld; have hHeld := hHeld'; clear hHeld'
          try simp only [Act.put, List.getElem_toArray, List.getElem_cons_succ, List.getElem_cons_zero, List.setIfInBounds_toArray, List.set_cons_zero, List.set_cons_succ]
          refine wpAnyL_take0 (i := 5) (v := ?_) rfl (by kernel_rfl) (by kernel_rfl) (by kernel_rfl) (by rfl) (fun _ _ _ h => h) (Or.inl ⟨by rfl, ?_⟩) (by assumption) ?_
          rotate_left
          · (intro W _; go_simp; (with_reducible rfl))
          intro hHeld'
          clear hHeld; have hHeld := hHeld'; clear hHeld'
          try simp only [Act.put, List.getElem_toArray, List.getElem_cons_succ, List.getElem_cons_zero, List.setIfInBounds_toArray, List.set_cons_zero, List.set_cons_succ]
          refine wpAnyL_ready (rs := [6]) (by kernel_rfl) (by simp) ?_
          refine AllReadyL.cons rfl (fun K hK => ?_) AllReadyL.nil
          go_simp
          (with_reducible refine (hwj.out _).mono ?_)
          rintro e w3 ⟨rfl, hb⟩
          replace rS := hid (rS.out.call hb)
          clear hb cL
          go_simp
          refine hK.out _ _ (HeldL.cons (fun _ => rS.out.m1) HeldL.nil) (fun hHeld' => ?_)
          clear hK K hHeld; have hHeld := hHeld'; clear hHeld'
          try simp only [Act.put, List.getElem_toArray, List.getElem_cons_succ, List.getElem_cons_zero, List.setIfInBounds_toArray, List.set_cons_zero, List.set_cons_succ]
          refine wpAnyL_ready (rs := [7]) (by kernel_rfl) (by simp) ?_
          refine AllReadyL.cons rfl (fun K hK => ?_) AllReadyL.nil
          go_simp
          (with_reducible refine (haj.out _).mono ?_)
          rintro e w4 ⟨rfl, hb⟩
          replace rS := hid (rS.out.call hb)
          clear hb
          go_simp
          refine hK.out _ _ (HeldL.cons (fun h => absurd h (by decide +kernel)) HeldL.nil) (fun hHeld' => ?_)
          clear hK K hHeld; have hHeld := hHeld'; clear hHeld'
          try simp only [Act.put, List.getElem_toArray, List.getElem_cons_succ, List.getElem_cons_zero, List.setIfInBounds_toArray, List.set_cons_zero, List.set_cons_succ]
          refine wpAnyL_take0 (i := 8) (v := ?_) rfl (by kernel_rfl) (by kernel_rfl) (by kernel_rfl) (by rfl) (fun _ _ _ h => h) (Or.inl ⟨by rfl, ?_⟩) (by assumption) ?_
          rotate_left
          · (intro W _; go_simp; (with_reducible rfl))
          intro hHeld'
          clear hHeld; have hHeld := hHeld'; clear hHeld'
          try simp only [Act.put, List.getElem_toArray, List.getElem_cons_succ, List.getElem_cons_zero, List.setIfInBounds_toArray, List.set_cons_zero, List.set_cons_succ]
          refine wpAnyL_take0 (i := 9) (v := ?_) rfl (by kernel_rfl) (by kernel_rfl) (by kernel_rfl) (by rfl) (fun _ _ _ h => h) (Or.inl ⟨by rfl, ?_⟩) (by assumption) ?_
          rotate_left
          · (intro W _; go_simp; (with_reducible rfl))
          intro hHeld'
          clear hHeld; have hHeld := hHeld'; clear hHeld'
          try simp only [Act.put, List.getElem_toArray, List.getElem_cons_succ, List.getElem_cons_zero, List.setIfInBounds_toArray, List.set_cons_zero, List.set_cons_succ]
          refine wpAnyL_take0 (i := 10) (v := ?_) rfl (by kernel_rfl) (by kernel_rfl) (by kernel_rfl) (by rfl) (fun _ _ _ h => h) (Or.inl ⟨by rfl, ?_⟩) (by assumption) ?_
          rotate_left
          · (intro W _; go_simp; (with_reducible rfl))
          intro hHeld'
          clear hHeld; have hHeld := hHeld'; clear hHeld'
          try simp only [Act.put, List.getElem_toArray, List.getElem_cons_succ, List.getElem_cons_zero, List.setIfInBounds_toArray, List.set_cons_zero, List.set_cons_succ]
          refine wpAnyL_take0 (i := 11) (v := ?_) rfl (by kernel_rfl) (by kernel_rfl) (by kernel_rfl) (by rfl) (fun _ _ _ h => h) (Or.inl ⟨by rfl, ?_⟩) (by assumption) ?_
          rotate_left
          · (intro W _; go_simp; (with_reducible rfl))
          intro hHeld'
          clear hHeld; have hHeld := hHeld'; clear hHeld'
          try simp only [Act.put, List.getElem_toArray, List.getElem_cons_succ, List.getElem_cons_zero, List.setIfInBounds_toArray, List.set_cons_zero, List.set_cons_succ]
          refine wpAnyL_take0 (i := 12) (v := ?_) rfl (by kernel_rfl) (by kernel_rfl) (by kernel_rfl) (by rfl) (fun _ _ _ h => h) (Or.inl ⟨by rfl, ?_⟩) (by assumption) ?_
          rotate_left
          · (intro W _; go_simp; (with_reducible rfl))
          intro hHeld'
          clear hHeld; have hHeld := hHeld'; clear hHeld'
          try simp only [Act.put, List.getElem_toArray, List.getElem_cons_succ, List.getElem_cons_zero, List.setIfInBounds_toArray, List.set_cons_zero, List.set_cons_succ]
          refine wpAnyL_done (by kernel_rfl) ?_ _
          have r0 : (0 : Int) ≤ (r : Int) := Int.natCast_nonneg _
          have r1 : (r : Int) < 16 := by omega
          go_upto_region 9 with (fail)
          replace rS := hid rS.out.drew
          refine wp_region_heldL (L := [(9, (fun w' : World => MB w' 27 w.heap.size m))]) (by kernel_rfl) (HeldL.cons (fun _ => rS.out.m1) HeldL.nil) (fun hHeld => ?_)
          generalize w4.drew = wb at *
          refine wpAnyL_take0 (i := 0) (v := ?_) rfl (by kernel_rfl) (by kernel_rfl) (by kernel_rfl) (by rfl) (fun _ _ _ h => h) (Or.inl ⟨by rfl, ?_⟩) (by assumption) ?_
          rotate_left
          · (intro W _; go_simp; (with_reducible rfl))
          intro hHeld'
          clear hHeld; have hHeld := hHeld'; clear hHeld'
          try simp only [Act.put, List.getElem_toArray, List.getElem_cons_succ, List.getElem_cons_zero, List.setIfInBounds_toArray, List.set_cons_zero, List.set_cons_succ]
          refine wpAnyL_take0 (i := 1) (v := ?_) rfl (by kernel_rfl) (by kernel_rfl) (by kernel_rfl) (by rfl) (fun _ _ _ h => h) (Or.inl ⟨by rfl, ?_⟩) (by assumption) ?_
          rotate_left
          · (intro W _; go_simp; (with_reducible rfl))
          intro hHeld'
          clear hHeld; have hHeld := hHeld'; clear hHeld'
          try simp only [Act.put, List.getElem_toArray, List.getElem_cons_succ, List.getElem_cons_zero, List.setIfInBounds_toArray, List.set_cons_zero, List.set_cons_succ]
          refine wpAnyL_takeP (i := 2) 9 [7] (v := (.int .i64 l)) (fun w' : World => MB w' 27 w.heap.size m) rfl (by kernel_rfl) (by kernel_rfl) (by kernel_rfl) (by rfl) (by kernel_rfl) (by simp) (fun _ _ _ h => h) (Or.inl ⟨by rfl, ?_⟩) (by assumption) ?_
          · (intro W hW; (have h := hW.cL; rw [gL.out] at h; go_simp))
          intro hHeld'
          clear hHeld; have hHeld := hHeld'; clear hHeld'
          try simp only [Act.put, List.getElem_toArray, List.getElem_cons_succ, List.getElem_cons_zero, List.setIfInBounds_toArray, List.set_cons_zero, List.set_cons_succ]
          refine wpAnyL_take0 (i := 3) (v := ?_) rfl (by kernel_rfl) (by kernel_rfl) (by kernel_rfl) (by rfl) (fun _ _ _ h => h) (Or.inl ⟨by rfl, ?_⟩) (by assumption) ?_
          rotate_left
          · (intro W _; go_simp; (with_reducible rfl))
          intro hHeld'
          clear hHeld; have hHeld := hHeld'; clear hHeld'
          try simp only [Act.put, List.getElem_toArray, List.getElem_cons_succ, List.getElem_cons_zero, List.setIfInBounds_toArray, List.set_cons_zero, List.set_cons_succ]
          refine wpAnyL_take0 (i := 4) (v := ?_) rfl (by kernel_rfl) (by kernel_rfl) (by kernel_rfl) (by rfl) (fun _ _ _ h => h) (Or.inl ⟨by rfl, ?_⟩) (by assumption) ?_
          rotate_left
          · (intro W _; go_simp; (with_reducible rfl))
          intro hHeld'
          clear hHeld; have hHeld := hHeld'; clear hHeld'
          try simp only [Act.put, List.getElem_toArray, List.getElem_cons_succ, List.getElem_cons_zero, List.setIfInBounds_toArray, List.set_cons_zero, List.set_cons_succ]
          refine wpAnyL_take0 (i := 5) (v := ?_) rfl (by kernel_rfl) (by kernel_rfl) (by kernel_rfl) (by rfl) (fun _ _ _ h => h) (Or.inl ⟨by rfl, ?_⟩) (by assumption) ?_
          rotate_left
          · (intro W _; go_simp; (with_reducible rfl))
          intro hHeld'
          clear hHeld; have hHeld := hHeld'; clear hHeld'
          try simp only [Act.put, List.getElem_toArray, List.getElem_cons_succ, List.getElem_cons_zero, List.setIfInBounds_toArray, List.set_cons_zero, List.set_cons_succ]
          refine wpAnyL_takeP (i := 6) 9 [7] (v := (.agg #[.int .u8 (o0 : Nat), .int .u8 (o1 : Nat), .int .u8 (o2 : Nat)])) (fun w' : World => MB w' 27 w.heap.size m) rfl (by kernel_rfl) (by kernel_rfl) (by kernel_rfl) (by rfl) (by kernel_rfl) (by simp) (fun _ _ _ h => h) (Or.inl ⟨by rfl, ?_⟩) (by assumption) ?_
          · (intro W hW; exact exec_load _ rfl rfl (run_loadVar_mid (P := Tryz.prog) W w.heap.size (50 + r * 3) 24 _ _ (hrj.out W hW) Tryz.underlying24 rfl sz_b3))
          intro hHeld'
          clear hHeld; have hHeld := hHeld'; clear hHeld'
          try simp only [Act.put, List.getElem_toArray, List.getElem_cons_succ, List.getElem_cons_zero, List.setIfInBounds_toArray, List.set_cons_zero, List.set_cons_succ]
          refine wpAnyL_ready (rs := [7]) (by kernel_rfl) (by simp) ?_
          refine AllReadyL.cons rfl (fun K hK => ?_) AllReadyL.nil
          go_simp
          (with_reducible refine (hnc.out _).mono ?_)
          rintro e w5 ⟨rfl, hb⟩
          replace rS := hid (rS.out.call hb)
          clear hb
          go_simp
          refine hK.out _ _ (HeldL.cons (fun _ => rS.out.m1) HeldL.nil) (fun hHeld' => ?_)
          clear hK K hHeld; have hHeld := hHeld'; clear hHeld'
          try simp only [Act.put, List.getElem_toArray, List.getElem_cons_succ, List.getElem_cons_zero, List.setIfInBounds_toArray, List.set_cons_zero, List.set_cons_succ]
          refine wpAnyL_ready (rs := [8]) (by kernel_rfl) (by simp) ?_
          refine AllReadyL.cons rfl (fun K hK => ?_) AllReadyL.nil
          go_simp
          replace rS := hid (rS.out.newBlk #[.int .i64 (i : Nat)] 2)
          generalize w5.heap.size = bx at *
          generalize w5.alloc (.cells #[.int .i64 (i : Nat)] 2) = w6 at *
          refine hK.out _ _ (HeldL.cons (fun _ => rS.out.m2) HeldL.nil) (fun hHeld' => ?_)
          clear hK K hHeld; have hHeld := hHeld'; clear hHeld'
          try simp only [Act.put, List.getElem_toArray, List.getElem_cons_succ, List.getElem_cons_zero, List.setIfInBounds_toArray, List.set_cons_zero, List.set_cons_succ]
          refine wpAnyL_ready (rs := [9]) (by kernel_rfl) (by simp) ?_
          refine AllReadyL.cons rfl (fun K hK => ?_) AllReadyL.nil
          refine St.step1 32 2 2 (.int .i64 0) 8 Tryz.underlying32 info_i64 rfl (by omega) rfl _ _ rfl _ _ rfl rS.out.f1 rfl rfl (start l k + j) (by rw [hil.out, hbl2.out]) (by omega) ?_
          intro gn cn w7 rS'
          replace rS := hid rS'.f1.drop
          clear rS'
          refine hK.out _ _ (HeldL.cons (fun h => absurd h (by decide +kernel)) HeldL.nil) (fun hHeld' => ?_)
          clear hK K hHeld; have hHeld := hHeld'; clear hHeld'
          try simp only [Act.put, List.getElem_toArray, List.getElem_cons_succ, List.getElem_cons_zero, List.setIfInBounds_toArray, List.set_cons_zero, List.set_cons_succ]
          refine wpAnyL_take0 (i := 10) (v := ?_) rfl (by kernel_rfl) (by kernel_rfl) (by kernel_rfl) (by rfl) (fun _ _ _ h => h) (Or.inl ⟨by rfl, ?_⟩) (by assumption) ?_
          rotate_left
          · (intro W _; go_simp; (with_reducible rfl))
          intro hHeld'
          clear hHeld; have hHeld := hHeld'; clear hHeld'
          try simp only [Act.put, List.getElem_toArray, List.getElem_cons_succ, List.getElem_cons_zero, List.setIfInBounds_toArray, List.set_cons_zero, List.set_cons_succ]
          refine wpAnyL_done (by kernel_rfl) ?_ _
          rw [← ints_snoc, ← hfi.out, ← hsn2.out] at rS
          go_wp2
          go_roundw
          case rel => exact ⟨j + 1, by omega, by go_num, rS.out⟩
          case measure => simp [intOf]; omega
        · obtain rfl : j = M := by omega
          have dj : decide ((j : Int) < (j : Int)) = false := decide_eq_false (by omega)
          rw [hek.out] at rS
          go_wp2_with (first
            | (go_at_call 120; (with_reducible refine (hpk.out _).mono ?_); rintro e w' ⟨rfl, rfl⟩))
          go_roundw
          case rel => exact ⟨k + 1, by omega, by go_num, rS.out⟩
          case measure => simp [intOf]; omega
    · obtain rfl : k = n := by omega
      have dk : decide ((k : Int) < (k : Int)) = false := decide_eq_false (by omega)
      go_wp2
      go_ret
      exact ⟨_, rfl, rS.out.o0, rS.out.bel⟩
set_option maxHeartbeats 4000000 in
set_option maxRecDepth 4000 in
theorem specPof_any (w : World) (m : Mach) (hk : m.Ok) (q n : Int) :
    Calls Tryz.prog 45 #[.agg (mcells m), .int .i64 q, .int .i64 n] w fun e w' => ∃ v', e = .returned (.tuple #[v', .int .i64 (pofAns m q n).2]) ∧ Own w' w.heap.size 2 v' (ints (pofAns m q n).1) ∧ Below w.heap.size w w' := by
  have hS := hid ((St.start w).newMB m 27)
  by_cases hm : IsM m
  · have hi := hid (fun W => l01Is_any W m hk true ⟨fun _ => hm, fun _ => rfl⟩)
    obtain ⟨l, s, gd⟩ := hm.good
    have gS := hid gd.S
    have s16 := gd.s16
    have ew : IntKind.i64.wrap ((s : Int) - 1) = (s : Int) - 1 := IntWalk.i64_in _ (by omega)
    have hq1 := hid (fun W => l01In_any q 0 ((s : Int) - 1) (decide (0 ≤ q ∧ q ≤ (s : Int) - 1)) rfl W)
    have hn1 := hid (fun W => l01In_any n 1 4 (decide (1 ≤ n ∧ n ≤ 4)) rfl W)
    rcases codeI1 m q with ⟨hc, h⟩ | ⟨hc, _, h⟩ | ⟨hc, l', s', k, gd', rfl, hks⟩
    · exact absurd hm h
    · rw [pofAns_c hc (by decide)]
      rw [gd.S] at h
      rw [decide_eq_false (by omega)] at hq1
      clear h hc
      replace hk := hid hk; replace gd := hid gd
      go_enter Tryz.func45, Tryz.ntmps45
      go_wp2_with (first
        | ((with_reducible refine gate (N := 9) rfl ?_); refine load_mach rfl _ rfl w.heap.size rfl m hS.out.m0 ?_)
        | ((with_reducible refine gate (N := 24) rfl ?_); refine load_mach rfl _ rfl w.heap.size rfl m hS.out.m0 ?_)
        | (go_at_call 141; (with_reducible refine (hi.out _).mono ?_); rintro e w1 ⟨rfl, hb⟩; replace hS := hid (hS.out.call hb); have cS := hS.out.m0.cS; rw [gS.out] at cS; clear hb)
        | (go_at_call 142; (first | (with_reducible refine (hq1.out _).mono ?_) | (with_reducible refine (hn1.out _).mono ?_)); rintro e w2 ⟨rfl, rfl⟩)
        | (go_at_call 143; (with_reducible refine (hof.out _).mono ?_); rintro e w3 ⟨v3, rfl, hO, hb⟩; replace hS := hid (hS.out.callOwn hb hO); clear hO hb cS))
      go_ret2
      exact ⟨_, rfl, Own.nil _ _ _, hS.out.bel⟩
    · obtain ⟨rfl, rfl⟩ := good_uniq gd gd'
      rw [decide_eq_true (by omega)] at hq1
      by_cases hn : 1 ≤ n ∧ n ≤ 4
      · obtain ⟨n, rfl⟩ := Int.eq_ofNat_of_zero_le (show 0 ≤ n by omega)
        rw [pofAns_0 gd hc (by omega)]
        rw [decide_eq_true hn] at hn1
        have hof := hid (fun W => l03Of_any W m _ _ gd k hks n (by omega))
        clear hc hn
        replace hk := hid hk; replace gd := hid gd
        go_enter Tryz.func45, Tryz.ntmps45
        go_wp2_with (first
          | ((with_reducible refine gate (N := 9) rfl ?_); refine load_mach rfl _ rfl w.heap.size rfl m hS.out.m0 ?_)
          | ((with_reducible refine gate (N := 24) rfl ?_); refine load_mach rfl _ rfl w.heap.size rfl m hS.out.m0 ?_)
          | (go_at_call 141; (with_reducible refine (hi.out _).mono ?_); rintro e w1 ⟨rfl, hb⟩; replace hS := hid (hS.out.call hb); have cS := hS.out.m0.cS; rw [gS.out] at cS; clear hb)
          | (go_at_call 142; (first | (with_reducible refine (hq1.out _).mono ?_) | (with_reducible refine (hn1.out _).mono ?_)); rintro e w2 ⟨rfl, rfl⟩)
          | (go_at_call 143; (with_reducible refine (hof.out _).mono ?_); rintro e w3 ⟨v3, rfl, hO, hb⟩; replace hS := hid (hS.out.callOwn hb hO); clear hO hb cS))
        go_ret2
        exact ⟨_, rfl, hS.out.o0, hS.out.bel⟩
      · rw [pofAns_2 hc hn]
        rw [decide_eq_false hn] at hn1
        clear hc hn
        replace hk := hid hk; replace gd := hid gd
        go_enter Tryz.func45, Tryz.ntmps45
        go_wp2_with (first
          | ((with_reducible refine gate (N := 9) rfl ?_); refine load_mach rfl _ rfl w.heap.size rfl m hS.out.m0 ?_)
          | ((with_reducible refine gate (N := 24) rfl ?_); refine load_mach rfl _ rfl w.heap.size rfl m hS.out.m0 ?_)
          | (go_at_call 141; (with_reducible refine (hi.out _).mono ?_); rintro e w1 ⟨rfl, hb⟩; replace hS := hid (hS.out.call hb); have cS := hS.out.m0.cS; rw [gS.out] at cS; clear hb)
          | (go_at_call 142; (first | (with_reducible refine (hq1.out _).mono ?_) | (with_reducible refine (hn1.out _).mono ?_)); rintro e w2 ⟨rfl, rfl⟩)
          | (go_at_call 143; (with_reducible refine (hof.out _).mono ?_); rintro e w3 ⟨v3, rfl, hO, hb⟩; replace hS := hid (hS.out.callOwn hb hO); clear hO hb cS))
        go_ret2
        exact ⟨_, rfl, Own.nil _ _ _, hS.out.bel⟩
  · have hi := hid (fun W => l01Is_any W m hk false ⟨fun h => (by cases h), fun h => absurd h hm⟩)
    have hc : codeI m { data := #[] } [q] = 1 := by
      rcases codeI1 m q with ⟨hc, _⟩ | ⟨_, h, _⟩ | ⟨_, l, s, k, gd, _⟩
      · exact hc
      · exact absurd h hm
      · exact absurd gd.isM hm
    rw [pofAns_c hc (by decide)]
    clear hc
    replace hk := hid hk
    go_enter Tryz.func45, Tryz.ntmps45
    go_wp2_with (first
      | ((with_reducible refine gate (N := 9) rfl ?_); refine load_mach rfl _ rfl w.heap.size rfl m hS.out.m0 ?_)
      | (go_at_call 141; (with_reducible refine (hi.out _).mono ?_); rintro e w1 ⟨rfl, hb⟩; replace hS := hid (hS.out.call hb); clear hb))
    go_ret2
    exact ⟨_, rfl, Own.nil _ _ _, hS.out.bel⟩
end Go.Proofs.YthmcdfjijkecfaaGreat
